/-
  No cell of these rows narrows 'for every input' (looked for: loops, veiled, ifaces, maps, wideKeys, modest, calm, conditions, laid).
  DERIVED. THE GIVEN ROWS OF THIS SEAT. 5 by the template 'for every input the law returns true; each argument reads behind the call as it read before'; 0 by the template 'total and deterministic' (their statements: YtnibhkeleogjcaaTotals.lean).
  GIVEN WITH THE SEED: the statements are not yours to turn. If you find one false, say at which input.
  Laid BY PROGRAM, IN A SANDBOX (cutbox-rows.mjs): the forced cells as the released guide's own fill.sh prints them over the translation dd7a13a64e18298f… (all of the seat's roots in one cut). By AI agents, Wed Nov 11 2026. No macro, syntax, notation, axiom, sorry.
-/
import Derived.Test.YtnibhkeleogjcaaChecked
import GoSem.Claim
import GoSem.ClaimJoined
import GoSem.ClaimMapViews
import Derived.JoinedTies
import Derived.KernelRfl
namespace Go.Proofs.Ytnibhkeleogjcaa
/- THE CELL 'sum', in the pinned program and in every row, IS THE sha256 OF THE DUMP (.gsa) THAT YtnibhkeleogjcaaProg.lean LOADS. Nothing in Lean hashes anything: it is a label: what it is worth is what the hold of that sum in a sandbox is worth. -/
noncomputable def Try.pinned : Pinned := { name := "ytnibhkeleogjcaa", sum := "dd7a13a64e18298f3961c138f321517a7992df43f489ff21a7f8a476283ad053", checked := Try.checked }
namespace Rows
def none {H : Type} : Left H := { results := [], args := [] }

/-- 'ringkeep1.SpanDeep': WHATEVER THE INPUT: true; the input reads as it did. -/
def spanDeepSpec : ChangeSpec := { name := "spanDeep", fn := fun _ => fun
  | [d1, d2, d3] => { results := [.lit (.bool true)], args := [d1, d2, d3] }
  | _ => none }
def spanDeepRow : OpenClaim := { program := "ytnibhkeleogjcaa", sum := "dd7a13a64e18298f3961c138f321517a7992df43f489ff21a7f8a476283ad053", func := "ringhall/ringkeep1.SpanDeep", spec := "spanDeep", recurses := true, apart := false }
def SpanDeepSaid : Prop := spanDeepRow.holds Try.pinned (OpenSpec.ofChange spanDeepSpec)

/-- ITS FALSE NEIGHBOUR: 'it returns false'. Refute it at one input. -/
def spanDeepWrong : ChangeSpec := { name := "spanDeep", fn := fun _ => fun
  | [d1, d2, d3] => { results := [.lit (.bool false)], args := [d1, d2, d3] }
  | _ => none }
def SpanDeepWrongFalsely : Prop := spanDeepRow.holds Try.pinned (OpenSpec.ofChange spanDeepWrong)

/-- 'ringkeep1.SpanWalks': WHATEVER THE INPUT: true; the input reads as it did. -/
def spanWalksSpec : ChangeSpec := { name := "spanWalks", fn := fun _ => fun
  | [d] => { results := [.lit (.bool true)], args := [d] }
  | _ => none }
def spanWalksRow : OpenClaim := { program := "ytnibhkeleogjcaa", sum := "dd7a13a64e18298f3961c138f321517a7992df43f489ff21a7f8a476283ad053", func := "ringhall/ringkeep1.SpanWalks", spec := "spanWalks", recurses := true, apart := false }
def SpanWalksSaid : Prop := spanWalksRow.holds Try.pinned (OpenSpec.ofChange spanWalksSpec)

/-- ITS FALSE NEIGHBOUR: 'it returns false'. Refute it at one input. -/
def spanWalksWrong : ChangeSpec := { name := "spanWalks", fn := fun _ => fun
  | [d] => { results := [.lit (.bool false)], args := [d] }
  | _ => none }
def SpanWalksWrongFalsely : Prop := spanWalksRow.holds Try.pinned (OpenSpec.ofChange spanWalksWrong)

/-- 'ringkeep1.SpanLies': WHATEVER THE INPUT: true; the input reads as it did. -/
def spanLiesSpec : ChangeSpec := { name := "spanLies", fn := fun _ => fun
  | [d1, d2] => { results := [.lit (.bool true)], args := [d1, d2] }
  | _ => none }
def spanLiesRow : OpenClaim := { program := "ytnibhkeleogjcaa", sum := "dd7a13a64e18298f3961c138f321517a7992df43f489ff21a7f8a476283ad053", func := "ringhall/ringkeep1.SpanLies", spec := "spanLies", recurses := true, apart := false }
def SpanLiesSaid : Prop := spanLiesRow.holds Try.pinned (OpenSpec.ofChange spanLiesSpec)

/-- ITS FALSE NEIGHBOUR: 'it returns false'. Refute it at one input. -/
def spanLiesWrong : ChangeSpec := { name := "spanLies", fn := fun _ => fun
  | [d1, d2] => { results := [.lit (.bool false)], args := [d1, d2] }
  | _ => none }
def SpanLiesWrongFalsely : Prop := spanLiesRow.holds Try.pinned (OpenSpec.ofChange spanLiesWrong)

/-- 'ringkeep1.SpanGrows': WHATEVER THE INPUT: true; the input reads as it did. -/
def spanGrowsSpec : ChangeSpec := { name := "spanGrows", fn := fun _ => fun
  | [d1, d2, d3, d4, d5] => { results := [.lit (.bool true)], args := [d1, d2, d3, d4, d5] }
  | _ => none }
def spanGrowsRow : OpenClaim := { program := "ytnibhkeleogjcaa", sum := "dd7a13a64e18298f3961c138f321517a7992df43f489ff21a7f8a476283ad053", func := "ringhall/ringkeep1.SpanGrows", spec := "spanGrows", recurses := true, apart := false }
def SpanGrowsSaid : Prop := spanGrowsRow.holds Try.pinned (OpenSpec.ofChange spanGrowsSpec)

/-- ITS FALSE NEIGHBOUR: 'it returns false'. Refute it at one input. -/
def spanGrowsWrong : ChangeSpec := { name := "spanGrows", fn := fun _ => fun
  | [d1, d2, d3, d4, d5] => { results := [.lit (.bool false)], args := [d1, d2, d3, d4, d5] }
  | _ => none }
def SpanGrowsWrongFalsely : Prop := spanGrowsRow.holds Try.pinned (OpenSpec.ofChange spanGrowsWrong)

/-- 'ringkeep1.SpanMoves': WHATEVER THE INPUT: true; the input reads as it did. -/
def spanMovesSpec : ChangeSpec := { name := "spanMoves", fn := fun _ => fun
  | [d1, d2, d3, d4, d5] => { results := [.lit (.bool true)], args := [d1, d2, d3, d4, d5] }
  | _ => none }
def spanMovesRow : OpenClaim := { program := "ytnibhkeleogjcaa", sum := "dd7a13a64e18298f3961c138f321517a7992df43f489ff21a7f8a476283ad053", func := "ringhall/ringkeep1.SpanMoves", spec := "spanMoves", recurses := true, apart := false }
def SpanMovesSaid : Prop := spanMovesRow.holds Try.pinned (OpenSpec.ofChange spanMovesSpec)

/-- ITS FALSE NEIGHBOUR: 'it returns false'. Refute it at one input. -/
def spanMovesWrong : ChangeSpec := { name := "spanMoves", fn := fun _ => fun
  | [d1, d2, d3, d4, d5] => { results := [.lit (.bool false)], args := [d1, d2, d3, d4, d5] }
  | _ => none }
def SpanMovesWrongFalsely : Prop := spanMovesRow.holds Try.pinned (OpenSpec.ofChange spanMovesWrong)

/- THE SECOND FORM. 'bulk': how many values and letters a reading holds, each counted each time it is reached (what is shared counts as often as it is met; a slice's spare places count too). A statement '..UptoSaid' is the law's where the arguments, and the package variables that the reading takes, are together of bulk at most 1048576: NARROWER than '..Said'. Prove '..Said' where nothing that the law and all that it calls make is longer than what came in: it says more and counts as full. Else prove '..UptoSaid'. A law counts once. -/
mutual
def uptoBulk {H : Type} : DataW H → Nat
  | .lit (.string bytes) => bytes.length + 1
  | .lit _ => 1
  | .nil => 1
  | .ptr d => uptoBulk d + 1
  | .slice elems spare => uptoBulkAll elems + uptoBulkAll spare + 1
  | .agg parts => uptoBulkAll parts + 1
  | .iface _ d => uptoBulk d + 1
  | .map entries => uptoBulkEntries entries + 1
  | .held _ => 1
def uptoBulkAll {H : Type} : List (DataW H) → Nat
  | [] => 0
  | d :: r => uptoBulk d + uptoBulkAll r
def uptoBulkEntries {H : Type} : List (Lit × DataW H) → Nat
  | [] => 0
  | x :: r => uptoBulkEntry x + uptoBulkEntries r
def uptoBulkEntry {H : Type} : Lit × DataW H → Nat
  | (.string bytes, d) => bytes.length + uptoBulk d + 1
  | (_, d) => uptoBulk d + 1
 end
def uptoSmall : (H : Type) → List (DataW H) → Bool := fun _ ds => decide (uptoBulkAll ds ≤ 1048576)
def OpenSpec.upto (s : _root_.Go.ChangeSpec) : _root_.Go.OpenSpec := { _root_.Go.OpenSpec.ofChange s with cond := some uptoSmall }

/-- 'ringkeep1.SpanDeep', WHERE WHAT IT READS IS OF BULK AT MOST 1048576: true; the input reads as it did. -/
def spanDeepUptoRow : OpenClaim := { program := "ytnibhkeleogjcaa", sum := "dd7a13a64e18298f3961c138f321517a7992df43f489ff21a7f8a476283ad053", func := "ringhall/ringkeep1.SpanDeep", spec := "spanDeep", recurses := true, apart := false, narrowed := true }
def SpanDeepUptoSaid : Prop := spanDeepUptoRow.holds Try.pinned (OpenSpec.upto spanDeepSpec)

/-- 'ringkeep1.SpanWalks', WHERE WHAT IT READS IS OF BULK AT MOST 1048576: true; the input reads as it did. -/
def spanWalksUptoRow : OpenClaim := { program := "ytnibhkeleogjcaa", sum := "dd7a13a64e18298f3961c138f321517a7992df43f489ff21a7f8a476283ad053", func := "ringhall/ringkeep1.SpanWalks", spec := "spanWalks", recurses := true, apart := false, narrowed := true }
def SpanWalksUptoSaid : Prop := spanWalksUptoRow.holds Try.pinned (OpenSpec.upto spanWalksSpec)

/-- 'ringkeep1.SpanLies', WHERE WHAT IT READS IS OF BULK AT MOST 1048576: true; the input reads as it did. -/
def spanLiesUptoRow : OpenClaim := { program := "ytnibhkeleogjcaa", sum := "dd7a13a64e18298f3961c138f321517a7992df43f489ff21a7f8a476283ad053", func := "ringhall/ringkeep1.SpanLies", spec := "spanLies", recurses := true, apart := false, narrowed := true }
def SpanLiesUptoSaid : Prop := spanLiesUptoRow.holds Try.pinned (OpenSpec.upto spanLiesSpec)

/-- 'ringkeep1.SpanGrows', WHERE WHAT IT READS IS OF BULK AT MOST 1048576: true; the input reads as it did. -/
def spanGrowsUptoRow : OpenClaim := { program := "ytnibhkeleogjcaa", sum := "dd7a13a64e18298f3961c138f321517a7992df43f489ff21a7f8a476283ad053", func := "ringhall/ringkeep1.SpanGrows", spec := "spanGrows", recurses := true, apart := false, narrowed := true }
def SpanGrowsUptoSaid : Prop := spanGrowsUptoRow.holds Try.pinned (OpenSpec.upto spanGrowsSpec)

/-- 'ringkeep1.SpanMoves', WHERE WHAT IT READS IS OF BULK AT MOST 1048576: true; the input reads as it did. -/
def spanMovesUptoRow : OpenClaim := { program := "ytnibhkeleogjcaa", sum := "dd7a13a64e18298f3961c138f321517a7992df43f489ff21a7f8a476283ad053", func := "ringhall/ringkeep1.SpanMoves", spec := "spanMoves", recurses := true, apart := false, narrowed := true }
def SpanMovesUptoSaid : Prop := spanMovesUptoRow.holds Try.pinned (OpenSpec.upto spanMovesSpec)

end Rows
end Go.Proofs.Ytnibhkeleogjcaa
