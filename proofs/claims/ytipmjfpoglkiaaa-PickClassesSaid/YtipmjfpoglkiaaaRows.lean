/-
  No cell of these rows narrows 'for every input' (looked for: loops, veiled, ifaces, maps, wideKeys, modest, calm, conditions, laid).
  DERIVED. THE GIVEN ROWS OF THIS SEAT. 3 by the template 'for every input the law returns true; each argument reads behind the call as it read before'; 0 by the template 'total and deterministic' (their statements: YtipmjfpoglkiaaaTotals.lean).
  GIVEN WITH THE SEED: the statements are not yours to turn. If you find one false, say at which input.
  Laid BY PROGRAM, IN A SANDBOX (cutbox-rows.mjs): the forced cells as the released guide's own fill.sh prints them over the translation 70c4127edf76c007… (all of the seat's roots in one cut). By AI agents, Wed Nov 11 2026. No macro, syntax, notation, axiom, sorry.
-/
import Derived.Test.YtipmjfpoglkiaaaChecked
import GoSem.Claim
import GoSem.ClaimJoined
import GoSem.ClaimMapViews
import Derived.JoinedTies
import Derived.KernelRfl
namespace Go.Proofs.Ytipmjfpoglkiaaa
/- THE CELL 'sum', in the pinned program and in every row, IS THE sha256 OF THE DUMP (.gsa) THAT YtipmjfpoglkiaaaProg.lean LOADS. Nothing in Lean hashes anything: it is a label: what it is worth is what the hold of that sum in a sandbox is worth. -/
noncomputable def Try.pinned : Pinned := { name := "ytipmjfpoglkiaaa", sum := "70c4127edf76c00745bfdca4451f1b3e1cb28b1cb08a52d07c77e9fdb26b8baa", checked := Try.checked }
namespace Rows
def none {H : Type} : Left H := { results := [], args := [] }

/-- 'ringkeep1.PickSlices': WHATEVER THE INPUT: true; the input reads as it did. -/
def pickSlicesSpec : ChangeSpec := { name := "pickSlices", fn := fun _ => fun
  | [d1, d2, d3] => { results := [.lit (.bool true)], args := [d1, d2, d3] }
  | _ => none }
def pickSlicesRow : OpenClaim := { program := "ytipmjfpoglkiaaa", sum := "70c4127edf76c00745bfdca4451f1b3e1cb28b1cb08a52d07c77e9fdb26b8baa", func := "ringhall/ringkeep1.PickSlices", spec := "pickSlices", unfollowed := true, recurses := true, apart := false }
def PickSlicesSaid : Prop := pickSlicesRow.holds Try.pinned (OpenSpec.ofChange pickSlicesSpec)

/-- ITS FALSE NEIGHBOUR: 'it returns false'. Refute it at one input. -/
def pickSlicesWrong : ChangeSpec := { name := "pickSlices", fn := fun _ => fun
  | [d1, d2, d3] => { results := [.lit (.bool false)], args := [d1, d2, d3] }
  | _ => none }
def PickSlicesWrongFalsely : Prop := pickSlicesRow.holds Try.pinned (OpenSpec.ofChange pickSlicesWrong)

/-- 'ringkeep1.PickAlone': WHATEVER THE INPUT: true; the input reads as it did. -/
def pickAloneSpec : ChangeSpec := { name := "pickAlone", fn := fun _ => fun
  | [d1, d2] => { results := [.lit (.bool true)], args := [d1, d2] }
  | _ => none }
def pickAloneRow : OpenClaim := { program := "ytipmjfpoglkiaaa", sum := "70c4127edf76c00745bfdca4451f1b3e1cb28b1cb08a52d07c77e9fdb26b8baa", func := "ringhall/ringkeep1.PickAlone", spec := "pickAlone", unfollowed := true, recurses := true, apart := false }
def PickAloneSaid : Prop := pickAloneRow.holds Try.pinned (OpenSpec.ofChange pickAloneSpec)

/-- ITS FALSE NEIGHBOUR: 'it returns false'. Refute it at one input. -/
def pickAloneWrong : ChangeSpec := { name := "pickAlone", fn := fun _ => fun
  | [d1, d2] => { results := [.lit (.bool false)], args := [d1, d2] }
  | _ => none }
def PickAloneWrongFalsely : Prop := pickAloneRow.holds Try.pinned (OpenSpec.ofChange pickAloneWrong)

/-- 'ringkeep1.PickClasses': WHATEVER THE INPUT: true; the input reads as it did. -/
def pickClassesSpec : ChangeSpec := { name := "pickClasses", fn := fun _ => fun
  | [d] => { results := [.lit (.bool true)], args := [d] }
  | _ => none }
def pickClassesRow : OpenClaim := { program := "ytipmjfpoglkiaaa", sum := "70c4127edf76c00745bfdca4451f1b3e1cb28b1cb08a52d07c77e9fdb26b8baa", func := "ringhall/ringkeep1.PickClasses", spec := "pickClasses", unfollowed := true, recurses := true, apart := false }
def PickClassesSaid : Prop := pickClassesRow.holds Try.pinned (OpenSpec.ofChange pickClassesSpec)

/-- ITS FALSE NEIGHBOUR: 'it returns false'. Refute it at one input. -/
def pickClassesWrong : ChangeSpec := { name := "pickClasses", fn := fun _ => fun
  | [d] => { results := [.lit (.bool false)], args := [d] }
  | _ => none }
def PickClassesWrongFalsely : Prop := pickClassesRow.holds Try.pinned (OpenSpec.ofChange pickClassesWrong)

/- THE SECOND FORM. 'bulk': how many values and letters a reading holds, each counted each time it is reached (what is shared counts as often as it is met; a slice's spare places count too). A statement '..UptoSaid' is the law's where the arguments, and the package variables that the reading takes, are together of bulk at most 1048576: NARROWER than '..Said'. Prove '..Said' where nothing that the law and all that it calls make is longer than what came in: it says more and counts as full. Else prove '..UptoSaid'. A law counts once. -/
mutual
def uptoBulk {H : Type} : DataW H → Nat
  | .lit (.string bytes) => bytes.length + 1
  | .lit _ => 1
  | .nil => 1
  | .ptr d => uptoBulk d + 1
  | .slice elems spare => uptoBulkAll elems + uptoBulkAll spare + 1
  | .agg parts => uptoBulkAll parts + 1
  | .iface _ d => uptoBulk d + 1
  | .map entries => uptoBulkEntries entries + 1
  | .held _ => 1
def uptoBulkAll {H : Type} : List (DataW H) → Nat
  | [] => 0
  | d :: r => uptoBulk d + uptoBulkAll r
def uptoBulkEntries {H : Type} : List (Lit × DataW H) → Nat
  | [] => 0
  | x :: r => uptoBulkEntry x + uptoBulkEntries r
def uptoBulkEntry {H : Type} : Lit × DataW H → Nat
  | (.string bytes, d) => bytes.length + uptoBulk d + 1
  | (_, d) => uptoBulk d + 1
 end
def uptoSmall : (H : Type) → List (DataW H) → Bool := fun _ ds => decide (uptoBulkAll ds ≤ 1048576)
def OpenSpec.upto (s : _root_.Go.ChangeSpec) : _root_.Go.OpenSpec := { _root_.Go.OpenSpec.ofChange s with cond := some uptoSmall }

/-- 'ringkeep1.PickSlices', WHERE WHAT IT READS IS OF BULK AT MOST 1048576: true; the input reads as it did. -/
def pickSlicesUptoRow : OpenClaim := { program := "ytipmjfpoglkiaaa", sum := "70c4127edf76c00745bfdca4451f1b3e1cb28b1cb08a52d07c77e9fdb26b8baa", func := "ringhall/ringkeep1.PickSlices", spec := "pickSlices", unfollowed := true, recurses := true, apart := false, narrowed := true }
def PickSlicesUptoSaid : Prop := pickSlicesUptoRow.holds Try.pinned (OpenSpec.upto pickSlicesSpec)

/-- 'ringkeep1.PickAlone', WHERE WHAT IT READS IS OF BULK AT MOST 1048576: true; the input reads as it did. -/
def pickAloneUptoRow : OpenClaim := { program := "ytipmjfpoglkiaaa", sum := "70c4127edf76c00745bfdca4451f1b3e1cb28b1cb08a52d07c77e9fdb26b8baa", func := "ringhall/ringkeep1.PickAlone", spec := "pickAlone", unfollowed := true, recurses := true, apart := false, narrowed := true }
def PickAloneUptoSaid : Prop := pickAloneUptoRow.holds Try.pinned (OpenSpec.upto pickAloneSpec)

/-- 'ringkeep1.PickClasses', WHERE WHAT IT READS IS OF BULK AT MOST 1048576: true; the input reads as it did. -/
def pickClassesUptoRow : OpenClaim := { program := "ytipmjfpoglkiaaa", sum := "70c4127edf76c00745bfdca4451f1b3e1cb28b1cb08a52d07c77e9fdb26b8baa", func := "ringhall/ringkeep1.PickClasses", spec := "pickClasses", unfollowed := true, recurses := true, apart := false, narrowed := true }
def PickClassesUptoSaid : Prop := pickClassesUptoRow.holds Try.pinned (OpenSpec.upto pickClassesSpec)

end Rows
end Go.Proofs.Ytipmjfpoglkiaaa
