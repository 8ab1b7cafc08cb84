/-
  No cell of these rows narrows 'for every input' (looked for: loops, veiled, ifaces, maps, wideKeys, modest, calm, conditions, laid).
  DERIVED. THE GIVEN ROWS OF THIS SEAT. 9 by the template 'for every input the law returns true; each argument reads behind the call as it read before'; 0 by the template 'total and deterministic' (their statements: YthbkmjigplolgaaTotals.lean).
  GIVEN WITH THE SEED: the statements are not yours to turn. If you find one false, say at which input.
  Laid BY PROGRAM, IN A SANDBOX (cutbox-rows.mjs): the forced cells as the released guide's own fill.sh prints them over the translation 2041f25113591672… (all of the seat's roots in one cut). By AI agents, Wed Nov 11 2026. No macro, syntax, notation, axiom, sorry.
-/
import Derived.Test.YthbkmjigplolgaaChecked
import GoSem.Claim
import GoSem.ClaimJoined
import GoSem.ClaimMapViews
import Derived.JoinedTies
import Derived.KernelRfl
namespace Go.Proofs.Ythbkmjigplolgaa
/- THE CELL 'sum', in the pinned program and in every row, IS THE sha256 OF THE DUMP (.gsa) THAT YthbkmjigplolgaaProg.lean LOADS. Nothing in Lean hashes anything: it is a label: what it is worth is what the hold of that sum in a sandbox is worth. -/
noncomputable def Try.pinned : Pinned := { name := "ythbkmjigplolgaa", sum := "2041f251135916727e3b9a163213658125d4db12b3c3161b32b48ffe148b73aa", checked := Try.checked }
namespace Rows
def none {H : Type} : Left H := { results := [], args := [] }

/-- 'ringkeep1.SleepRings': WHATEVER THE INPUT: true; the input reads as it did. -/
def sleepRingsSpec : ChangeSpec := { name := "sleepRings", fn := fun _ => fun
  | [d1, d2] => { results := [.lit (.bool true)], args := [d1, d2] }
  | _ => none }
def sleepRingsRow : OpenClaim := { program := "ythbkmjigplolgaa", sum := "2041f251135916727e3b9a163213658125d4db12b3c3161b32b48ffe148b73aa", func := "ringhall/ringkeep1.SleepRings", spec := "sleepRings", unfollowed := true, recurses := true, apart := false }
def SleepRingsSaid : Prop := sleepRingsRow.holds Try.pinned (OpenSpec.ofChange sleepRingsSpec)

/-- ITS FALSE NEIGHBOUR: 'it returns false'. Refute it at one input. -/
def sleepRingsWrong : ChangeSpec := { name := "sleepRings", fn := fun _ => fun
  | [d1, d2] => { results := [.lit (.bool false)], args := [d1, d2] }
  | _ => none }
def SleepRingsWrongFalsely : Prop := sleepRingsRow.holds Try.pinned (OpenSpec.ofChange sleepRingsWrong)

/-- 'ringkeep1.SleepUrgent': WHATEVER THE INPUT: true; the input reads as it did. -/
def sleepUrgentSpec : ChangeSpec := { name := "sleepUrgent", fn := fun _ => fun
  | [d1, d2] => { results := [.lit (.bool true)], args := [d1, d2] }
  | _ => none }
def sleepUrgentRow : OpenClaim := { program := "ythbkmjigplolgaa", sum := "2041f251135916727e3b9a163213658125d4db12b3c3161b32b48ffe148b73aa", func := "ringhall/ringkeep1.SleepUrgent", spec := "sleepUrgent", unfollowed := true, recurses := true, apart := false }
def SleepUrgentSaid : Prop := sleepUrgentRow.holds Try.pinned (OpenSpec.ofChange sleepUrgentSpec)

/-- ITS FALSE NEIGHBOUR: 'it returns false'. Refute it at one input. -/
def sleepUrgentWrong : ChangeSpec := { name := "sleepUrgent", fn := fun _ => fun
  | [d1, d2] => { results := [.lit (.bool false)], args := [d1, d2] }
  | _ => none }
def SleepUrgentWrongFalsely : Prop := sleepUrgentRow.holds Try.pinned (OpenSpec.ofChange sleepUrgentWrong)

/-- 'ringkeep1.SleepGoes': WHATEVER THE INPUT: true; the input reads as it did. -/
def sleepGoesSpec : ChangeSpec := { name := "sleepGoes", fn := fun _ => fun
  | [d1, d2] => { results := [.lit (.bool true)], args := [d1, d2] }
  | _ => none }
def sleepGoesRow : OpenClaim := { program := "ythbkmjigplolgaa", sum := "2041f251135916727e3b9a163213658125d4db12b3c3161b32b48ffe148b73aa", func := "ringhall/ringkeep1.SleepGoes", spec := "sleepGoes", unfollowed := true, recurses := true, apart := false }
def SleepGoesSaid : Prop := sleepGoesRow.holds Try.pinned (OpenSpec.ofChange sleepGoesSpec)

/-- ITS FALSE NEIGHBOUR: 'it returns false'. Refute it at one input. -/
def sleepGoesWrong : ChangeSpec := { name := "sleepGoes", fn := fun _ => fun
  | [d1, d2] => { results := [.lit (.bool false)], args := [d1, d2] }
  | _ => none }
def SleepGoesWrongFalsely : Prop := sleepGoesRow.holds Try.pinned (OpenSpec.ofChange sleepGoesWrong)

/-- 'ringkeep1.SleepHands': WHATEVER THE INPUT: true; the input reads as it did. -/
def sleepHandsSpec : ChangeSpec := { name := "sleepHands", fn := fun _ => fun
  | [d1, d2, d3] => { results := [.lit (.bool true)], args := [d1, d2, d3] }
  | _ => none }
def sleepHandsRow : OpenClaim := { program := "ythbkmjigplolgaa", sum := "2041f251135916727e3b9a163213658125d4db12b3c3161b32b48ffe148b73aa", func := "ringhall/ringkeep1.SleepHands", spec := "sleepHands", unfollowed := true, recurses := true, apart := false }
def SleepHandsSaid : Prop := sleepHandsRow.holds Try.pinned (OpenSpec.ofChange sleepHandsSpec)

/-- ITS FALSE NEIGHBOUR: 'it returns false'. Refute it at one input. -/
def sleepHandsWrong : ChangeSpec := { name := "sleepHands", fn := fun _ => fun
  | [d1, d2, d3] => { results := [.lit (.bool false)], args := [d1, d2, d3] }
  | _ => none }
def SleepHandsWrongFalsely : Prop := sleepHandsRow.holds Try.pinned (OpenSpec.ofChange sleepHandsWrong)

/-- 'ringkeep1.HeapLeast': WHATEVER THE INPUT: true; the input reads as it did. -/
def heapLeastSpec : ChangeSpec := { name := "heapLeast", fn := fun _ => fun
  | [d] => { results := [.lit (.bool true)], args := [d] }
  | _ => none }
def heapLeastRow : OpenClaim := { program := "ythbkmjigplolgaa", sum := "2041f251135916727e3b9a163213658125d4db12b3c3161b32b48ffe148b73aa", func := "ringhall/ringkeep1.HeapLeast", spec := "heapLeast", apart := false }
def HeapLeastSaid : Prop := heapLeastRow.holds Try.pinned (OpenSpec.ofChange heapLeastSpec)

/-- ITS FALSE NEIGHBOUR: 'it returns false'. Refute it at one input. -/
def heapLeastWrong : ChangeSpec := { name := "heapLeast", fn := fun _ => fun
  | [d] => { results := [.lit (.bool false)], args := [d] }
  | _ => none }
def HeapLeastWrongFalsely : Prop := heapLeastRow.holds Try.pinned (OpenSpec.ofChange heapLeastWrong)

/-- 'ringkeep1.HeapTurns': WHATEVER THE INPUT: true; the input reads as it did. -/
def heapTurnsSpec : ChangeSpec := { name := "heapTurns", fn := fun _ => fun
  | [d1, d2, d3] => { results := [.lit (.bool true)], args := [d1, d2, d3] }
  | _ => none }
def heapTurnsRow : OpenClaim := { program := "ythbkmjigplolgaa", sum := "2041f251135916727e3b9a163213658125d4db12b3c3161b32b48ffe148b73aa", func := "ringhall/ringkeep1.HeapTurns", spec := "heapTurns", apart := false }
def HeapTurnsSaid : Prop := heapTurnsRow.holds Try.pinned (OpenSpec.ofChange heapTurnsSpec)

/-- ITS FALSE NEIGHBOUR: 'it returns false'. Refute it at one input. -/
def heapTurnsWrong : ChangeSpec := { name := "heapTurns", fn := fun _ => fun
  | [d1, d2, d3] => { results := [.lit (.bool false)], args := [d1, d2, d3] }
  | _ => none }
def HeapTurnsWrongFalsely : Prop := heapTurnsRow.holds Try.pinned (OpenSpec.ofChange heapTurnsWrong)

/-- 'ringkeep1.WaitWakes': WHATEVER THE INPUT: true; the input reads as it did. -/
def waitWakesSpec : ChangeSpec := { name := "waitWakes", fn := fun _ => fun
  | [d1, d2] => { results := [.lit (.bool true)], args := [d1, d2] }
  | _ => none }
def waitWakesRow : OpenClaim := { program := "ythbkmjigplolgaa", sum := "2041f251135916727e3b9a163213658125d4db12b3c3161b32b48ffe148b73aa", func := "ringhall/ringkeep1.WaitWakes", spec := "waitWakes", unfollowed := true, recurses := true, apart := false }
def WaitWakesSaid : Prop := waitWakesRow.holds Try.pinned (OpenSpec.ofChange waitWakesSpec)

/-- ITS FALSE NEIGHBOUR: 'it returns false'. Refute it at one input. -/
def waitWakesWrong : ChangeSpec := { name := "waitWakes", fn := fun _ => fun
  | [d1, d2] => { results := [.lit (.bool false)], args := [d1, d2] }
  | _ => none }
def WaitWakesWrongFalsely : Prop := waitWakesRow.holds Try.pinned (OpenSpec.ofChange waitWakesWrong)

/-- 'ringkeep1.SemApart': WHATEVER THE INPUT: true; the input reads as it did. -/
def semApartSpec : ChangeSpec := { name := "semApart", fn := fun _ => fun
  | [d] => { results := [.lit (.bool true)], args := [d] }
  | _ => none }
def semApartRow : OpenClaim := { program := "ythbkmjigplolgaa", sum := "2041f251135916727e3b9a163213658125d4db12b3c3161b32b48ffe148b73aa", func := "ringhall/ringkeep1.SemApart", spec := "semApart", unfollowed := true, recurses := true, apart := false }
def SemApartSaid : Prop := semApartRow.holds Try.pinned (OpenSpec.ofChange semApartSpec)

/-- ITS FALSE NEIGHBOUR: 'it returns false'. Refute it at one input. -/
def semApartWrong : ChangeSpec := { name := "semApart", fn := fun _ => fun
  | [d] => { results := [.lit (.bool false)], args := [d] }
  | _ => none }
def SemApartWrongFalsely : Prop := semApartRow.holds Try.pinned (OpenSpec.ofChange semApartWrong)

/-- 'ringkeep1.SemAll': WHATEVER THE INPUT: true; the input reads as it did. -/
def semAllSpec : ChangeSpec := { name := "semAll", fn := fun _ => fun
  | [d] => { results := [.lit (.bool true)], args := [d] }
  | _ => none }
def semAllRow : OpenClaim := { program := "ythbkmjigplolgaa", sum := "2041f251135916727e3b9a163213658125d4db12b3c3161b32b48ffe148b73aa", func := "ringhall/ringkeep1.SemAll", spec := "semAll", unfollowed := true, recurses := true, apart := false }
def SemAllSaid : Prop := semAllRow.holds Try.pinned (OpenSpec.ofChange semAllSpec)

/-- ITS FALSE NEIGHBOUR: 'it returns false'. Refute it at one input. -/
def semAllWrong : ChangeSpec := { name := "semAll", fn := fun _ => fun
  | [d] => { results := [.lit (.bool false)], args := [d] }
  | _ => none }
def SemAllWrongFalsely : Prop := semAllRow.holds Try.pinned (OpenSpec.ofChange semAllWrong)

/- THE SECOND FORM. 'bulk': how many values and letters a reading holds, each counted each time it is reached (what is shared counts as often as it is met; a slice's spare places count too). A statement '..UptoSaid' is the law's where the arguments, and the package variables that the reading takes, are together of bulk at most 1048576: NARROWER than '..Said'. Prove '..Said' where nothing that the law and all that it calls make is longer than what came in: it says more and counts as full. Else prove '..UptoSaid'. A law counts once. -/
mutual
def uptoBulk {H : Type} : DataW H → Nat
  | .lit (.string bytes) => bytes.length + 1
  | .lit _ => 1
  | .nil => 1
  | .ptr d => uptoBulk d + 1
  | .slice elems spare => uptoBulkAll elems + uptoBulkAll spare + 1
  | .agg parts => uptoBulkAll parts + 1
  | .iface _ d => uptoBulk d + 1
  | .map entries => uptoBulkEntries entries + 1
  | .held _ => 1
def uptoBulkAll {H : Type} : List (DataW H) → Nat
  | [] => 0
  | d :: r => uptoBulk d + uptoBulkAll r
def uptoBulkEntries {H : Type} : List (Lit × DataW H) → Nat
  | [] => 0
  | x :: r => uptoBulkEntry x + uptoBulkEntries r
def uptoBulkEntry {H : Type} : Lit × DataW H → Nat
  | (.string bytes, d) => bytes.length + uptoBulk d + 1
  | (_, d) => uptoBulk d + 1
 end
def uptoSmall : (H : Type) → List (DataW H) → Bool := fun _ ds => decide (uptoBulkAll ds ≤ 1048576)
def OpenSpec.upto (s : _root_.Go.ChangeSpec) : _root_.Go.OpenSpec := { _root_.Go.OpenSpec.ofChange s with cond := some uptoSmall }

/-- 'ringkeep1.SleepRings', WHERE WHAT IT READS IS OF BULK AT MOST 1048576: true; the input reads as it did. -/
def sleepRingsUptoRow : OpenClaim := { program := "ythbkmjigplolgaa", sum := "2041f251135916727e3b9a163213658125d4db12b3c3161b32b48ffe148b73aa", func := "ringhall/ringkeep1.SleepRings", spec := "sleepRings", unfollowed := true, recurses := true, apart := false, narrowed := true }
def SleepRingsUptoSaid : Prop := sleepRingsUptoRow.holds Try.pinned (OpenSpec.upto sleepRingsSpec)

/-- 'ringkeep1.SleepUrgent', WHERE WHAT IT READS IS OF BULK AT MOST 1048576: true; the input reads as it did. -/
def sleepUrgentUptoRow : OpenClaim := { program := "ythbkmjigplolgaa", sum := "2041f251135916727e3b9a163213658125d4db12b3c3161b32b48ffe148b73aa", func := "ringhall/ringkeep1.SleepUrgent", spec := "sleepUrgent", unfollowed := true, recurses := true, apart := false, narrowed := true }
def SleepUrgentUptoSaid : Prop := sleepUrgentUptoRow.holds Try.pinned (OpenSpec.upto sleepUrgentSpec)

/-- 'ringkeep1.SleepGoes', WHERE WHAT IT READS IS OF BULK AT MOST 1048576: true; the input reads as it did. -/
def sleepGoesUptoRow : OpenClaim := { program := "ythbkmjigplolgaa", sum := "2041f251135916727e3b9a163213658125d4db12b3c3161b32b48ffe148b73aa", func := "ringhall/ringkeep1.SleepGoes", spec := "sleepGoes", unfollowed := true, recurses := true, apart := false, narrowed := true }
def SleepGoesUptoSaid : Prop := sleepGoesUptoRow.holds Try.pinned (OpenSpec.upto sleepGoesSpec)

/-- 'ringkeep1.SleepHands', WHERE WHAT IT READS IS OF BULK AT MOST 1048576: true; the input reads as it did. -/
def sleepHandsUptoRow : OpenClaim := { program := "ythbkmjigplolgaa", sum := "2041f251135916727e3b9a163213658125d4db12b3c3161b32b48ffe148b73aa", func := "ringhall/ringkeep1.SleepHands", spec := "sleepHands", unfollowed := true, recurses := true, apart := false, narrowed := true }
def SleepHandsUptoSaid : Prop := sleepHandsUptoRow.holds Try.pinned (OpenSpec.upto sleepHandsSpec)

/-- 'ringkeep1.HeapLeast', WHERE WHAT IT READS IS OF BULK AT MOST 1048576: true; the input reads as it did. -/
def heapLeastUptoRow : OpenClaim := { program := "ythbkmjigplolgaa", sum := "2041f251135916727e3b9a163213658125d4db12b3c3161b32b48ffe148b73aa", func := "ringhall/ringkeep1.HeapLeast", spec := "heapLeast", apart := false, narrowed := true }
def HeapLeastUptoSaid : Prop := heapLeastUptoRow.holds Try.pinned (OpenSpec.upto heapLeastSpec)

/-- 'ringkeep1.HeapTurns', WHERE WHAT IT READS IS OF BULK AT MOST 1048576: true; the input reads as it did. -/
def heapTurnsUptoRow : OpenClaim := { program := "ythbkmjigplolgaa", sum := "2041f251135916727e3b9a163213658125d4db12b3c3161b32b48ffe148b73aa", func := "ringhall/ringkeep1.HeapTurns", spec := "heapTurns", apart := false, narrowed := true }
def HeapTurnsUptoSaid : Prop := heapTurnsUptoRow.holds Try.pinned (OpenSpec.upto heapTurnsSpec)

/-- 'ringkeep1.WaitWakes', WHERE WHAT IT READS IS OF BULK AT MOST 1048576: true; the input reads as it did. -/
def waitWakesUptoRow : OpenClaim := { program := "ythbkmjigplolgaa", sum := "2041f251135916727e3b9a163213658125d4db12b3c3161b32b48ffe148b73aa", func := "ringhall/ringkeep1.WaitWakes", spec := "waitWakes", unfollowed := true, recurses := true, apart := false, narrowed := true }
def WaitWakesUptoSaid : Prop := waitWakesUptoRow.holds Try.pinned (OpenSpec.upto waitWakesSpec)

/-- 'ringkeep1.SemApart', WHERE WHAT IT READS IS OF BULK AT MOST 1048576: true; the input reads as it did. -/
def semApartUptoRow : OpenClaim := { program := "ythbkmjigplolgaa", sum := "2041f251135916727e3b9a163213658125d4db12b3c3161b32b48ffe148b73aa", func := "ringhall/ringkeep1.SemApart", spec := "semApart", unfollowed := true, recurses := true, apart := false, narrowed := true }
def SemApartUptoSaid : Prop := semApartUptoRow.holds Try.pinned (OpenSpec.upto semApartSpec)

/-- 'ringkeep1.SemAll', WHERE WHAT IT READS IS OF BULK AT MOST 1048576: true; the input reads as it did. -/
def semAllUptoRow : OpenClaim := { program := "ythbkmjigplolgaa", sum := "2041f251135916727e3b9a163213658125d4db12b3c3161b32b48ffe148b73aa", func := "ringhall/ringkeep1.SemAll", spec := "semAll", unfollowed := true, recurses := true, apart := false, narrowed := true }
def SemAllUptoSaid : Prop := semAllUptoRow.holds Try.pinned (OpenSpec.upto semAllSpec)

end Rows
end Go.Proofs.Ythbkmjigplolgaa
