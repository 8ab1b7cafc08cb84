/-
  No cell of these rows narrows 'for every input' (looked for: loops, veiled, ifaces, maps, wideKeys, modest, calm, conditions, laid).
  DERIVED. THE GIVEN ROWS OF THIS SEAT. 8 by the template 'for every input the law returns true; each argument reads behind the call as it read before'; 0 by the template 'total and deterministic' (their statements: YthcgeigijnbpkaaTotals.lean).
  GIVEN WITH THE SEED: the statements are not yours to turn. If you find one false, say at which input.
  Laid BY PROGRAM, IN A SANDBOX (cutbox-rows.mjs): the forced cells as the released guide's own fill.sh prints them over the translation 2a45c5485e985868… (all of the seat's roots in one cut). By AI agents, Wed Nov 11 2026. No macro, syntax, notation, axiom, sorry.
-/
import Derived.Test.YthcgeigijnbpkaaChecked
import GoSem.Claim
import GoSem.ClaimJoined
import GoSem.ClaimMapViews
import Derived.JoinedTies
import Derived.KernelRfl
namespace Go.Proofs.Ythcgeigijnbpkaa
/- THE CELL 'sum', in the pinned program and in every row, IS THE sha256 OF THE DUMP (.gsa) THAT YthcgeigijnbpkaaProg.lean LOADS. Nothing in Lean hashes anything: it is a label: what it is worth is what the hold of that sum in a sandbox is worth. -/
noncomputable def Try.pinned : Pinned := { name := "ythcgeigijnbpkaa", sum := "2a45c5485e985868807aca1bcfbfa35eae8d6e40da1a4323bca02b0f90d34d1c", checked := Try.checked }
namespace Rows
def none {H : Type} : Left H := { results := [], args := [] }

/-- 'ringkeep1.SpreadPins': WHATEVER THE INPUT: true; the input reads as it did. -/
def spreadPinsSpec : ChangeSpec := { name := "spreadPins", fn := fun _ => fun
  | [d1, d2, d3] => { results := [.lit (.bool true)], args := [d1, d2, d3] }
  | _ => none }
def spreadPinsRow : OpenClaim := { program := "ythcgeigijnbpkaa", sum := "2a45c5485e985868807aca1bcfbfa35eae8d6e40da1a4323bca02b0f90d34d1c", func := "ringhall/ringkeep1.SpreadPins", spec := "spreadPins", apart := false }
def SpreadPinsSaid : Prop := spreadPinsRow.holds Try.pinned (OpenSpec.ofChange spreadPinsSpec)

/-- ITS FALSE NEIGHBOUR: 'it returns false'. Refute it at one input. -/
def spreadPinsWrong : ChangeSpec := { name := "spreadPins", fn := fun _ => fun
  | [d1, d2, d3] => { results := [.lit (.bool false)], args := [d1, d2, d3] }
  | _ => none }
def SpreadPinsWrongFalsely : Prop := spreadPinsRow.holds Try.pinned (OpenSpec.ofChange spreadPinsWrong)

/-- 'ringkeep1.SpreadShares': WHATEVER THE INPUT: true; the input reads as it did. -/
def spreadSharesSpec : ChangeSpec := { name := "spreadShares", fn := fun _ => fun
  | [d1, d2] => { results := [.lit (.bool true)], args := [d1, d2] }
  | _ => none }
def spreadSharesRow : OpenClaim := { program := "ythcgeigijnbpkaa", sum := "2a45c5485e985868807aca1bcfbfa35eae8d6e40da1a4323bca02b0f90d34d1c", func := "ringhall/ringkeep1.SpreadShares", spec := "spreadShares", apart := false }
def SpreadSharesSaid : Prop := spreadSharesRow.holds Try.pinned (OpenSpec.ofChange spreadSharesSpec)

/-- ITS FALSE NEIGHBOUR: 'it returns false'. Refute it at one input. -/
def spreadSharesWrong : ChangeSpec := { name := "spreadShares", fn := fun _ => fun
  | [d1, d2] => { results := [.lit (.bool false)], args := [d1, d2] }
  | _ => none }
def SpreadSharesWrongFalsely : Prop := spreadSharesRow.holds Try.pinned (OpenSpec.ofChange spreadSharesWrong)

/-- 'ringkeep1.SpreadRound': WHATEVER THE INPUT: true; the input reads as it did. -/
def spreadRoundSpec : ChangeSpec := { name := "spreadRound", fn := fun _ => fun
  | [d1, d2, d3, d4] => { results := [.lit (.bool true)], args := [d1, d2, d3, d4] }
  | _ => none }
def spreadRoundRow : OpenClaim := { program := "ythcgeigijnbpkaa", sum := "2a45c5485e985868807aca1bcfbfa35eae8d6e40da1a4323bca02b0f90d34d1c", func := "ringhall/ringkeep1.SpreadRound", spec := "spreadRound", apart := false }
def SpreadRoundSaid : Prop := spreadRoundRow.holds Try.pinned (OpenSpec.ofChange spreadRoundSpec)

/-- ITS FALSE NEIGHBOUR: 'it returns false'. Refute it at one input. -/
def spreadRoundWrong : ChangeSpec := { name := "spreadRound", fn := fun _ => fun
  | [d1, d2, d3, d4] => { results := [.lit (.bool false)], args := [d1, d2, d3, d4] }
  | _ => none }
def SpreadRoundWrongFalsely : Prop := spreadRoundRow.holds Try.pinned (OpenSpec.ofChange spreadRoundWrong)

/-- 'ringkeep1.SpreadBoost': WHATEVER THE INPUT: true; the input reads as it did. -/
def spreadBoostSpec : ChangeSpec := { name := "spreadBoost", fn := fun _ => fun
  | [d1, d2, d3] => { results := [.lit (.bool true)], args := [d1, d2, d3] }
  | _ => none }
def spreadBoostRow : OpenClaim := { program := "ythcgeigijnbpkaa", sum := "2a45c5485e985868807aca1bcfbfa35eae8d6e40da1a4323bca02b0f90d34d1c", func := "ringhall/ringkeep1.SpreadBoost", spec := "spreadBoost", apart := false }
def SpreadBoostSaid : Prop := spreadBoostRow.holds Try.pinned (OpenSpec.ofChange spreadBoostSpec)

/-- ITS FALSE NEIGHBOUR: 'it returns false'. Refute it at one input. -/
def spreadBoostWrong : ChangeSpec := { name := "spreadBoost", fn := fun _ => fun
  | [d1, d2, d3] => { results := [.lit (.bool false)], args := [d1, d2, d3] }
  | _ => none }
def SpreadBoostWrongFalsely : Prop := spreadBoostRow.holds Try.pinned (OpenSpec.ofChange spreadBoostWrong)

/-- 'ringkeep1.SpreadFull': WHATEVER THE INPUT: true; the input reads as it did. -/
def spreadFullSpec : ChangeSpec := { name := "spreadFull", fn := fun _ => fun
  | [d1, d2, d3] => { results := [.lit (.bool true)], args := [d1, d2, d3] }
  | _ => none }
def spreadFullRow : OpenClaim := { program := "ythcgeigijnbpkaa", sum := "2a45c5485e985868807aca1bcfbfa35eae8d6e40da1a4323bca02b0f90d34d1c", func := "ringhall/ringkeep1.SpreadFull", spec := "spreadFull", apart := false }
def SpreadFullSaid : Prop := spreadFullRow.holds Try.pinned (OpenSpec.ofChange spreadFullSpec)

/-- ITS FALSE NEIGHBOUR: 'it returns false'. Refute it at one input. -/
def spreadFullWrong : ChangeSpec := { name := "spreadFull", fn := fun _ => fun
  | [d1, d2, d3] => { results := [.lit (.bool false)], args := [d1, d2, d3] }
  | _ => none }
def SpreadFullWrongFalsely : Prop := spreadFullRow.holds Try.pinned (OpenSpec.ofChange spreadFullWrong)

/-- 'ringkeep1.SpreadBusy': WHATEVER THE INPUT: true; the input reads as it did. -/
def spreadBusySpec : ChangeSpec := { name := "spreadBusy", fn := fun _ => fun
  | [d1, d2] => { results := [.lit (.bool true)], args := [d1, d2] }
  | _ => none }
def spreadBusyRow : OpenClaim := { program := "ythcgeigijnbpkaa", sum := "2a45c5485e985868807aca1bcfbfa35eae8d6e40da1a4323bca02b0f90d34d1c", func := "ringhall/ringkeep1.SpreadBusy", spec := "spreadBusy", apart := false }
def SpreadBusySaid : Prop := spreadBusyRow.holds Try.pinned (OpenSpec.ofChange spreadBusySpec)

/-- ITS FALSE NEIGHBOUR: 'it returns false'. Refute it at one input. -/
def spreadBusyWrong : ChangeSpec := { name := "spreadBusy", fn := fun _ => fun
  | [d1, d2] => { results := [.lit (.bool false)], args := [d1, d2] }
  | _ => none }
def SpreadBusyWrongFalsely : Prop := spreadBusyRow.holds Try.pinned (OpenSpec.ofChange spreadBusyWrong)

/-- 'ringkeep1.SpreadTasks': WHATEVER THE INPUT: true; the input reads as it did. -/
def spreadTasksSpec : ChangeSpec := { name := "spreadTasks", fn := fun _ => fun
  | [d1, d2] => { results := [.lit (.bool true)], args := [d1, d2] }
  | _ => none }
def spreadTasksRow : OpenClaim := { program := "ythcgeigijnbpkaa", sum := "2a45c5485e985868807aca1bcfbfa35eae8d6e40da1a4323bca02b0f90d34d1c", func := "ringhall/ringkeep1.SpreadTasks", spec := "spreadTasks", apart := false }
def SpreadTasksSaid : Prop := spreadTasksRow.holds Try.pinned (OpenSpec.ofChange spreadTasksSpec)

/-- ITS FALSE NEIGHBOUR: 'it returns false'. Refute it at one input. -/
def spreadTasksWrong : ChangeSpec := { name := "spreadTasks", fn := fun _ => fun
  | [d1, d2] => { results := [.lit (.bool false)], args := [d1, d2] }
  | _ => none }
def SpreadTasksWrongFalsely : Prop := spreadTasksRow.holds Try.pinned (OpenSpec.ofChange spreadTasksWrong)

/-- 'ringkeep1.SpreadDead': WHATEVER THE INPUT: true; the input reads as it did. -/
def spreadDeadSpec : ChangeSpec := { name := "spreadDead", fn := fun _ => fun
  | [d1, d2, d3] => { results := [.lit (.bool true)], args := [d1, d2, d3] }
  | _ => none }
def spreadDeadRow : OpenClaim := { program := "ythcgeigijnbpkaa", sum := "2a45c5485e985868807aca1bcfbfa35eae8d6e40da1a4323bca02b0f90d34d1c", func := "ringhall/ringkeep1.SpreadDead", spec := "spreadDead", unfollowed := true, recurses := true, apart := false }
def SpreadDeadSaid : Prop := spreadDeadRow.holds Try.pinned (OpenSpec.ofChange spreadDeadSpec)

/-- ITS FALSE NEIGHBOUR: 'it returns false'. Refute it at one input. -/
def spreadDeadWrong : ChangeSpec := { name := "spreadDead", fn := fun _ => fun
  | [d1, d2, d3] => { results := [.lit (.bool false)], args := [d1, d2, d3] }
  | _ => none }
def SpreadDeadWrongFalsely : Prop := spreadDeadRow.holds Try.pinned (OpenSpec.ofChange spreadDeadWrong)

/- THE SECOND FORM. 'bulk': how many values and letters a reading holds, each counted each time it is reached (what is shared counts as often as it is met; a slice's spare places count too). A statement '..UptoSaid' is the law's where the arguments, and the package variables that the reading takes, are together of bulk at most 1048576: NARROWER than '..Said'. Prove '..Said' where nothing that the law and all that it calls make is longer than what came in: it says more and counts as full. Else prove '..UptoSaid'. A law counts once. -/
mutual
def uptoBulk {H : Type} : DataW H → Nat
  | .lit (.string bytes) => bytes.length + 1
  | .lit _ => 1
  | .nil => 1
  | .ptr d => uptoBulk d + 1
  | .slice elems spare => uptoBulkAll elems + uptoBulkAll spare + 1
  | .agg parts => uptoBulkAll parts + 1
  | .iface _ d => uptoBulk d + 1
  | .map entries => uptoBulkEntries entries + 1
  | .held _ => 1
def uptoBulkAll {H : Type} : List (DataW H) → Nat
  | [] => 0
  | d :: r => uptoBulk d + uptoBulkAll r
def uptoBulkEntries {H : Type} : List (Lit × DataW H) → Nat
  | [] => 0
  | x :: r => uptoBulkEntry x + uptoBulkEntries r
def uptoBulkEntry {H : Type} : Lit × DataW H → Nat
  | (.string bytes, d) => bytes.length + uptoBulk d + 1
  | (_, d) => uptoBulk d + 1
 end
def uptoSmall : (H : Type) → List (DataW H) → Bool := fun _ ds => decide (uptoBulkAll ds ≤ 1048576)
def OpenSpec.upto (s : _root_.Go.ChangeSpec) : _root_.Go.OpenSpec := { _root_.Go.OpenSpec.ofChange s with cond := some uptoSmall }

/-- 'ringkeep1.SpreadPins', WHERE WHAT IT READS IS OF BULK AT MOST 1048576: true; the input reads as it did. -/
def spreadPinsUptoRow : OpenClaim := { program := "ythcgeigijnbpkaa", sum := "2a45c5485e985868807aca1bcfbfa35eae8d6e40da1a4323bca02b0f90d34d1c", func := "ringhall/ringkeep1.SpreadPins", spec := "spreadPins", apart := false, narrowed := true }
def SpreadPinsUptoSaid : Prop := spreadPinsUptoRow.holds Try.pinned (OpenSpec.upto spreadPinsSpec)

/-- 'ringkeep1.SpreadShares', WHERE WHAT IT READS IS OF BULK AT MOST 1048576: true; the input reads as it did. -/
def spreadSharesUptoRow : OpenClaim := { program := "ythcgeigijnbpkaa", sum := "2a45c5485e985868807aca1bcfbfa35eae8d6e40da1a4323bca02b0f90d34d1c", func := "ringhall/ringkeep1.SpreadShares", spec := "spreadShares", apart := false, narrowed := true }
def SpreadSharesUptoSaid : Prop := spreadSharesUptoRow.holds Try.pinned (OpenSpec.upto spreadSharesSpec)

/-- 'ringkeep1.SpreadRound', WHERE WHAT IT READS IS OF BULK AT MOST 1048576: true; the input reads as it did. -/
def spreadRoundUptoRow : OpenClaim := { program := "ythcgeigijnbpkaa", sum := "2a45c5485e985868807aca1bcfbfa35eae8d6e40da1a4323bca02b0f90d34d1c", func := "ringhall/ringkeep1.SpreadRound", spec := "spreadRound", apart := false, narrowed := true }
def SpreadRoundUptoSaid : Prop := spreadRoundUptoRow.holds Try.pinned (OpenSpec.upto spreadRoundSpec)

/-- 'ringkeep1.SpreadBoost', WHERE WHAT IT READS IS OF BULK AT MOST 1048576: true; the input reads as it did. -/
def spreadBoostUptoRow : OpenClaim := { program := "ythcgeigijnbpkaa", sum := "2a45c5485e985868807aca1bcfbfa35eae8d6e40da1a4323bca02b0f90d34d1c", func := "ringhall/ringkeep1.SpreadBoost", spec := "spreadBoost", apart := false, narrowed := true }
def SpreadBoostUptoSaid : Prop := spreadBoostUptoRow.holds Try.pinned (OpenSpec.upto spreadBoostSpec)

/-- 'ringkeep1.SpreadFull', WHERE WHAT IT READS IS OF BULK AT MOST 1048576: true; the input reads as it did. -/
def spreadFullUptoRow : OpenClaim := { program := "ythcgeigijnbpkaa", sum := "2a45c5485e985868807aca1bcfbfa35eae8d6e40da1a4323bca02b0f90d34d1c", func := "ringhall/ringkeep1.SpreadFull", spec := "spreadFull", apart := false, narrowed := true }
def SpreadFullUptoSaid : Prop := spreadFullUptoRow.holds Try.pinned (OpenSpec.upto spreadFullSpec)

/-- 'ringkeep1.SpreadBusy', WHERE WHAT IT READS IS OF BULK AT MOST 1048576: true; the input reads as it did. -/
def spreadBusyUptoRow : OpenClaim := { program := "ythcgeigijnbpkaa", sum := "2a45c5485e985868807aca1bcfbfa35eae8d6e40da1a4323bca02b0f90d34d1c", func := "ringhall/ringkeep1.SpreadBusy", spec := "spreadBusy", apart := false, narrowed := true }
def SpreadBusyUptoSaid : Prop := spreadBusyUptoRow.holds Try.pinned (OpenSpec.upto spreadBusySpec)

/-- 'ringkeep1.SpreadTasks', WHERE WHAT IT READS IS OF BULK AT MOST 1048576: true; the input reads as it did. -/
def spreadTasksUptoRow : OpenClaim := { program := "ythcgeigijnbpkaa", sum := "2a45c5485e985868807aca1bcfbfa35eae8d6e40da1a4323bca02b0f90d34d1c", func := "ringhall/ringkeep1.SpreadTasks", spec := "spreadTasks", apart := false, narrowed := true }
def SpreadTasksUptoSaid : Prop := spreadTasksUptoRow.holds Try.pinned (OpenSpec.upto spreadTasksSpec)

/-- 'ringkeep1.SpreadDead', WHERE WHAT IT READS IS OF BULK AT MOST 1048576: true; the input reads as it did. -/
def spreadDeadUptoRow : OpenClaim := { program := "ythcgeigijnbpkaa", sum := "2a45c5485e985868807aca1bcfbfa35eae8d6e40da1a4323bca02b0f90d34d1c", func := "ringhall/ringkeep1.SpreadDead", spec := "spreadDead", unfollowed := true, recurses := true, apart := false, narrowed := true }
def SpreadDeadUptoSaid : Prop := spreadDeadUptoRow.holds Try.pinned (OpenSpec.upto spreadDeadSpec)

end Rows
end Go.Proofs.Ythcgeigijnbpkaa
