/-
  No cell of these rows narrows 'for every input' (looked for: loops, veiled, ifaces, maps, wideKeys, modest, calm, conditions, laid).
  DERIVED. THE GIVEN ROWS OF THIS SEAT. 8 by the template 'for every input the law returns true; each argument reads behind the call as it read before'; 0 by the template 'total and deterministic' (their statements: YtoocjfolhghjoaaTotals.lean).
  GIVEN WITH THE SEED: the statements are not yours to turn. If you find one false, say at which input.
  Laid BY PROGRAM, IN A SANDBOX (cutbox-rows.mjs): the forced cells as the released guide's own fill.sh prints them over the translation 533f2a66336b5b3d… (all of the seat's roots in one cut). By AI agents, Wed Nov 11 2026. No macro, syntax, notation, axiom, sorry.
-/
import Derived.Test.YtoocjfolhghjoaaChecked
import GoSem.Claim
import GoSem.ClaimJoined
import GoSem.ClaimMapViews
import Derived.JoinedTies
import Derived.KernelRfl
namespace Go.Proofs.Ytoocjfolhghjoaa
/- THE CELL 'sum', in the pinned program and in every row, IS THE sha256 OF THE DUMP (.gsa) THAT YtoocjfolhghjoaaProg.lean LOADS. Nothing in Lean hashes anything: it is a label: what it is worth is what the hold of that sum in a sandbox is worth. -/
noncomputable def Try.pinned : Pinned := { name := "ytoocjfolhghjoaa", sum := "533f2a66336b5b3d2030fa37ca5c0590e96ebd9f0b05c4342230571b9f542ed4", checked := Try.checked }
namespace Rows
def none {H : Type} : Left H := { results := [], args := [] }

/-- 'ringkeep1.AdmitDemand': WHATEVER THE INPUT: true; the input reads as it did. -/
def admitDemandSpec : ChangeSpec := { name := "admitDemand", fn := fun _ => fun
  | [d1, d2] => { results := [.lit (.bool true)], args := [d1, d2] }
  | _ => none }
def admitDemandRow : OpenClaim := { program := "ytoocjfolhghjoaa", sum := "533f2a66336b5b3d2030fa37ca5c0590e96ebd9f0b05c4342230571b9f542ed4", func := "ringhall/ringkeep1.AdmitDemand", spec := "admitDemand", apart := false }
def AdmitDemandSaid : Prop := admitDemandRow.holds Try.pinned (OpenSpec.ofChange admitDemandSpec)

/-- ITS FALSE NEIGHBOUR: 'it returns false'. Refute it at one input. -/
def admitDemandWrong : ChangeSpec := { name := "admitDemand", fn := fun _ => fun
  | [d1, d2] => { results := [.lit (.bool false)], args := [d1, d2] }
  | _ => none }
def AdmitDemandWrongFalsely : Prop := admitDemandRow.holds Try.pinned (OpenSpec.ofChange admitDemandWrong)

/-- 'ringkeep1.AdmitLess': WHATEVER THE INPUT: true; the input reads as it did. -/
def admitLessSpec : ChangeSpec := { name := "admitLess", fn := fun _ => fun
  | [d1, d2, d3] => { results := [.lit (.bool true)], args := [d1, d2, d3] }
  | _ => none }
def admitLessRow : OpenClaim := { program := "ytoocjfolhghjoaa", sum := "533f2a66336b5b3d2030fa37ca5c0590e96ebd9f0b05c4342230571b9f542ed4", func := "ringhall/ringkeep1.AdmitLess", spec := "admitLess", apart := false }
def AdmitLessSaid : Prop := admitLessRow.holds Try.pinned (OpenSpec.ofChange admitLessSpec)

/-- ITS FALSE NEIGHBOUR: 'it returns false'. Refute it at one input. -/
def admitLessWrong : ChangeSpec := { name := "admitLess", fn := fun _ => fun
  | [d1, d2, d3] => { results := [.lit (.bool false)], args := [d1, d2, d3] }
  | _ => none }
def AdmitLessWrongFalsely : Prop := admitLessRow.holds Try.pinned (OpenSpec.ofChange admitLessWrong)

/-- 'ringkeep1.AdmitFits': WHATEVER THE INPUT: true; the input reads as it did. -/
def admitFitsSpec : ChangeSpec := { name := "admitFits", fn := fun _ => fun
  | [d1, d2] => { results := [.lit (.bool true)], args := [d1, d2] }
  | _ => none }
def admitFitsRow : OpenClaim := { program := "ytoocjfolhghjoaa", sum := "533f2a66336b5b3d2030fa37ca5c0590e96ebd9f0b05c4342230571b9f542ed4", func := "ringhall/ringkeep1.AdmitFits", spec := "admitFits", apart := false }
def AdmitFitsSaid : Prop := admitFitsRow.holds Try.pinned (OpenSpec.ofChange admitFitsSpec)

/-- ITS FALSE NEIGHBOUR: 'it returns false'. Refute it at one input. -/
def admitFitsWrong : ChangeSpec := { name := "admitFits", fn := fun _ => fun
  | [d1, d2] => { results := [.lit (.bool false)], args := [d1, d2] }
  | _ => none }
def AdmitFitsWrongFalsely : Prop := admitFitsRow.holds Try.pinned (OpenSpec.ofChange admitFitsWrong)

/-- 'ringkeep1.AdmitAdds': WHATEVER THE INPUT: true; the input reads as it did. -/
def admitAddsSpec : ChangeSpec := { name := "admitAdds", fn := fun _ => fun
  | [d1, d2, d3, d4] => { results := [.lit (.bool true)], args := [d1, d2, d3, d4] }
  | _ => none }
def admitAddsRow : OpenClaim := { program := "ytoocjfolhghjoaa", sum := "533f2a66336b5b3d2030fa37ca5c0590e96ebd9f0b05c4342230571b9f542ed4", func := "ringhall/ringkeep1.AdmitAdds", spec := "admitAdds", apart := false }
def AdmitAddsSaid : Prop := admitAddsRow.holds Try.pinned (OpenSpec.ofChange admitAddsSpec)

/-- ITS FALSE NEIGHBOUR: 'it returns false'. Refute it at one input. -/
def admitAddsWrong : ChangeSpec := { name := "admitAdds", fn := fun _ => fun
  | [d1, d2, d3, d4] => { results := [.lit (.bool false)], args := [d1, d2, d3, d4] }
  | _ => none }
def AdmitAddsWrongFalsely : Prop := admitAddsRow.holds Try.pinned (OpenSpec.ofChange admitAddsWrong)

/-- 'ringkeep1.DeadBudget': WHATEVER THE INPUT: true; the input reads as it did. -/
def deadBudgetSpec : ChangeSpec := { name := "deadBudget", fn := fun _ => fun
  | [d1, d2, d3] => { results := [.lit (.bool true)], args := [d1, d2, d3] }
  | _ => none }
def deadBudgetRow : OpenClaim := { program := "ytoocjfolhghjoaa", sum := "533f2a66336b5b3d2030fa37ca5c0590e96ebd9f0b05c4342230571b9f542ed4", func := "ringhall/ringkeep1.DeadBudget", spec := "deadBudget", apart := false }
def DeadBudgetSaid : Prop := deadBudgetRow.holds Try.pinned (OpenSpec.ofChange deadBudgetSpec)

/-- ITS FALSE NEIGHBOUR: 'it returns false'. Refute it at one input. -/
def deadBudgetWrong : ChangeSpec := { name := "deadBudget", fn := fun _ => fun
  | [d1, d2, d3] => { results := [.lit (.bool false)], args := [d1, d2, d3] }
  | _ => none }
def DeadBudgetWrongFalsely : Prop := deadBudgetRow.holds Try.pinned (OpenSpec.ofChange deadBudgetWrong)

/-- 'ringkeep1.DeadFirst': WHATEVER THE INPUT: true; the input reads as it did. -/
def deadFirstSpec : ChangeSpec := { name := "deadFirst", fn := fun _ => fun
  | [d1, d2] => { results := [.lit (.bool true)], args := [d1, d2] }
  | _ => none }
def deadFirstRow : OpenClaim := { program := "ytoocjfolhghjoaa", sum := "533f2a66336b5b3d2030fa37ca5c0590e96ebd9f0b05c4342230571b9f542ed4", func := "ringhall/ringkeep1.DeadFirst", spec := "deadFirst", apart := false }
def DeadFirstSaid : Prop := deadFirstRow.holds Try.pinned (OpenSpec.ofChange deadFirstSpec)

/-- ITS FALSE NEIGHBOUR: 'it returns false'. Refute it at one input. -/
def deadFirstWrong : ChangeSpec := { name := "deadFirst", fn := fun _ => fun
  | [d1, d2] => { results := [.lit (.bool false)], args := [d1, d2] }
  | _ => none }
def DeadFirstWrongFalsely : Prop := deadFirstRow.holds Try.pinned (OpenSpec.ofChange deadFirstWrong)

/-- 'ringkeep1.DeadMeets': WHATEVER THE INPUT: true; the input reads as it did. -/
def deadMeetsSpec : ChangeSpec := { name := "deadMeets", fn := fun _ => fun
  | [d1, d2] => { results := [.lit (.bool true)], args := [d1, d2] }
  | _ => none }
def deadMeetsRow : OpenClaim := { program := "ytoocjfolhghjoaa", sum := "533f2a66336b5b3d2030fa37ca5c0590e96ebd9f0b05c4342230571b9f542ed4", func := "ringhall/ringkeep1.DeadMeets", spec := "deadMeets", apart := false }
def DeadMeetsSaid : Prop := deadMeetsRow.holds Try.pinned (OpenSpec.ofChange deadMeetsSpec)

/-- ITS FALSE NEIGHBOUR: 'it returns false'. Refute it at one input. -/
def deadMeetsWrong : ChangeSpec := { name := "deadMeets", fn := fun _ => fun
  | [d1, d2] => { results := [.lit (.bool false)], args := [d1, d2] }
  | _ => none }
def DeadMeetsWrongFalsely : Prop := deadMeetsRow.holds Try.pinned (OpenSpec.ofChange deadMeetsWrong)

/-- 'ringkeep1.DeadApart': WHATEVER THE INPUT: true; the input reads as it did. -/
def deadApartSpec : ChangeSpec := { name := "deadApart", fn := fun _ => fun
  | [d1, d2, d3] => { results := [.lit (.bool true)], args := [d1, d2, d3] }
  | _ => none }
def deadApartRow : OpenClaim := { program := "ytoocjfolhghjoaa", sum := "533f2a66336b5b3d2030fa37ca5c0590e96ebd9f0b05c4342230571b9f542ed4", func := "ringhall/ringkeep1.DeadApart", spec := "deadApart", apart := false }
def DeadApartSaid : Prop := deadApartRow.holds Try.pinned (OpenSpec.ofChange deadApartSpec)

/-- ITS FALSE NEIGHBOUR: 'it returns false'. Refute it at one input. -/
def deadApartWrong : ChangeSpec := { name := "deadApart", fn := fun _ => fun
  | [d1, d2, d3] => { results := [.lit (.bool false)], args := [d1, d2, d3] }
  | _ => none }
def DeadApartWrongFalsely : Prop := deadApartRow.holds Try.pinned (OpenSpec.ofChange deadApartWrong)

/- THE SECOND FORM. 'bulk': how many values and letters a reading holds, each counted each time it is reached (what is shared counts as often as it is met; a slice's spare places count too). A statement '..UptoSaid' is the law's where the arguments, and the package variables that the reading takes, are together of bulk at most 1048576: NARROWER than '..Said'. Prove '..Said' where nothing that the law and all that it calls make is longer than what came in: it says more and counts as full. Else prove '..UptoSaid'. A law counts once. -/
mutual
def uptoBulk {H : Type} : DataW H → Nat
  | .lit (.string bytes) => bytes.length + 1
  | .lit _ => 1
  | .nil => 1
  | .ptr d => uptoBulk d + 1
  | .slice elems spare => uptoBulkAll elems + uptoBulkAll spare + 1
  | .agg parts => uptoBulkAll parts + 1
  | .iface _ d => uptoBulk d + 1
  | .map entries => uptoBulkEntries entries + 1
  | .held _ => 1
def uptoBulkAll {H : Type} : List (DataW H) → Nat
  | [] => 0
  | d :: r => uptoBulk d + uptoBulkAll r
def uptoBulkEntries {H : Type} : List (Lit × DataW H) → Nat
  | [] => 0
  | x :: r => uptoBulkEntry x + uptoBulkEntries r
def uptoBulkEntry {H : Type} : Lit × DataW H → Nat
  | (.string bytes, d) => bytes.length + uptoBulk d + 1
  | (_, d) => uptoBulk d + 1
 end
def uptoSmall : (H : Type) → List (DataW H) → Bool := fun _ ds => decide (uptoBulkAll ds ≤ 1048576)
def OpenSpec.upto (s : _root_.Go.ChangeSpec) : _root_.Go.OpenSpec := { _root_.Go.OpenSpec.ofChange s with cond := some uptoSmall }

/-- 'ringkeep1.AdmitDemand', WHERE WHAT IT READS IS OF BULK AT MOST 1048576: true; the input reads as it did. -/
def admitDemandUptoRow : OpenClaim := { program := "ytoocjfolhghjoaa", sum := "533f2a66336b5b3d2030fa37ca5c0590e96ebd9f0b05c4342230571b9f542ed4", func := "ringhall/ringkeep1.AdmitDemand", spec := "admitDemand", apart := false, narrowed := true }
def AdmitDemandUptoSaid : Prop := admitDemandUptoRow.holds Try.pinned (OpenSpec.upto admitDemandSpec)

/-- 'ringkeep1.AdmitLess', WHERE WHAT IT READS IS OF BULK AT MOST 1048576: true; the input reads as it did. -/
def admitLessUptoRow : OpenClaim := { program := "ytoocjfolhghjoaa", sum := "533f2a66336b5b3d2030fa37ca5c0590e96ebd9f0b05c4342230571b9f542ed4", func := "ringhall/ringkeep1.AdmitLess", spec := "admitLess", apart := false, narrowed := true }
def AdmitLessUptoSaid : Prop := admitLessUptoRow.holds Try.pinned (OpenSpec.upto admitLessSpec)

/-- 'ringkeep1.AdmitFits', WHERE WHAT IT READS IS OF BULK AT MOST 1048576: true; the input reads as it did. -/
def admitFitsUptoRow : OpenClaim := { program := "ytoocjfolhghjoaa", sum := "533f2a66336b5b3d2030fa37ca5c0590e96ebd9f0b05c4342230571b9f542ed4", func := "ringhall/ringkeep1.AdmitFits", spec := "admitFits", apart := false, narrowed := true }
def AdmitFitsUptoSaid : Prop := admitFitsUptoRow.holds Try.pinned (OpenSpec.upto admitFitsSpec)

/-- 'ringkeep1.AdmitAdds', WHERE WHAT IT READS IS OF BULK AT MOST 1048576: true; the input reads as it did. -/
def admitAddsUptoRow : OpenClaim := { program := "ytoocjfolhghjoaa", sum := "533f2a66336b5b3d2030fa37ca5c0590e96ebd9f0b05c4342230571b9f542ed4", func := "ringhall/ringkeep1.AdmitAdds", spec := "admitAdds", apart := false, narrowed := true }
def AdmitAddsUptoSaid : Prop := admitAddsUptoRow.holds Try.pinned (OpenSpec.upto admitAddsSpec)

/-- 'ringkeep1.DeadBudget', WHERE WHAT IT READS IS OF BULK AT MOST 1048576: true; the input reads as it did. -/
def deadBudgetUptoRow : OpenClaim := { program := "ytoocjfolhghjoaa", sum := "533f2a66336b5b3d2030fa37ca5c0590e96ebd9f0b05c4342230571b9f542ed4", func := "ringhall/ringkeep1.DeadBudget", spec := "deadBudget", apart := false, narrowed := true }
def DeadBudgetUptoSaid : Prop := deadBudgetUptoRow.holds Try.pinned (OpenSpec.upto deadBudgetSpec)

/-- 'ringkeep1.DeadFirst', WHERE WHAT IT READS IS OF BULK AT MOST 1048576: true; the input reads as it did. -/
def deadFirstUptoRow : OpenClaim := { program := "ytoocjfolhghjoaa", sum := "533f2a66336b5b3d2030fa37ca5c0590e96ebd9f0b05c4342230571b9f542ed4", func := "ringhall/ringkeep1.DeadFirst", spec := "deadFirst", apart := false, narrowed := true }
def DeadFirstUptoSaid : Prop := deadFirstUptoRow.holds Try.pinned (OpenSpec.upto deadFirstSpec)

/-- 'ringkeep1.DeadMeets', WHERE WHAT IT READS IS OF BULK AT MOST 1048576: true; the input reads as it did. -/
def deadMeetsUptoRow : OpenClaim := { program := "ytoocjfolhghjoaa", sum := "533f2a66336b5b3d2030fa37ca5c0590e96ebd9f0b05c4342230571b9f542ed4", func := "ringhall/ringkeep1.DeadMeets", spec := "deadMeets", apart := false, narrowed := true }
def DeadMeetsUptoSaid : Prop := deadMeetsUptoRow.holds Try.pinned (OpenSpec.upto deadMeetsSpec)

/-- 'ringkeep1.DeadApart', WHERE WHAT IT READS IS OF BULK AT MOST 1048576: true; the input reads as it did. -/
def deadApartUptoRow : OpenClaim := { program := "ytoocjfolhghjoaa", sum := "533f2a66336b5b3d2030fa37ca5c0590e96ebd9f0b05c4342230571b9f542ed4", func := "ringhall/ringkeep1.DeadApart", spec := "deadApart", apart := false, narrowed := true }
def DeadApartUptoSaid : Prop := deadApartUptoRow.holds Try.pinned (OpenSpec.upto deadApartSpec)

end Rows
end Go.Proofs.Ytoocjfolhghjoaa
