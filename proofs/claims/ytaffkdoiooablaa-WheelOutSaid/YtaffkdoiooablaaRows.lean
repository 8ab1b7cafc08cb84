/-
  No cell of these rows narrows 'for every input' (looked for: loops, veiled, ifaces, maps, wideKeys, modest, calm, conditions, laid).
  DERIVED. THE GIVEN ROWS OF THIS SEAT. 9 by the template 'for every input the law returns true; each argument reads behind the call as it read before'; 0 by the template 'total and deterministic' (their statements: YtaffkdoiooablaaTotals.lean).
  GIVEN WITH THE SEED: the statements are not yours to turn. If you find one false, say at which input.
  Laid BY PROGRAM, IN A SANDBOX (cutbox-rows.mjs): the forced cells as the released guide's own fill.sh prints them over the translation 5e4f5f031e651115… (all of the seat's roots in one cut). By AI agents, Wed Nov 11 2026. No macro, syntax, notation, axiom, sorry.
-/
import Derived.Test.YtaffkdoiooablaaChecked
import GoSem.Claim
import GoSem.ClaimJoined
import GoSem.ClaimMapViews
import Derived.JoinedTies
import Derived.KernelRfl
namespace Go.Proofs.Ytaffkdoiooablaa
/- THE CELL 'sum', in the pinned program and in every row, IS THE sha256 OF THE DUMP (.gsa) THAT YtaffkdoiooablaaProg.lean LOADS. Nothing in Lean hashes anything: it is a label: what it is worth is what the hold of that sum in a sandbox is worth. -/
noncomputable def Try.pinned : Pinned := { name := "ytaffkdoiooablaa", sum := "5e4f5f031e65111576ade48af435164eb52da8e6ada9f14cf6032cbd06e9c2a6", checked := Try.checked }
namespace Rows
def none {H : Type} : Left H := { results := [], args := [] }

/-- 'ringkeep1.PrioTurns': WHATEVER THE INPUT: true; the input reads as it did. -/
def prioTurnsSpec : ChangeSpec := { name := "prioTurns", fn := fun _ => fun
  | [d1, d2] => { results := [.lit (.bool true)], args := [d1, d2] }
  | _ => none }
def prioTurnsRow : OpenClaim := { program := "ytaffkdoiooablaa", sum := "5e4f5f031e65111576ade48af435164eb52da8e6ada9f14cf6032cbd06e9c2a6", func := "ringhall/ringkeep1.PrioTurns", spec := "prioTurns", unfollowed := true, recurses := true, apart := false }
def PrioTurnsSaid : Prop := prioTurnsRow.holds Try.pinned (OpenSpec.ofChange prioTurnsSpec)

/-- ITS FALSE NEIGHBOUR: 'it returns false'. Refute it at one input. -/
def prioTurnsWrong : ChangeSpec := { name := "prioTurns", fn := fun _ => fun
  | [d1, d2] => { results := [.lit (.bool false)], args := [d1, d2] }
  | _ => none }
def PrioTurnsWrongFalsely : Prop := prioTurnsRow.holds Try.pinned (OpenSpec.ofChange prioTurnsWrong)

/-- 'ringkeep1.PrioBits': WHATEVER THE INPUT: true; the input reads as it did. -/
def prioBitsSpec : ChangeSpec := { name := "prioBits", fn := fun _ => fun
  | [d] => { results := [.lit (.bool true)], args := [d] }
  | _ => none }
def prioBitsRow : OpenClaim := { program := "ytaffkdoiooablaa", sum := "5e4f5f031e65111576ade48af435164eb52da8e6ada9f14cf6032cbd06e9c2a6", func := "ringhall/ringkeep1.PrioBits", spec := "prioBits", unfollowed := true, recurses := true, apart := false }
def PrioBitsSaid : Prop := prioBitsRow.holds Try.pinned (OpenSpec.ofChange prioBitsSpec)

/-- ITS FALSE NEIGHBOUR: 'it returns false'. Refute it at one input. -/
def prioBitsWrong : ChangeSpec := { name := "prioBits", fn := fun _ => fun
  | [d] => { results := [.lit (.bool false)], args := [d] }
  | _ => none }
def PrioBitsWrongFalsely : Prop := prioBitsRow.holds Try.pinned (OpenSpec.ofChange prioBitsWrong)

/-- 'ringkeep1.PrioGoes': WHATEVER THE INPUT: true; the input reads as it did. -/
def prioGoesSpec : ChangeSpec := { name := "prioGoes", fn := fun _ => fun
  | [d] => { results := [.lit (.bool true)], args := [d] }
  | _ => none }
def prioGoesRow : OpenClaim := { program := "ytaffkdoiooablaa", sum := "5e4f5f031e65111576ade48af435164eb52da8e6ada9f14cf6032cbd06e9c2a6", func := "ringhall/ringkeep1.PrioGoes", spec := "prioGoes", unfollowed := true, recurses := true, apart := false }
def PrioGoesSaid : Prop := prioGoesRow.holds Try.pinned (OpenSpec.ofChange prioGoesSpec)

/-- ITS FALSE NEIGHBOUR: 'it returns false'. Refute it at one input. -/
def prioGoesWrong : ChangeSpec := { name := "prioGoes", fn := fun _ => fun
  | [d] => { results := [.lit (.bool false)], args := [d] }
  | _ => none }
def PrioGoesWrongFalsely : Prop := prioGoesRow.holds Try.pinned (OpenSpec.ofChange prioGoesWrong)

/-- 'ringkeep1.WaitLost': WHATEVER THE INPUT: true; the input reads as it did. -/
def waitLostSpec : ChangeSpec := { name := "waitLost", fn := fun _ => fun
  | [d1, d2, d3, d4] => { results := [.lit (.bool true)], args := [d1, d2, d3, d4] }
  | _ => none }
def waitLostRow : OpenClaim := { program := "ytaffkdoiooablaa", sum := "5e4f5f031e65111576ade48af435164eb52da8e6ada9f14cf6032cbd06e9c2a6", func := "ringhall/ringkeep1.WaitLost", spec := "waitLost", unfollowed := true, recurses := true, apart := false }
def WaitLostSaid : Prop := waitLostRow.holds Try.pinned (OpenSpec.ofChange waitLostSpec)

/-- ITS FALSE NEIGHBOUR: 'it returns false'. Refute it at one input. -/
def waitLostWrong : ChangeSpec := { name := "waitLost", fn := fun _ => fun
  | [d1, d2, d3, d4] => { results := [.lit (.bool false)], args := [d1, d2, d3, d4] }
  | _ => none }
def WaitLostWrongFalsely : Prop := waitLostRow.holds Try.pinned (OpenSpec.ofChange waitLostWrong)

/-- 'ringkeep1.WheelTurns': WHATEVER THE INPUT: true; the input reads as it did. -/
def wheelTurnsSpec : ChangeSpec := { name := "wheelTurns", fn := fun _ => fun
  | [d1, d2, d3, d4] => { results := [.lit (.bool true)], args := [d1, d2, d3, d4] }
  | _ => none }
def wheelTurnsRow : OpenClaim := { program := "ytaffkdoiooablaa", sum := "5e4f5f031e65111576ade48af435164eb52da8e6ada9f14cf6032cbd06e9c2a6", func := "ringhall/ringkeep1.WheelTurns", spec := "wheelTurns", inPlace := ["slices.overlaps[ringhall/wheel.timer]"], unfollowed := true, recurses := true, apart := false }
def WheelTurnsSaid : Prop := wheelTurnsRow.holds Try.pinned (OpenSpec.ofChange wheelTurnsSpec)

/-- ITS FALSE NEIGHBOUR: 'it returns false'. Refute it at one input. -/
def wheelTurnsWrong : ChangeSpec := { name := "wheelTurns", fn := fun _ => fun
  | [d1, d2, d3, d4] => { results := [.lit (.bool false)], args := [d1, d2, d3, d4] }
  | _ => none }
def WheelTurnsWrongFalsely : Prop := wheelTurnsRow.holds Try.pinned (OpenSpec.ofChange wheelTurnsWrong)

/-- 'ringkeep1.WheelSteps': WHATEVER THE INPUT: true; the input reads as it did. -/
def wheelStepsSpec : ChangeSpec := { name := "wheelSteps", fn := fun _ => fun
  | [d1, d2, d3] => { results := [.lit (.bool true)], args := [d1, d2, d3] }
  | _ => none }
def wheelStepsRow : OpenClaim := { program := "ytaffkdoiooablaa", sum := "5e4f5f031e65111576ade48af435164eb52da8e6ada9f14cf6032cbd06e9c2a6", func := "ringhall/ringkeep1.WheelSteps", spec := "wheelSteps", inPlace := ["slices.overlaps[ringhall/wheel.timer]"], unfollowed := true, recurses := true, apart := false }
def WheelStepsSaid : Prop := wheelStepsRow.holds Try.pinned (OpenSpec.ofChange wheelStepsSpec)

/-- ITS FALSE NEIGHBOUR: 'it returns false'. Refute it at one input. -/
def wheelStepsWrong : ChangeSpec := { name := "wheelSteps", fn := fun _ => fun
  | [d1, d2, d3] => { results := [.lit (.bool false)], args := [d1, d2, d3] }
  | _ => none }
def WheelStepsWrongFalsely : Prop := wheelStepsRow.holds Try.pinned (OpenSpec.ofChange wheelStepsWrong)

/-- 'ringkeep1.WheelNext': WHATEVER THE INPUT: true; the input reads as it did. -/
def wheelNextSpec : ChangeSpec := { name := "wheelNext", fn := fun _ => fun
  | [d1, d2] => { results := [.lit (.bool true)], args := [d1, d2] }
  | _ => none }
def wheelNextRow : OpenClaim := { program := "ytaffkdoiooablaa", sum := "5e4f5f031e65111576ade48af435164eb52da8e6ada9f14cf6032cbd06e9c2a6", func := "ringhall/ringkeep1.WheelNext", spec := "wheelNext", inPlace := ["slices.overlaps[ringhall/wheel.timer]"], unfollowed := true, recurses := true, apart := false }
def WheelNextSaid : Prop := wheelNextRow.holds Try.pinned (OpenSpec.ofChange wheelNextSpec)

/-- ITS FALSE NEIGHBOUR: 'it returns false'. Refute it at one input. -/
def wheelNextWrong : ChangeSpec := { name := "wheelNext", fn := fun _ => fun
  | [d1, d2] => { results := [.lit (.bool false)], args := [d1, d2] }
  | _ => none }
def WheelNextWrongFalsely : Prop := wheelNextRow.holds Try.pinned (OpenSpec.ofChange wheelNextWrong)

/-- 'ringkeep1.WheelBounds': WHATEVER THE INPUT: true; the input reads as it did. -/
def wheelBoundsSpec : ChangeSpec := { name := "wheelBounds", fn := fun _ => fun
  | [d1, d2] => { results := [.lit (.bool true)], args := [d1, d2] }
  | _ => none }
def wheelBoundsRow : OpenClaim := { program := "ytaffkdoiooablaa", sum := "5e4f5f031e65111576ade48af435164eb52da8e6ada9f14cf6032cbd06e9c2a6", func := "ringhall/ringkeep1.WheelBounds", spec := "wheelBounds", inPlace := ["slices.overlaps[ringhall/wheel.timer]"], unfollowed := true, recurses := true, apart := false }
def WheelBoundsSaid : Prop := wheelBoundsRow.holds Try.pinned (OpenSpec.ofChange wheelBoundsSpec)

/-- ITS FALSE NEIGHBOUR: 'it returns false'. Refute it at one input. -/
def wheelBoundsWrong : ChangeSpec := { name := "wheelBounds", fn := fun _ => fun
  | [d1, d2] => { results := [.lit (.bool false)], args := [d1, d2] }
  | _ => none }
def WheelBoundsWrongFalsely : Prop := wheelBoundsRow.holds Try.pinned (OpenSpec.ofChange wheelBoundsWrong)

/-- 'ringkeep1.WheelOut': WHATEVER THE INPUT: true; the input reads as it did. -/
def wheelOutSpec : ChangeSpec := { name := "wheelOut", fn := fun _ => fun
  | [d1, d2, d3] => { results := [.lit (.bool true)], args := [d1, d2, d3] }
  | _ => none }
def wheelOutRow : OpenClaim := { program := "ytaffkdoiooablaa", sum := "5e4f5f031e65111576ade48af435164eb52da8e6ada9f14cf6032cbd06e9c2a6", func := "ringhall/ringkeep1.WheelOut", spec := "wheelOut", inPlace := ["slices.overlaps[ringhall/wheel.timer]"], unfollowed := true, recurses := true, apart := false }
def WheelOutSaid : Prop := wheelOutRow.holds Try.pinned (OpenSpec.ofChange wheelOutSpec)

/-- ITS FALSE NEIGHBOUR: 'it returns false'. Refute it at one input. -/
def wheelOutWrong : ChangeSpec := { name := "wheelOut", fn := fun _ => fun
  | [d1, d2, d3] => { results := [.lit (.bool false)], args := [d1, d2, d3] }
  | _ => none }
def WheelOutWrongFalsely : Prop := wheelOutRow.holds Try.pinned (OpenSpec.ofChange wheelOutWrong)

/- THE SECOND FORM. 'bulk': how many values and letters a reading holds, each counted each time it is reached (what is shared counts as often as it is met; a slice's spare places count too). A statement '..UptoSaid' is the law's where the arguments, and the package variables that the reading takes, are together of bulk at most 1048576: NARROWER than '..Said'. Prove '..Said' where nothing that the law and all that it calls make is longer than what came in: it says more and counts as full. Else prove '..UptoSaid'. A law counts once. -/
mutual
def uptoBulk {H : Type} : DataW H → Nat
  | .lit (.string bytes) => bytes.length + 1
  | .lit _ => 1
  | .nil => 1
  | .ptr d => uptoBulk d + 1
  | .slice elems spare => uptoBulkAll elems + uptoBulkAll spare + 1
  | .agg parts => uptoBulkAll parts + 1
  | .iface _ d => uptoBulk d + 1
  | .map entries => uptoBulkEntries entries + 1
  | .held _ => 1
def uptoBulkAll {H : Type} : List (DataW H) → Nat
  | [] => 0
  | d :: r => uptoBulk d + uptoBulkAll r
def uptoBulkEntries {H : Type} : List (Lit × DataW H) → Nat
  | [] => 0
  | x :: r => uptoBulkEntry x + uptoBulkEntries r
def uptoBulkEntry {H : Type} : Lit × DataW H → Nat
  | (.string bytes, d) => bytes.length + uptoBulk d + 1
  | (_, d) => uptoBulk d + 1
 end
def uptoSmall : (H : Type) → List (DataW H) → Bool := fun _ ds => decide (uptoBulkAll ds ≤ 1048576)
def OpenSpec.upto (s : _root_.Go.ChangeSpec) : _root_.Go.OpenSpec := { _root_.Go.OpenSpec.ofChange s with cond := some uptoSmall }

/-- 'ringkeep1.PrioTurns', WHERE WHAT IT READS IS OF BULK AT MOST 1048576: true; the input reads as it did. -/
def prioTurnsUptoRow : OpenClaim := { program := "ytaffkdoiooablaa", sum := "5e4f5f031e65111576ade48af435164eb52da8e6ada9f14cf6032cbd06e9c2a6", func := "ringhall/ringkeep1.PrioTurns", spec := "prioTurns", unfollowed := true, recurses := true, apart := false, narrowed := true }
def PrioTurnsUptoSaid : Prop := prioTurnsUptoRow.holds Try.pinned (OpenSpec.upto prioTurnsSpec)

/-- 'ringkeep1.PrioBits', WHERE WHAT IT READS IS OF BULK AT MOST 1048576: true; the input reads as it did. -/
def prioBitsUptoRow : OpenClaim := { program := "ytaffkdoiooablaa", sum := "5e4f5f031e65111576ade48af435164eb52da8e6ada9f14cf6032cbd06e9c2a6", func := "ringhall/ringkeep1.PrioBits", spec := "prioBits", unfollowed := true, recurses := true, apart := false, narrowed := true }
def PrioBitsUptoSaid : Prop := prioBitsUptoRow.holds Try.pinned (OpenSpec.upto prioBitsSpec)

/-- 'ringkeep1.PrioGoes', WHERE WHAT IT READS IS OF BULK AT MOST 1048576: true; the input reads as it did. -/
def prioGoesUptoRow : OpenClaim := { program := "ytaffkdoiooablaa", sum := "5e4f5f031e65111576ade48af435164eb52da8e6ada9f14cf6032cbd06e9c2a6", func := "ringhall/ringkeep1.PrioGoes", spec := "prioGoes", unfollowed := true, recurses := true, apart := false, narrowed := true }
def PrioGoesUptoSaid : Prop := prioGoesUptoRow.holds Try.pinned (OpenSpec.upto prioGoesSpec)

/-- 'ringkeep1.WaitLost', WHERE WHAT IT READS IS OF BULK AT MOST 1048576: true; the input reads as it did. -/
def waitLostUptoRow : OpenClaim := { program := "ytaffkdoiooablaa", sum := "5e4f5f031e65111576ade48af435164eb52da8e6ada9f14cf6032cbd06e9c2a6", func := "ringhall/ringkeep1.WaitLost", spec := "waitLost", unfollowed := true, recurses := true, apart := false, narrowed := true }
def WaitLostUptoSaid : Prop := waitLostUptoRow.holds Try.pinned (OpenSpec.upto waitLostSpec)

/-- 'ringkeep1.WheelTurns', WHERE WHAT IT READS IS OF BULK AT MOST 1048576: true; the input reads as it did. -/
def wheelTurnsUptoRow : OpenClaim := { program := "ytaffkdoiooablaa", sum := "5e4f5f031e65111576ade48af435164eb52da8e6ada9f14cf6032cbd06e9c2a6", func := "ringhall/ringkeep1.WheelTurns", spec := "wheelTurns", inPlace := ["slices.overlaps[ringhall/wheel.timer]"], unfollowed := true, recurses := true, apart := false, narrowed := true }
def WheelTurnsUptoSaid : Prop := wheelTurnsUptoRow.holds Try.pinned (OpenSpec.upto wheelTurnsSpec)

/-- 'ringkeep1.WheelSteps', WHERE WHAT IT READS IS OF BULK AT MOST 1048576: true; the input reads as it did. -/
def wheelStepsUptoRow : OpenClaim := { program := "ytaffkdoiooablaa", sum := "5e4f5f031e65111576ade48af435164eb52da8e6ada9f14cf6032cbd06e9c2a6", func := "ringhall/ringkeep1.WheelSteps", spec := "wheelSteps", inPlace := ["slices.overlaps[ringhall/wheel.timer]"], unfollowed := true, recurses := true, apart := false, narrowed := true }
def WheelStepsUptoSaid : Prop := wheelStepsUptoRow.holds Try.pinned (OpenSpec.upto wheelStepsSpec)

/-- 'ringkeep1.WheelNext', WHERE WHAT IT READS IS OF BULK AT MOST 1048576: true; the input reads as it did. -/
def wheelNextUptoRow : OpenClaim := { program := "ytaffkdoiooablaa", sum := "5e4f5f031e65111576ade48af435164eb52da8e6ada9f14cf6032cbd06e9c2a6", func := "ringhall/ringkeep1.WheelNext", spec := "wheelNext", inPlace := ["slices.overlaps[ringhall/wheel.timer]"], unfollowed := true, recurses := true, apart := false, narrowed := true }
def WheelNextUptoSaid : Prop := wheelNextUptoRow.holds Try.pinned (OpenSpec.upto wheelNextSpec)

/-- 'ringkeep1.WheelBounds', WHERE WHAT IT READS IS OF BULK AT MOST 1048576: true; the input reads as it did. -/
def wheelBoundsUptoRow : OpenClaim := { program := "ytaffkdoiooablaa", sum := "5e4f5f031e65111576ade48af435164eb52da8e6ada9f14cf6032cbd06e9c2a6", func := "ringhall/ringkeep1.WheelBounds", spec := "wheelBounds", inPlace := ["slices.overlaps[ringhall/wheel.timer]"], unfollowed := true, recurses := true, apart := false, narrowed := true }
def WheelBoundsUptoSaid : Prop := wheelBoundsUptoRow.holds Try.pinned (OpenSpec.upto wheelBoundsSpec)

/-- 'ringkeep1.WheelOut', WHERE WHAT IT READS IS OF BULK AT MOST 1048576: true; the input reads as it did. -/
def wheelOutUptoRow : OpenClaim := { program := "ytaffkdoiooablaa", sum := "5e4f5f031e65111576ade48af435164eb52da8e6ada9f14cf6032cbd06e9c2a6", func := "ringhall/ringkeep1.WheelOut", spec := "wheelOut", inPlace := ["slices.overlaps[ringhall/wheel.timer]"], unfollowed := true, recurses := true, apart := false, narrowed := true }
def WheelOutUptoSaid : Prop := wheelOutUptoRow.holds Try.pinned (OpenSpec.upto wheelOutSpec)

end Rows
end Go.Proofs.Ytaffkdoiooablaa
