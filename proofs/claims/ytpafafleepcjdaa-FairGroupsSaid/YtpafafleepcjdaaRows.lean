/-
  No cell of these rows narrows 'for every input' (looked for: loops, veiled, ifaces, maps, wideKeys, modest, calm, conditions, laid).
  DERIVED. THE GIVEN ROWS OF THIS SEAT. 6 by the template 'for every input the law returns true; each argument reads behind the call as it read before'; 0 by the template 'total and deterministic' (their statements: YtpafafleepcjdaaTotals.lean).
  GIVEN WITH THE SEED: the statements are not yours to turn. If you find one false, say at which input.
  Laid BY PROGRAM, IN A SANDBOX (cutbox-rows.mjs): the forced cells as the released guide's own fill.sh prints them over the translation e323d422fcff36ca… (all of the seat's roots in one cut). By AI agents, Wed Nov 11 2026. No macro, syntax, notation, axiom, sorry.
-/
import Derived.Test.YtpafafleepcjdaaChecked
import GoSem.Claim
import GoSem.ClaimJoined
import GoSem.ClaimMapViews
import Derived.JoinedTies
import Derived.KernelRfl
namespace Go.Proofs.Ytpafafleepcjdaa
/- THE CELL 'sum', in the pinned program and in every row, IS THE sha256 OF THE DUMP (.gsa) THAT YtpafafleepcjdaaProg.lean LOADS. Nothing in Lean hashes anything: it is a label: what it is worth is what the hold of that sum in a sandbox is worth. -/
noncomputable def Try.pinned : Pinned := { name := "ytpafafleepcjdaa", sum := "e323d422fcff36cadcbe1a3ee95bee5507dcdee80f206447347aa40010fbd8ba", checked := Try.checked }
namespace Rows
def none {H : Type} : Left H := { results := [], args := [] }

/-- 'ringkeep1.FairAlike': WHATEVER THE INPUT: true; the input reads as it did. -/
def fairAlikeSpec : ChangeSpec := { name := "fairAlike", fn := fun _ => fun
  | [d1, d2, d3] => { results := [.lit (.bool true)], args := [d1, d2, d3] }
  | _ => none }
def fairAlikeRow : OpenClaim := { program := "ytpafafleepcjdaa", sum := "e323d422fcff36cadcbe1a3ee95bee5507dcdee80f206447347aa40010fbd8ba", func := "ringhall/ringkeep1.FairAlike", spec := "fairAlike", apart := false }
def FairAlikeSaid : Prop := fairAlikeRow.holds Try.pinned (OpenSpec.ofChange fairAlikeSpec)

/-- ITS FALSE NEIGHBOUR: 'it returns false'. Refute it at one input. -/
def fairAlikeWrong : ChangeSpec := { name := "fairAlike", fn := fun _ => fun
  | [d1, d2, d3] => { results := [.lit (.bool false)], args := [d1, d2, d3] }
  | _ => none }
def FairAlikeWrongFalsely : Prop := fairAlikeRow.holds Try.pinned (OpenSpec.ofChange fairAlikeWrong)

/-- 'ringkeep1.FairWeights': WHATEVER THE INPUT: true; the input reads as it did. -/
def fairWeightsSpec : ChangeSpec := { name := "fairWeights", fn := fun _ => fun
  | [d1, d2, d3] => { results := [.lit (.bool true)], args := [d1, d2, d3] }
  | _ => none }
def fairWeightsRow : OpenClaim := { program := "ytpafafleepcjdaa", sum := "e323d422fcff36cadcbe1a3ee95bee5507dcdee80f206447347aa40010fbd8ba", func := "ringhall/ringkeep1.FairWeights", spec := "fairWeights", apart := false }
def FairWeightsSaid : Prop := fairWeightsRow.holds Try.pinned (OpenSpec.ofChange fairWeightsSpec)

/-- ITS FALSE NEIGHBOUR: 'it returns false'. Refute it at one input. -/
def fairWeightsWrong : ChangeSpec := { name := "fairWeights", fn := fun _ => fun
  | [d1, d2, d3] => { results := [.lit (.bool false)], args := [d1, d2, d3] }
  | _ => none }
def FairWeightsWrongFalsely : Prop := fairWeightsRow.holds Try.pinned (OpenSpec.ofChange fairWeightsWrong)

/-- 'ringkeep1.FairShares': WHATEVER THE INPUT: true; the input reads as it did. -/
def fairSharesSpec : ChangeSpec := { name := "fairShares", fn := fun _ => fun
  | [d1, d2] => { results := [.lit (.bool true)], args := [d1, d2] }
  | _ => none }
def fairSharesRow : OpenClaim := { program := "ytpafafleepcjdaa", sum := "e323d422fcff36cadcbe1a3ee95bee5507dcdee80f206447347aa40010fbd8ba", func := "ringhall/ringkeep1.FairShares", spec := "fairShares", apart := false }
def FairSharesSaid : Prop := fairSharesRow.holds Try.pinned (OpenSpec.ofChange fairSharesSpec)

/-- ITS FALSE NEIGHBOUR: 'it returns false'. Refute it at one input. -/
def fairSharesWrong : ChangeSpec := { name := "fairShares", fn := fun _ => fun
  | [d1, d2] => { results := [.lit (.bool false)], args := [d1, d2] }
  | _ => none }
def FairSharesWrongFalsely : Prop := fairSharesRow.holds Try.pinned (OpenSpec.ofChange fairSharesWrong)

/-- 'ringkeep1.FairGroups': WHATEVER THE INPUT: true; the input reads as it did. -/
def fairGroupsSpec : ChangeSpec := { name := "fairGroups", fn := fun _ => fun
  | [d1, d2, d3, d4] => { results := [.lit (.bool true)], args := [d1, d2, d3, d4] }
  | _ => none }
def fairGroupsRow : OpenClaim := { program := "ytpafafleepcjdaa", sum := "e323d422fcff36cadcbe1a3ee95bee5507dcdee80f206447347aa40010fbd8ba", func := "ringhall/ringkeep1.FairGroups", spec := "fairGroups", apart := false }
def FairGroupsSaid : Prop := fairGroupsRow.holds Try.pinned (OpenSpec.ofChange fairGroupsSpec)

/-- ITS FALSE NEIGHBOUR: 'it returns false'. Refute it at one input. -/
def fairGroupsWrong : ChangeSpec := { name := "fairGroups", fn := fun _ => fun
  | [d1, d2, d3, d4] => { results := [.lit (.bool false)], args := [d1, d2, d3, d4] }
  | _ => none }
def FairGroupsWrongFalsely : Prop := fairGroupsRow.holds Try.pinned (OpenSpec.ofChange fairGroupsWrong)

/-- 'ringkeep1.FairGoes': WHATEVER THE INPUT: true; the input reads as it did. -/
def fairGoesSpec : ChangeSpec := { name := "fairGoes", fn := fun _ => fun
  | [d1, d2, d3] => { results := [.lit (.bool true)], args := [d1, d2, d3] }
  | _ => none }
def fairGoesRow : OpenClaim := { program := "ytpafafleepcjdaa", sum := "e323d422fcff36cadcbe1a3ee95bee5507dcdee80f206447347aa40010fbd8ba", func := "ringhall/ringkeep1.FairGoes", spec := "fairGoes", apart := false }
def FairGoesSaid : Prop := fairGoesRow.holds Try.pinned (OpenSpec.ofChange fairGoesSpec)

/-- ITS FALSE NEIGHBOUR: 'it returns false'. Refute it at one input. -/
def fairGoesWrong : ChangeSpec := { name := "fairGoes", fn := fun _ => fun
  | [d1, d2, d3] => { results := [.lit (.bool false)], args := [d1, d2, d3] }
  | _ => none }
def FairGoesWrongFalsely : Prop := fairGoesRow.holds Try.pinned (OpenSpec.ofChange fairGoesWrong)

/-- 'ringkeep1.FairSleeps': WHATEVER THE INPUT: true; the input reads as it did. -/
def fairSleepsSpec : ChangeSpec := { name := "fairSleeps", fn := fun _ => fun
  | [d1, d2, d3, d4] => { results := [.lit (.bool true)], args := [d1, d2, d3, d4] }
  | _ => none }
def fairSleepsRow : OpenClaim := { program := "ytpafafleepcjdaa", sum := "e323d422fcff36cadcbe1a3ee95bee5507dcdee80f206447347aa40010fbd8ba", func := "ringhall/ringkeep1.FairSleeps", spec := "fairSleeps", apart := false }
def FairSleepsSaid : Prop := fairSleepsRow.holds Try.pinned (OpenSpec.ofChange fairSleepsSpec)

/-- ITS FALSE NEIGHBOUR: 'it returns false'. Refute it at one input. -/
def fairSleepsWrong : ChangeSpec := { name := "fairSleeps", fn := fun _ => fun
  | [d1, d2, d3, d4] => { results := [.lit (.bool false)], args := [d1, d2, d3, d4] }
  | _ => none }
def FairSleepsWrongFalsely : Prop := fairSleepsRow.holds Try.pinned (OpenSpec.ofChange fairSleepsWrong)

/- THE SECOND FORM. 'bulk': how many values and letters a reading holds, each counted each time it is reached (what is shared counts as often as it is met; a slice's spare places count too). A statement '..UptoSaid' is the law's where the arguments, and the package variables that the reading takes, are together of bulk at most 1048576: NARROWER than '..Said'. Prove '..Said' where nothing that the law and all that it calls make is longer than what came in: it says more and counts as full. Else prove '..UptoSaid'. A law counts once. -/
mutual
def uptoBulk {H : Type} : DataW H → Nat
  | .lit (.string bytes) => bytes.length + 1
  | .lit _ => 1
  | .nil => 1
  | .ptr d => uptoBulk d + 1
  | .slice elems spare => uptoBulkAll elems + uptoBulkAll spare + 1
  | .agg parts => uptoBulkAll parts + 1
  | .iface _ d => uptoBulk d + 1
  | .map entries => uptoBulkEntries entries + 1
  | .held _ => 1
def uptoBulkAll {H : Type} : List (DataW H) → Nat
  | [] => 0
  | d :: r => uptoBulk d + uptoBulkAll r
def uptoBulkEntries {H : Type} : List (Lit × DataW H) → Nat
  | [] => 0
  | x :: r => uptoBulkEntry x + uptoBulkEntries r
def uptoBulkEntry {H : Type} : Lit × DataW H → Nat
  | (.string bytes, d) => bytes.length + uptoBulk d + 1
  | (_, d) => uptoBulk d + 1
 end
def uptoSmall : (H : Type) → List (DataW H) → Bool := fun _ ds => decide (uptoBulkAll ds ≤ 1048576)
def OpenSpec.upto (s : _root_.Go.ChangeSpec) : _root_.Go.OpenSpec := { _root_.Go.OpenSpec.ofChange s with cond := some uptoSmall }

/-- 'ringkeep1.FairAlike', WHERE WHAT IT READS IS OF BULK AT MOST 1048576: true; the input reads as it did. -/
def fairAlikeUptoRow : OpenClaim := { program := "ytpafafleepcjdaa", sum := "e323d422fcff36cadcbe1a3ee95bee5507dcdee80f206447347aa40010fbd8ba", func := "ringhall/ringkeep1.FairAlike", spec := "fairAlike", apart := false, narrowed := true }
def FairAlikeUptoSaid : Prop := fairAlikeUptoRow.holds Try.pinned (OpenSpec.upto fairAlikeSpec)

/-- 'ringkeep1.FairWeights', WHERE WHAT IT READS IS OF BULK AT MOST 1048576: true; the input reads as it did. -/
def fairWeightsUptoRow : OpenClaim := { program := "ytpafafleepcjdaa", sum := "e323d422fcff36cadcbe1a3ee95bee5507dcdee80f206447347aa40010fbd8ba", func := "ringhall/ringkeep1.FairWeights", spec := "fairWeights", apart := false, narrowed := true }
def FairWeightsUptoSaid : Prop := fairWeightsUptoRow.holds Try.pinned (OpenSpec.upto fairWeightsSpec)

/-- 'ringkeep1.FairShares', WHERE WHAT IT READS IS OF BULK AT MOST 1048576: true; the input reads as it did. -/
def fairSharesUptoRow : OpenClaim := { program := "ytpafafleepcjdaa", sum := "e323d422fcff36cadcbe1a3ee95bee5507dcdee80f206447347aa40010fbd8ba", func := "ringhall/ringkeep1.FairShares", spec := "fairShares", apart := false, narrowed := true }
def FairSharesUptoSaid : Prop := fairSharesUptoRow.holds Try.pinned (OpenSpec.upto fairSharesSpec)

/-- 'ringkeep1.FairGroups', WHERE WHAT IT READS IS OF BULK AT MOST 1048576: true; the input reads as it did. -/
def fairGroupsUptoRow : OpenClaim := { program := "ytpafafleepcjdaa", sum := "e323d422fcff36cadcbe1a3ee95bee5507dcdee80f206447347aa40010fbd8ba", func := "ringhall/ringkeep1.FairGroups", spec := "fairGroups", apart := false, narrowed := true }
def FairGroupsUptoSaid : Prop := fairGroupsUptoRow.holds Try.pinned (OpenSpec.upto fairGroupsSpec)

/-- 'ringkeep1.FairGoes', WHERE WHAT IT READS IS OF BULK AT MOST 1048576: true; the input reads as it did. -/
def fairGoesUptoRow : OpenClaim := { program := "ytpafafleepcjdaa", sum := "e323d422fcff36cadcbe1a3ee95bee5507dcdee80f206447347aa40010fbd8ba", func := "ringhall/ringkeep1.FairGoes", spec := "fairGoes", apart := false, narrowed := true }
def FairGoesUptoSaid : Prop := fairGoesUptoRow.holds Try.pinned (OpenSpec.upto fairGoesSpec)

/-- 'ringkeep1.FairSleeps', WHERE WHAT IT READS IS OF BULK AT MOST 1048576: true; the input reads as it did. -/
def fairSleepsUptoRow : OpenClaim := { program := "ytpafafleepcjdaa", sum := "e323d422fcff36cadcbe1a3ee95bee5507dcdee80f206447347aa40010fbd8ba", func := "ringhall/ringkeep1.FairSleeps", spec := "fairSleeps", apart := false, narrowed := true }
def FairSleepsUptoSaid : Prop := fairSleepsUptoRow.holds Try.pinned (OpenSpec.upto fairSleepsSpec)

end Rows
end Go.Proofs.Ytpafafleepcjdaa
