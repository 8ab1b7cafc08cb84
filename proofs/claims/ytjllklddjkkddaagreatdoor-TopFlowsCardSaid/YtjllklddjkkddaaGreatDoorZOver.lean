/- Closed facts of the row and the card of TopFlows: what the program's text says of the law's road. No condition. -/
import Derived.Test.YtjllklddjkkddaaGreatDoorRows
import Derived.Test.YtjllklddjkkddaaGreatDoorCards
import Derived.ProofKit
import Derived.SevenTiedAt
import Derived.Stop.Joined
namespace Go.Proofs.YtjllklddjkkddaaGreatDoor.topFlows
open Go.RowKit
theorem c_in : (Rows.topFlowsRow.inPlace == Tryz.prog.inPlace 3) = true := by kernel_rfl
theorem c_un : (Rows.topFlowsRow.unfollowed == Tryz.prog.unfollowed 3) = true := by kernel_rfl
theorem c_re : (Rows.topFlowsRow.recurses == Tryz.prog.recurses 3) = true := by kernel_rfl
theorem c_na : (Rows.topFlowsRow.named == Tryz.prog.varsNamed 3) = true := by kernel_rfl
theorem closed : joinedFacts Tryz.prog 3 Tryz.f3 Rows.topFlowsSpec Rows.topFlowsRow = true := by
  unfold joinedFacts
  rw [c_in, c_un, c_re, c_na]
  kernel_rfl
theorem d_ma : Tryz.prog.mainIs = some (Rows.topFlowsCard.stood.harness.1, Rows.topFlowsCard.stood.harness.2.toList) := by kernel_rfl
theorem d_lo : false = Tryz.prog.looks [] := by kernel_rfl
theorem d_wf : Rows.topFlowsRow.wfByText (OpenSpec.ofChange Rows.topFlowsSpec) = true := by kernel_rfl
theorem d_go : false = Rows.topFlowsRow.goesBy Tryz.prog := by kernel_rfl
end Go.Proofs.YtjllklddjkkddaaGreatDoor.topFlows
