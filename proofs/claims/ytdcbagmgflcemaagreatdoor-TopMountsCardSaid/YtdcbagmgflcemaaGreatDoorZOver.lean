/- Closed facts of the row and the card of TopMounts: what the program's text says of the law's road. No condition. -/
import Derived.Test.YtdcbagmgflcemaaGreatDoorRows
import Derived.Test.YtdcbagmgflcemaaGreatDoorCards
import Derived.ProofKit
import Derived.SevenTiedAt
import Derived.Stop.Joined
namespace Go.Proofs.YtdcbagmgflcemaaGreatDoor.topMounts
open Go.RowKit
theorem c_in : (Rows.topMountsRow.inPlace == Tryz.prog.inPlace 3) = true := by kernel_rfl
theorem c_un : (Rows.topMountsRow.unfollowed == Tryz.prog.unfollowed 3) = true := by kernel_rfl
theorem c_re : (Rows.topMountsRow.recurses == Tryz.prog.recurses 3) = true := by kernel_rfl
theorem c_na : (Rows.topMountsRow.named == Tryz.prog.varsNamed 3) = true := by kernel_rfl
theorem closed : joinedFacts Tryz.prog 3 Tryz.f3 Rows.topMountsSpec Rows.topMountsRow = true := by
  unfold joinedFacts
  rw [c_in, c_un, c_re, c_na]
  kernel_rfl
theorem d_ma : Tryz.prog.mainIs = some (Rows.topMountsCard.stood.harness.1, Rows.topMountsCard.stood.harness.2.toList) := by kernel_rfl
theorem d_lo : false = Tryz.prog.looks [] := by kernel_rfl
theorem d_wf : Rows.topMountsRow.wfByText (OpenSpec.ofChange Rows.topMountsSpec) = true := by kernel_rfl
end Go.Proofs.YtdcbagmgflcemaaGreatDoor.topMounts
