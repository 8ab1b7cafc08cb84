/- A closed fact of the card of TopMounts: its text. No condition. -/
import Derived.Test.YtdcbagmgflcemaaGreatDoorRows
import Derived.Test.YtdcbagmgflcemaaGreatDoorCards
import Derived.ProofKit
import Derived.SevenTiedAt
import Derived.Stop.Joined
namespace Go.Proofs.YtdcbagmgflcemaaGreatDoor.topMounts
open Go.RowKit
theorem d_go : false = Rows.topMountsRow.goesBy Tryz.prog := by kernel_rfl
end Go.Proofs.YtdcbagmgflcemaaGreatDoor.topMounts
