/- pipe.Read of the one pipe. Conditions: somebody reads · pipe.Write to the one pipe. Conditions: somebody reads, and somebody writes. -/
import Derived.Test.YtdcbagmgflcemaaGreatDoorZ16
import Derived.WalkLawsBesides
import Derived.Test.YtdcbagmgflcemaaGreatDoorZ11
namespace Go.Proofs.YtdcbagmgflcemaaGreatDoor
open Go.ChangeShapes Go.WideShapes Go.ChangeAt Go.RowKit
set_option linter.unusedVariables false
end Go.Proofs.YtdcbagmgflcemaaGreatDoor
namespace Go.Proofs.YtdcbagmgflcemaaGreatDoor
open Go.ChangeShapes Go.WideShapes Go.ChangeAt Go.RowKit
set_option linter.unusedVariables false
end Go.Proofs.YtdcbagmgflcemaaGreatDoor
