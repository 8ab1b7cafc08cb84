/- Plain facts on the numbers of the laws: the remainder that the laws draw by, the distance of two counters. No condition. -/
import Derived.WalkKit
namespace Go.Proofs.YtdcbagmgflcemaaGreatDoor
open Go.RowKit
/-- The laws' own remainder: a number of any sort, taken as 64 bits without a sign, modulo n. -/
def rest (k n : Int) : Int := (k % 18446744073709551616) % n
/-- The distance of two counters of 32 bits, the nearer way round. -/
def far (a b : Int) : Int := wrap64 (wrap32 ((b - a) % 4294967296))
theorem ret_bool {a b : Bool} (h : a = b) : Ending.returned (.bool a) = .returned (.bool b) := by rw [h]
end Go.Proofs.YtdcbagmgflcemaaGreatDoor
