/- Contracts of the small functions Far, Less and Rest: what each returns; the world stays as it is. No condition but Rest's: n at least 1. -/
import Derived.Test.YtdelelpfombfbaaRows
import Derived.Test.YtdelelpfombfbaaPlain
import Derived.ProofKit
import Derived.OpenShut
namespace Go.Proofs.Ytdelelpfombfbaa
open Go.ChangeShapes Go.WideShapes Go.ChangeAt Go.RowKit
theorem rest_any (k n : Int) (w : World) (h1 : 1 ≤ n) (h2 : n ≤ 9223372036854775807) :
    Calls Try.prog 17 #[.int .i64 k, .int .i64 n] w fun e w' => e = .returned (.int .i64 (rest k n)) ∧ w = w' := by
  have hb1 := rest_nonneg k n h1
  have hb2 := rest_lt k n h1
  go_enter Try.func17, Try.ntmps17
  go_wp2
  go_ret
  refine ⟨ret_int ?_, rfl⟩
  have e1 : IntKind.u64.wrap k = k % 18446744073709551616 := by simp [IntKind.wrap, IntKind.signed, IntKind.bits]
  have e2 : (k % 18446744073709551616).tmod n = rest k n := by rw [Int.tmod_eq_emod_of_nonneg (Int.emod_nonneg _ (by omega))]; rfl
  rw [e1, e2]
  exact IntWalk.wrap64_in _ ⟨by omega, by omega⟩
end Go.Proofs.Ytdelelpfombfbaa
