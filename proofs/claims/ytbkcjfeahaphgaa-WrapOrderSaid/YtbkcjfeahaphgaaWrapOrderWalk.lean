/- The walk of the law WrapOrder: for every counter and every two numbers it returns true and leaves the world alone. No condition. -/
import Derived.Test.YtbkcjfeahaphgaaBase
namespace Go.Proofs.Ytbkcjfeahaphgaa
set_option linter.unusedVariables false
open Go.ChangeShapes Go.WideShapes Go.ChangeAt Go.RowKit
theorem less_any (a b : Int) (w : World) :
    Calls Try.prog 11 #[.int .u32 a, .int .u32 b] w fun e w' => e = .returned (.bool (decide (0 < far a b))) ∧ w = w' := by
  go_enter Try.func11, Try.ntmps11
  go_wp2_with (go_at_call 10; refine (far_any _ _ _).mono ?_; rintro e w' ⟨rfl, rfl⟩)
  go_ret
  exact ⟨rfl, rfl⟩
theorem order_facts (a0 m n : Int) (b0 : 0 ≤ a0 ∧ a0 ≤ 4294967295) (m1 : 0 ≤ m) (m2 : m < 1073741824) (n1 : 0 ≤ n) (n2 : n < 1073741824) :
    (far a0 ((a0 + m) % 4294967296) == m) = true ∧ (far ((a0 + m) % 4294967296) ((a0 + m + n) % 4294967296) == n) = true ∧
    (far a0 ((a0 + m + n) % 4294967296) == m + n) = true ∧ (decide (0 < far a0 ((a0 + m + n) % 4294967296)) == decide (0 < m + n)) = true := by
  have g0 := far_eq a0 ((a0 + m) % 4294967296)
  have g1 := far_eq ((a0 + m) % 4294967296) ((a0 + m + n) % 4294967296)
  have g2 := far_eq a0 ((a0 + m + n) % 4294967296)
  refine ⟨by rw [beq_iff_eq]; omega, by rw [beq_iff_eq]; omega, by rw [beq_iff_eq]; omega, ?_⟩
  have : far a0 ((a0 + m + n) % 4294967296) = m + n := by omega
  rw [this]; simp
theorem wrapOrder_walk (a0 a1 a2 : Int) (w : World) (w0 : (Lit.int .u32 a0).wf = true) (w1 : (Lit.int .i64 a1).wf = true) (w2 : (Lit.int .i64 a2).wf = true) :
    Calls Try.prog 4 #[.int .u32 a0, .int .i64 a1, .int .i64 a2] w fun e w' => e = .returned (.bool true) ∧ Below w.heap.size w w' := by
  have b0 := bounds_u32 w0
  have f1 : decide (0 < far 4294967295 5) = true := by decide +kernel
  have f2 : decide (0 < far 5 4294967295) = false := by decide +kernel
  have m1 := rest_nonneg a1 1073741824 (by omega)
  have m2 := rest_lt a1 1073741824 (by omega)
  have n1 := rest_nonneg a2 1073741824 (by omega)
  have n2 := rest_lt a2 1073741824 (by omega)
  obtain ⟨q1, q2, q3, q4⟩ := order_facts a0 (rest a1 1073741824) (rest a2 1073741824) b0 m1 m2 n1 n2
  go_enter Try.func4, Try.ntmps4
  go_wp2_with (first | (go_at_call 10; refine (far_any _ _ _).mono ?_; rintro e w' ⟨rfl, rfl⟩) | (go_at_call 11; refine (less_any _ _ _).mono ?_; rintro e w' ⟨rfl, rfl⟩) | (go_at_call 12; refine (rest_any _ _ _ (by omega) (by omega)).mono ?_; rintro e w' ⟨rfl, rfl⟩))
  go_ret
  exact ⟨rfl, Below.refl _ _⟩
end Go.Proofs.Ytbkcjfeahaphgaa
