/- The walk of the law VtimeAdds: for every five numbers it returns true and leaves the world alone. No condition. -/
import Derived.Test.YtbkcjfeahaphgaaBase
namespace Go.Proofs.Ytbkcjfeahaphgaa
set_option linter.unusedVariables false
open Go.ChangeShapes Go.WideShapes Go.ChangeAt Go.RowKit
/-- What a tick costs. -/
def cost (a : Int) : Int := 1048576 / a
theorem cost_nonneg (a : Int) (h : 1 ≤ a) : 0 ≤ cost a := Int.ediv_nonneg (by omega) (by omega)
theorem cost_le (a : Int) (h : 1 ≤ a) : cost a ≤ 1048576 := Int.ediv_le_self _ (by omega)
theorem cost_mul_le (a : Int) (h : 1 ≤ a) : cost a * a ≤ 1048576 := Int.ediv_mul_le _ (by omega)
theorem cost_mul_lt (a : Int) (h : 1 ≤ a) : 1048576 < cost a * a + a := by
  have h1 := Int.mul_ediv_add_emod 1048576 a
  have h2 := Int.emod_lt_of_pos 1048576 (show 0 < a by omega)
  have h3 : a * (1048576 / a) = cost a * a := Int.mul_comm _ _
  omega
theorem cost_anti (a b : Int) (h : 1 ≤ a) (hab : a ≤ b) : cost b ≤ cost a := by
  have h1 := cost_mul_le b (by omega)
  have h2 : cost b * a ≤ cost b * b := Int.mul_le_mul_of_nonneg_left hab (cost_nonneg b (by omega))
  exact (Int.le_ediv_iff_mul_le (by omega)).2 (by omega)
theorem cost_ok (a : Int) (w : World) (h1 : 1 ≤ a) (h2 : a ≤ 100) :
    Calls Try.prog 14 #[.int .i64 a] w fun e w' => e = .returned (.tuple #[.int .i64 (cost a), .int .i64 0]) ∧ w = w' := by
  go_enter Try.func14, Try.ntmps14
  go_wp2
  go_ret2
  exact ⟨rfl, rfl⟩
theorem cost_t (a t : Int) (h1 : 1 ≤ a) (t1 : 0 ≤ t) (t2 : t ≤ 1073741824) : 0 ≤ cost a * t ∧ cost a * t ≤ 1125899906842624 := by
  have c1 := cost_nonneg a h1
  have c2 := cost_le a h1
  refine ⟨Int.mul_nonneg c1 t1, ?_⟩
  have : cost a * t ≤ 1048576 * 1073741824 := Int.mul_le_mul c2 t2 t1 (by omega)
  omega
theorem after_ok (v a t : Int) (w : World) (h1 : 1 ≤ a) (h2 : a ≤ 100) (v1 : 0 ≤ v) (v2 : v ≤ 1152921504606846976) (t1 : 0 ≤ t) (t2 : t ≤ 1073741824) :
    Calls Try.prog 13 #[.int .i64 v, .int .i64 a, .int .i64 t] w fun e w' => e = .returned (.tuple #[.int .i64 (v + cost a * t), .int .i64 0]) ∧ w = w' := by
  obtain ⟨p1, p2⟩ := cost_t a t h1 t1 t2
  go_enter Try.func13, Try.ntmps13
  go_wp2_with (go_at_call 14; refine (cost_ok _ _ (by omega) (by omega)).mono ?_; rintro e w' ⟨rfl, rfl⟩)
  go_ret2
  exact ⟨rfl, rfl⟩
theorem vtimeAdds_walk (a0 a1 a2 a3 a4 : Int) (w : World) (w0 : (Lit.int .i64 a0).wf = true) (w1 : (Lit.int .i64 a1).wf = true) (w2 : (Lit.int .i64 a2).wf = true) (w3 : (Lit.int .i64 a3).wf = true) (w4 : (Lit.int .i64 a4).wf = true) :
    Calls Try.prog 5 #[.int .i64 a0, .int .i64 a1, .int .i64 a2, .int .i64 a3, .int .i64 a4] w fun e w' => e = .returned (.bool true) ∧ Below w.heap.size w w' := by
  have v1 := rest_nonneg a0 1125899906842624 (by omega)
  have v2 := rest_lt a0 1125899906842624 (by omega)
  have x1 := rest_nonneg a1 100 (by omega)
  have x2 := rest_lt a1 100 (by omega)
  have y1 := rest_nonneg a2 100 (by omega)
  have y2 := rest_lt a2 100 (by omega)
  have m1 := rest_nonneg a3 1048576 (by omega)
  have m2 := rest_lt a3 1048576 (by omega)
  have n1 := rest_nonneg a4 1048576 (by omega)
  have n2 := rest_lt a4 1048576 (by omega)
  obtain ⟨p1, p2⟩ := cost_t (1 + rest a1 100) (rest a3 1048576) (by omega) (by omega) (by omega)
  obtain ⟨p3, p4⟩ := cost_t (1 + rest a1 100) (rest a4 1048576) (by omega) (by omega) (by omega)
  obtain ⟨p5, p6⟩ := cost_t (1 + rest a1 100) (rest a3 1048576 + rest a4 1048576) (by omega) (by omega) (by omega)
  have u1 := cost_mul_le (1 + rest a1 100) (by omega)
  have u2 := cost_mul_lt (1 + rest a1 100) (by omega)
  have u3 : 0 ≤ cost (1 + rest a1 100) * (1 + rest a1 100) := Int.mul_nonneg (cost_nonneg _ (by omega)) (by omega)
  have q1 : (rest a0 1125899906842624 + cost (1 + rest a1 100) * rest a3 1048576 + cost (1 + rest a1 100) * rest a4 1048576 == rest a0 1125899906842624 + cost (1 + rest a1 100) * (rest a3 1048576 + rest a4 1048576)) = true := by
    rw [beq_iff_eq, Int.mul_add]; omega
  have k0 : (5 + cost 2 * 3 != 1572869) = false := by decide +kernel
  by_cases hab : rest a2 100 < rest a1 100
  · go_enter Try.func5, Try.ntmps5
    go_wp2_with (first | (go_at_call 13; refine (after_ok _ _ _ _ (by omega) (by omega) (by omega) (by omega) (by omega) (by omega)).mono ?_; rintro e w' ⟨rfl, rfl⟩) | (go_at_call 14; refine (cost_ok _ _ (by omega) (by omega)).mono ?_; rintro e w' ⟨rfl, rfl⟩) | (go_at_call 12; refine (rest_any _ _ _ (by omega) (by omega)).mono ?_; rintro e w' ⟨rfl, rfl⟩))
    go_ret
    exact ⟨rfl, Below.refl _ _⟩
  · have hle := cost_anti (1 + rest a1 100) (1 + rest a2 100) (by omega) (by omega)
    go_enter Try.func5, Try.ntmps5
    go_wp2_with (first | (go_at_call 13; refine (after_ok _ _ _ _ (by omega) (by omega) (by omega) (by omega) (by omega) (by omega)).mono ?_; rintro e w' ⟨rfl, rfl⟩) | (go_at_call 14; refine (cost_ok _ _ (by omega) (by omega)).mono ?_; rintro e w' ⟨rfl, rfl⟩) | (go_at_call 12; refine (rest_any _ _ _ (by omega) (by omega)).mono ?_; rintro e w' ⟨rfl, rfl⟩))
    go_ret
    exact ⟨rfl, Below.refl _ _⟩
end Go.Proofs.Ytbkcjfeahaphgaa
