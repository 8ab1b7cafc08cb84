/- The walk of the law WrapTurns: for every three counters it returns true and leaves the world alone. No condition. -/
import Derived.Test.YtbkcjfeahaphgaaBase
namespace Go.Proofs.Ytbkcjfeahaphgaa
open Go.ChangeShapes Go.WideShapes Go.ChangeAt Go.RowKit
theorem wrapTurns_walk (a0 a1 a2 : Int) (w : World) (w0 : (Lit.int .u32 a0).wf = true) (w1 : (Lit.int .u32 a1).wf = true) (w2 : (Lit.int .u32 a2).wf = true) :
    Calls Try.prog 3 #[.int .u32 a0, .int .u32 a1, .int .u32 a2] w fun e w' => e = .returned (.bool true) ∧ Below w.heap.size w w' := by
  have b0 := bounds_u32 w0
  have b1 := bounds_u32 w1
  have b2 := bounds_u32 w2
  have f1 : (far 4294967294 1 != 3) = false := by decide +kernel
  have f2 : (far 1 4294967294 != -3) = false := by decide +kernel
  have g0 := far_eq a0 a1
  have g1 := far_eq a1 a0
  have g2 := far_eq ((a0 + a2) % 4294967296) ((a1 + a2) % 4294967296)
  have f3 : (far a0 a1 != far ((a0 + a2) % 4294967296) ((a1 + a2) % 4294967296)) = false := by
    rw [bne_eq_false_iff_eq]; omega
  have f4 : ((a0 + far a0 a1) % 4294967296 != a1) = false := by rw [bne_eq_false_iff_eq]; omega
  have l1 : -2147483648 ≤ far a0 a1 := by omega
  have l2 : far a0 a1 ≤ 2147483647 := by omega
  by_cases h : far a0 a1 = -2147483648
  · have h5 : (far a0 a1 == -2147483648) = true := by simpa using h
    have h6 : (far a1 a0 == far a0 a1) = true := by rw [beq_iff_eq]; omega
    clear g0 g1 g2 h
    go_enter Try.func3, Try.ntmps3
    go_wp2_with (go_at_call 10; refine (far_any _ _ _).mono ?_; rintro e w' ⟨rfl, rfl⟩)
    go_ret
    exact ⟨rfl, Below.refl _ _⟩
  · have h5 : (far a0 a1 == -2147483648) = false := by simpa using h
    have h7 : (far a0 a1 != -2147483648) = true := by simpa using h
    have h6 : (far a1 a0 == -far a0 a1) = true := by rw [beq_iff_eq]; omega
    clear g0 g1 g2
    go_enter Try.func3, Try.ntmps3
    go_wp2_with (go_at_call 10; refine (far_any _ _ _).mono ?_; rintro e w' ⟨rfl, rfl⟩)
    go_ret
    exact ⟨rfl, Below.refl _ _⟩
end Go.Proofs.Ytbkcjfeahaphgaa
