/- Contracts of Apart (how many tickets lie between two) and of spinBegun. Conditions: tickets are numbers of 16 bits. -/
import Derived.Test.YtnbojhmlgnfneaaSpin
namespace Go.Proofs.Ytnbojhmlgnfneaa
open Go.ChangeShapes Go.WideShapes Go.ChangeAt Go.RowKit
set_option linter.unusedVariables false
theorem apart_ok (a b : Int) (w : World) (a0 : 0 ≤ a) (a1 : a < 65536) (b0 : 0 ≤ b) (b1 : b < 65536) :
    Calls Try.prog 18 #[.int .u16 a, .int .u16 b] w fun e w' => e = .returned (.int .i64 ((b - a + 32768) % 65536 - 32768)) ∧ w = w' := by
  go_enter Try.func18, Try.ntmps18
  go_wp2_with (go_at_call 40; refine (far_any _ _ _).mono ?_; rintro e w' ⟨rfl, rfl⟩)
  go_ret
  refine ⟨ret_int ?_, rfl⟩
  rw [far_eq]
  omega
theorem spinBegun_ok (w : World) : Calls Try.prog 11 #[] w fun e w' => e = .returned (.bool true) ∧ Chg Nil w w' := by
  have hd : decide (([2] : List Nat).head? = some 2) = true := by simp
  go_enter Try.func11, Try.ntmps11
  go_wp2_with fail
  refine (newLock_ok 9 _ (by omega) (by omega)).mono ?_
  rintro e w1 ⟨p, rfl, h1, h2, h3⟩
  go_wp2_with fail
  refine (take_ok 2 _ p 9 [] h1 (by omega) (by simp)).mono ?_
  rintro e w2 ⟨rfl, q1, q2⟩
  go_wp2_with fail
  refine (mine_any 2 _ p 9 [2] q1 (by omega)).mono ?_
  rw [hd]
  rintro e w3 ⟨rfl, k, rfl⟩
  go_wp2
  go_ret
  exact ⟨rfl, (h2.trans q2 (fun i hi h => by rw [show i = p from h] at hi; omega)).drewN k⟩
end Go.Proofs.Ytnbojhmlgnfneaa
