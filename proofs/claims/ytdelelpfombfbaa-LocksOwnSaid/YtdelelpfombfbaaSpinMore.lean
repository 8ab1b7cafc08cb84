/- Contracts of Apart (how many tickets lie between two) and of spinBegun. Conditions: tickets are numbers of 16 bits. -/
import Derived.Test.YtdelelpfombfbaaSpin
namespace Go.Proofs.Ytdelelpfombfbaa
open Go.ChangeShapes Go.WideShapes Go.ChangeAt Go.RowKit
set_option linter.unusedVariables false
theorem spinBegun_ok (w : World) : Calls Try.prog 5 #[] w fun e w' => e = .returned (.bool true) ∧ Chg Nil w w' := by
  have hd : decide (([2] : List Nat).head? = some 2) = true := by simp
  go_enter Try.func5, Try.ntmps5
  go_wp2_with fail
  refine (newLock_ok 9 _ (by omega) (by omega)).mono ?_
  rintro e w1 ⟨p, rfl, h1, h2, h3⟩
  go_wp2_with fail
  refine (take_ok 2 _ p 9 [] h1 (by omega) (by simp)).mono ?_
  rintro e w2 ⟨rfl, q1, q2⟩
  go_wp2_with fail
  refine (mine_any 2 _ p 9 [2] q1 (by omega)).mono ?_
  rw [hd]
  rintro e w3 ⟨rfl, k, rfl⟩
  go_wp2
  go_ret
  exact ⟨rfl, (h2.trans q2 (fun i hi h => by rw [show i = p from h] at hi; omega)).drewN k⟩
end Go.Proofs.Ytdelelpfombfbaa
