/- The beginning of the statements on wheels, and two wheels side by side. -/
import Derived.Test.YtaffkdoiooablaaWheelB
namespace Go.Proofs.Ytaffkdoiooablaa
open Go.ChangeShapes Go.WideShapes Go.ChangeAt Go.RowKit
set_option linter.unusedVariables false
theorem bld_two : bld [40, 20] 2 = [⟨20, 1⟩, ⟨40, 0⟩] := by kernel_rfl
theorem due_two : ([⟨20, 1⟩, ⟨40, 0⟩] : List RT).takeWhile (dueR 36) = [⟨20, 1⟩] := by kernel_rfl
theorem wbegun_ok (w : World) : Calls Try.prog 32 #[] w fun e w' => e = .returned (.bool true) ∧ Chg Nil w w' := by
  have hA := (Chg.refl Nil w).alloc (.cells #[.int .i64 40, .int .i64 20] 3)
  have HT := hid (timers_ok _ 4294967280 (by decide) (by decide) _ _ _ [40, 20] _ (Rd.of_blk (n := 2) (s := 1) (Blk.new w 3 (ints .i64 [40, 20])) rfl (by decide)) (by decide))
  rw [bld_two] at HT
  have HA := hid hA
  clear hA
  go_enter Try.func32, Try.ntmps32
  go_wp2_with fail
  refine HT.out.mono ?_
  rintro e w1 ⟨F, p, rfl, q1, q2, q3⟩
  have HS := hid (rstep_ok w1 F p 4294967280 0 36 _ q1 (by decide) (by decide) (by decide) (fun x hx => by simp at hx; rcases hx with rfl | rfl <;> decide))
  rw [show nowOf 4294967280 36 = 20 by decide] at HS
  unfold RStep at HS
  rw [due_two] at HS
  have Q2 := hid (HA.out.trans q2 (fun _ _ h => h))
  have Q3 := hid q3
  clear q1 q2 q3 HT
  go_wp2_with fail
  refine HS.out.mono ?_
  rintro e w2 ⟨F2, oa, oc, G2, rfl, _, r2, _, r4, _⟩
  have R2 := hid (Q2.out.trans r2 (fun k hk h => by rcases Q3.out k h with h5 | h5; exact h5; simp at h5; omega))
  have R4 := hid ((r4.alloc (.cells #[.int .i64 1] 3)).rd)
  clear r2 r4 HS
  go_wp2_with fail
  refine (equal_int _ _ _ _ _ _ _ _ [1] [1] _ R4.out (Rd.of_blk (n := 1) (s := 1) (Blk.new w2 3 (ints .i64 [1])) rfl (by decide)) (by decide) (by decide)).mono ?_
  rw [eqI_true rfl]
  rintro e w9 ⟨rfl, m, rfl⟩
  go_wp2
  go_ret
  exact ⟨rfl, (R2.out.alloc _).drewN m⟩
end Go.Proofs.Ytaffkdoiooablaa
