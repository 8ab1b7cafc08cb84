/- The walk of the law WheelBounds: it returns true and changes nothing that was there. No condition. -/
import Derived.Test.YtaffkdoiooablaaWheelStepsWalk
namespace Go.Proofs.Ytaffkdoiooablaa
open Go.ChangeShapes Go.WideShapes Go.ChangeAt Go.RowKit
set_option linter.unusedVariables false
theorem ins_one (x : RT) : insR x [] = [x] := rfl
theorem ins_two (n : Nat) : insR ⟨n, 2⟩ [⟨0, 1⟩] = [⟨0, 1⟩, ⟨n, 2⟩] := by
  have h : befR ⟨n, 2⟩ ⟨0, 1⟩ = true := by simp [befR]; omega
  simp [insR, h]
theorem ins_three (n : Nat) (h : n ≤ 2147483647) : insR ⟨2147483647, 3⟩ [⟨0, 1⟩, ⟨n, 2⟩] = [⟨0, 1⟩, ⟨n, 2⟩, ⟨2147483647, 3⟩] := by
  have h1 : befR ⟨2147483647, 3⟩ ⟨0, 1⟩ = true := by simp [befR]
  have h2 : befR ⟨2147483647, 3⟩ ⟨n, 2⟩ = true := by simp [befR]; omega
  simp [insR, h1, h2]
theorem all_due {l : List RT} {m : Nat} (h : ∀ x ∈ l, x.k ≤ m) : l.takeWhile (dueR m) = l := by
  have := (tw_append (dueR m) l [] (fun x hx => by simp [dueR, h x hx])).1
  simpa using this
theorem cat_due {l : List RT} {n m : Nat} (h : ∀ x ∈ l, x.k ≤ m) : l.takeWhile (dueR 0) ++ ((l.dropWhile (dueR 0)).takeWhile (dueR n) ++ ((l.dropWhile (dueR 0)).dropWhile (dueR n)).takeWhile (dueR m)) = l := by
  rw [all_due (l := (l.dropWhile (dueR 0)).dropWhile (dueR n)) (fun x hx => h x ((dw_sub _ _).2 x ((dw_sub _ _).2 x hx))), List.takeWhile_append_dropWhile, List.takeWhile_append_dropWhile]
theorem idsR_one (l : List RT) : ∀ u ∈ ints .i64 (idsR l), u.oneCell' = true := ints_one _ _
set_option maxRecDepth 100000 in
set_option maxHeartbeats 2000000 in
theorem wheelBounds_walk (a0 a1 : Int) (w : World) (w0 : (Lit.int .u32 a0).wf = true) (w1 : (Lit.int .i64 a1).wf = true) :
    Calls Try.prog 10 #[.int .u32 a0, .int .i64 a1] w fun e w' => e = .returned (.bool true) ∧ Below w.heap.size w w' := by
  have hu0 : 0 ≤ a0 ∧ a0 < 4294967296 := by have := bounds_u32 w0; omega
  have hz := now_zero hu0.1 hu0.2
  clear w0 w1
  have HZ := hid hz
  clear hz
  go_enter Try.func10, Try.ntmps10
  go_wp2_with fail
  refine (wnew_ok a0 w).mono ?_
  rintro e w1 ⟨F, p, rfl, q1, q2, q3⟩
  have hW : Hid (W1 w F p a0 0 [] w1) := hid ⟨by show WhAt w1 F p (nowOf a0 0) []; rw [HZ.out]; exact q1, fun k hk => (q3 k hk).elim (fun h => h.elim) (fun h => h), q2.below (fun i hi h => h) (Nat.le_refl _)⟩
  clear q1 q2 q3
  have HL : Hid (∀ W F l (at_ id : Int), W1 w F p a0 0 l W → l.length ≤ 999 → id ∉ idsR l → far a0 at_ < 0 → Calls Try.prog 37 #[.pointer (some ⟨p, 0, none⟩), .int .u32 at_, .int .i64 id] W fun e w' => e = .returned (.int .i64 1) ∧ W1 w F p a0 0 l w') := hid (fun W F l at_ id h1 h2 h3 h4 => by
    refine (wadd_late W F p (nowOf a0 0) (rel a0 l) ⟨at_, id⟩ h1.m (by rw [rel_len]; exact h2) (by rw [ids_rel]; exact h3) (by rw [HZ.out]; exact h4)).mono ?_
    rintro e w' ⟨rfl, c1⟩
    exact ⟨rfl, WhAt.chg h1.m c1 (fun _ _ h => h), h1.n, h1.bel.trans (c1.below (fun i hi h => h) h1.bel.size)⟩)
  have HS : Hid (∀ W F l (x : RT), W1 w F p a0 0 l W → l.length ≤ 999 → Small l → x.k < 2147483648 → (x.id : Int) ∉ idsR l → Calls Try.prog 37 #[.pointer (some ⟨p, 0, none⟩), .int .u32 (nowOf a0 x.k), .int .i64 (x.id : Int)] W fun e w' => ∃ F', e = .returned (.int .i64 0) ∧ W1 w F' p a0 0 (insR x l) w') := hid (fun W F l x h1 h2 h3 h4 h5 => by
    refine (radd_ok W F p a0 0 l x h1.m h2 (by omega) h3 h4 (by omega) h5).mono ?_
    rintro e w' ⟨F', rfl, s1, s2, s3⟩
    exact ⟨F', rfl, h1.step s1 s2 s3⟩)
  have hf1 : far a0 ((a0 - 1) % 4294967296) < 0 := by rw [far_eq]; omega
  have hf2 : far a0 ((a0 + 2147483648) % 4294967296) < 0 := by rw [far_eq]; omega
  go_wp2_with fail
  refine (HL.out w1 F [] _ 1 hW.out (by decide) (by simp [idsR]) hf1).mono ?_
  rintro e w2 ⟨rfl, hW2⟩
  replace hW2 := hid hW2
  have H3 := hid (HS.out w2 F [] ⟨0, 1⟩ hW2.out (by decide) (fun x h => by cases h) (by decide) (by simp [idsR]))
  rw [ins_one, show nowOf a0 (RT.k ⟨0, 1⟩) = a0 from HZ.out] at H3
  go_wp2_with fail
  refine H3.out.mono ?_
  rintro e w3 ⟨F3, rfl, hW3⟩
  replace hW3 := hid hW3
  clear H3 hW2 hW
  go_wp2_with fail
  refine (prest_nat _ 2147483648 _ (by omega) (by omega)).mono ?_
  rintro e' w4 ⟨n, hn, rfl, rfl⟩
  have hn4 : n < 2147483648 := by omega
  have H5 := hid (HS.out w3 F3 [⟨0, 1⟩] ⟨n, 2⟩ hW3.out (by decide) (fun x h => by simp at h; subst h; decide) hn4 (by simp [idsR]))
  rw [ins_two] at H5
  have hnn : (a0 + (n : Int)) % 4294967296 = nowOf a0 n := rfl
  go_wp2_with fail
  refine H5.out.mono ?_
  rintro e w5 ⟨F5, rfl, hW5⟩
  replace hW5 := hid hW5
  clear H5 hW3
  go_wp2_with fail
  refine (HL.out w5 F5 _ _ 3 hW5.out (by simp) (by simp [idsR]) hf2).mono ?_
  rintro e w6 ⟨rfl, hW6⟩
  replace hW6 := hid hW6
  have H7 := hid (HS.out w6 F5 [⟨0, 1⟩, ⟨n, 2⟩] ⟨2147483647, 3⟩ hW6.out (by simp) (fun x h => by simp at h; rcases h with rfl | rfl; decide; exact hn4) (by decide) (by simp [idsR]))
  rw [ins_three n (by omega)] at H7
  have hmx : ((a0 + 2147483648) % 4294967296 - 1) % 4294967296 = nowOf a0 2147483647 := by unfold nowOf; omega
  clear hW5
  go_wp2_with fail
  refine H7.out.mono ?_
  rintro e w7 ⟨F7, rfl, hW7⟩
  replace hW7 := hid hW7
  clear H7 hW6
  obtain ⟨l, hl⟩ : ∃ l : List RT, l = [⟨0, 1⟩, ⟨n, 2⟩, ⟨2147483647, 3⟩] := ⟨_, rfl⟩
  rw [← hl] at hW7
  have hll : l.length = 3 := by rw [hl]; rfl
  have HLI : Hid (idsR l = [1, 2, 3]) := hid (by rw [hl]; rfl)
  have hsm : Hid (∀ x ∈ l, x.k ≤ 2147483647) := hid (fun x h => by rw [hl] at h; simp at h; rcases h with rfl | rfl | rfl; show 0 ≤ _; omega; show n ≤ _; omega; show 2147483647 ≤ _; omega)
  have hSm : Hid (Small l) := hid (fun x h => by have := hsm.out x h; omega)
  have HCD := hid (cat_due (n := n) hsm.out)
  clear hl
  have H8 := hid (wstep_late w7 F7 p (nowOf a0 0) ((a0 - 1) % 4294967296) (rel a0 l) hW7.out.m (by rw [HZ.out]; exact hf1))
  go_wp2_with fail
  refine H8.out.mono ?_
  rintro e w8 ⟨rfl, rfl⟩
  have H9 := hid (rstep_ok w7 F7 p a0 0 0 l hW7.out.m (by omega) (by omega) (by omega) hSm.out)
  rw [HZ.out] at H9
  go_wp2_with fail
  refine H9.out.mono ?_
  rintro e w9 ⟨F9, oa9, oc9, G9, rfl, s1, s2, s3, s4, s5⟩
  have hW9 := hid (hW7.out.step s1 s2 s3)
  have S9 := hid s4
  have N9 := hid s5
  have hl9 := (dw_sub (dueR 0) l).1
  have ht9 : (l.takeWhile (dueR 0)).length ≤ 3 := by rw [← hll]; exact (List.takeWhile_sublist _).length_le
  have hS9 := hid (small_dw hSm.out (dueR 0))
  clear s1 s2 s3 s4 s5 H9 H8 hW7
  generalize l.takeWhile (dueR 0) = P at S9 HCD ht9
  generalize l.dropWhile (dueR 0) = l1 at hW9 HCD hl9 hS9
  have H10 := hid (rstep_ok w9 F9 p a0 0 n l1 hW9.out.m (by omega) (by omega) (by omega) hS9.out)
  go_wp2_with fail
  refine H10.out.mono ?_
  rintro e w10 ⟨F10, oa10, oc10, G10, rfl, s1, s2, s3, s4, s5⟩
  have hW10 := hid (hW9.out.step s1 s2 s3)
  have S9b := hid (S9.out.chg s2 (fun g hg hf => (N9.out g hg).2 hf))
  have N9b : Hid (∀ g, G9 = some g → ¬ F10 g) := hid (fun g hg hf => (s3 g hf).elim (N9.out g hg).2 (fun h => by have := S9.out.lt g hg; omega))
  have S10 := hid s4
  have N10 := hid s5
  have ht10 : (l1.takeWhile (dueR n)).length ≤ 3 := by have := (List.takeWhile_sublist (l := l1) (dueR n)).length_le; omega
  have hl10 := (dw_sub (dueR n) l1).1
  have hS10 := hid (small_dw hS9.out (dueR n))
  clear s1 s2 s3 s4 s5 H10 hW9 S9 N9
  generalize l1.takeWhile (dueR n) = Q at S10 HCD ht10
  generalize l1.dropWhile (dueR n) = l2 at hW10 HCD hl10 hS10
  have H11 := hid (rstep_ok w10 F10 p a0 n 2147483647 l2 hW10.out.m (by omega) (by omega) (by omega) hS10.out)
  go_wp2_with fail
  refine H11.out.mono ?_
  rintro e w11 ⟨F11, oa11, oc11, G11, rfl, s1, s2, s3, s4, _⟩
  have hW11 := hid (hW10.out.step s1 s2 s3)
  have ht11 : (l2.takeWhile (dueR 2147483647)).length ≤ 3 := by have := (List.takeWhile_sublist (l := l2) (dueR 2147483647)).length_le; omega
  have T1 := S9b.out.chg s2 (fun g hg => N9b.out g hg)
  have T2 := S10.out.chg s2 (fun g hg => (N10.out g hg).2)
  generalize l2.takeWhile (dueR 2147483647) = R at s4 HCD ht11
  have HC := concat_int (fun _ => True) _ _ 3 3 [⟨oa9, P.length, oc9, ints .i64 (idsR P)⟩, ⟨oa10, Q.length, oc10, ints .i64 (idsR Q)⟩, ⟨oa11, R.length, oc11, ints .i64 (idsR R)⟩] _ (Rd.of_blk (n := 3) (s := 1) (Blk.new w11 22 [.slice oa9 P.length oc9, .slice oa10 Q.length oc10, .slice oa11 R.length oc11]) rfl (by decide)) (fun q hq => by
    simp at hq
    rcases hq with rfl | rfl | rfl
    · exact ⟨(T1.alloc _).rd.mono (fun _ _ => trivial), ints_one _ _⟩
    · exact ⟨(T2.alloc _).rd.mono (fun _ _ => trivial), ints_one _ _⟩
    · exact ⟨(s4.alloc _).rd.mono (fun _ _ => trivial), ints_one _ _⟩) (by decide) (by simp [partsLen]; omega)
  have HPL : partsLen [⟨oa9, P.length, oc9, ints .i64 (idsR P)⟩, ⟨oa10, Q.length, oc10, ints .i64 (idsR Q)⟩, ⟨oa11, R.length, oc11, ints .i64 (idsR R)⟩] = 3 := by
    have := congrArg List.length HCD.out
    simp at this
    simp [partsLen]; omega
  have HPC : partsCells [⟨oa9, P.length, oc9, ints .i64 (idsR P)⟩, ⟨oa10, Q.length, oc10, ints .i64 (idsR Q)⟩, ⟨oa11, R.length, oc11, ints .i64 (idsR R)⟩] = ints .i64 [1, 2, 3] := by
    rw [← HLI.out, ← HCD.out]
    simp [partsCells, ints, idsR]
  rw [HPL, HPC] at HC
  replace HC := hid HC
  clear s1 s2 s3 s4 T1 T2 HPL HPC H11 hW10 S9b N9b S10 N10
  go_wp2_with fail
  refine HC.out.mono ?_
  rintro e w12 ⟨a12, c12, G12, rfl, t1, t2, t3⟩
  have hB12 := hid (hW11.out.bel.trans (((Chg.refl Nil w11).alloc _).trans t2 (fun _ _ h => h) |>.below (fun i hi h => h) hW11.out.bel.size))
  have R1 := hid ((t1.alloc (.cells #[.int .i64 1, .int .i64 2, .int .i64 3] 3)).rd)
  clear t1 t2 t3 HC
  go_wp2_with fail
  refine (equal_int _ _ _ _ _ _ _ _ [1, 2, 3] [1, 2, 3] _ R1.out (Rd.of_blk (n := 3) (s := 1) (Blk.new w12 3 (ints .i64 [1, 2, 3])) rfl (by decide)) (by decide) (by decide)).mono ?_
  rw [eqI_true rfl]
  rintro e' w13 ⟨rfl, m, rfl⟩
  go_wp2
  go_ret
  exact ⟨rfl, hB12.out.trans ((((Chg.refl Nil w12).alloc _).drewN m).below (fun i hi h => h) hB12.out.size)⟩
end Go.Proofs.Ytaffkdoiooablaa
