/- The walk of the law SpanDeep: it returns true and changes nothing that was there. No condition. -/
import Derived.Test.YtnibhkeleogjcaaTree9
import Derived.Deep.DeepCutAuto
namespace Go.Proofs.Ytnibhkeleogjcaa
open Go.ChangeShapes Go.WideShapes Go.ChangeAt Go.RowKit
set_option linter.unusedVariables false
theorem rest_nat (k n : Int) (w : World) (h1 : 1 ≤ n) (h2 : n ≤ 9223372036854775807) :
    Calls Try.prog 11 #[.int .i64 k, .int .i64 n] w fun e w' => ∃ q : Nat, (q : Int) < n ∧ e = .returned (.int .i64 q) ∧ w = w' := by
  refine (rest_any k n w h1 h2).mono ?_
  rintro e w' ⟨rfl, rfl⟩
  have hb1 := rest_nonneg k n h1
  have hb2 := rest_lt k n h1
  obtain ⟨q, hq⟩ := Int.eq_ofNat_of_zero_le hb1
  exact ⟨q, by omega, by rw [hq], rfl⟩
/-- The j-th thing. -/
def dpE (b : Nat) (j : Nat) : TE := ⟨(j * b : Nat), 0, 1⟩
/-- The first k are in the tree. -/
def DpIn (w0 : World) (p b k : Nat) (w : World) : Prop := ∃ F l, SpAt w F p l ∧ (∀ x, F x → w0.heap.size ≤ x) ∧ Below w0.heap.size w0 w ∧ l.length = k ∧ (∀ x ∈ l, ∃ j, j < k ∧ x = dpE b j) ∧ ∀ j, j < k → dpE b j ∈ l
/-- Those from the k-th on are in it. -/
def DpOut (w0 : World) (p b n k : Nat) (w : World) : Prop := ∃ F l, SpAt w F p l ∧ (∀ x, F x → w0.heap.size ≤ x) ∧ Below w0.heap.size w0 w ∧ l.length ≤ n ∧ (∀ x ∈ l, x.w = 1) ∧ ∀ j, k ≤ j → j < n → dpE b j ∈ l
theorem dp_key {b j i : Nat} (hb : 1 ≤ b) (h : (dpE b j).at (i * b : Nat) 0) : j = i := by
  have h1 : ((j * b : Nat) : Int) = (i * b : Nat) := h.1
  have h2 : j * b = i * b := by exact_mod_cast h1
  exact Nat.eq_of_mul_eq_mul_right hb h2
theorem sumW_ones {l : List TE} (h : ∀ x ∈ l, x.w = 1) : sumW l = l.length := by
  induction l with
  | nil => rfl
  | cons x l ih => rw [sumW_cons, ih (fun y hy => h y (List.mem_cons_of_mem _ hy)), h x (by simp), List.length_cons]; omega
set_option maxRecDepth 100000 in
set_option maxHeartbeats 2000000 in
theorem spanDeep_walk (a0 a1 a2 : Int) (w : World) (w0 : (Lit.int .i64 a0).wf = true) (w1 : (Lit.int .i64 a1).wf = true) (w2 : (Lit.int .i64 a2).wf = true) :
    Calls Try.prog 3 #[.int .i64 a0, .int .i64 a1, .int .i64 a2] w fun e w' => e = .returned (.bool true) ∧ Below w.heap.size w w' := by
  clear w0 w1 w2
  go_enter Try.func3, Try.ntmps3
  go_wp2_with fail
  refine (spnew_ok _).mono ?_
  rintro e w3 ⟨rfl, s1, c1⟩
  have B1 := hid (below_nil (Below.refl _ w) c1)
  replace s1 := hid s1
  clear c1
  go_wp2_with fail
  refine (put_new w3 _ _ [] s1.out 1 1 1 (by omega) (by omega) (by simp) ⟨by simp, by simp⟩).mono ?_
  rintro e w4 ⟨rfl, F4, s2, c2, f1, f2⟩
  have hs4 : w.heap.size ≤ w3.heap.size := B1.out.size
  have B2 : Hid (Below w.heap.size w w4) := hid (below_chg B1.out c2 (fun k hk => Nat.le_of_eq (show k = w.heap.size from hk).symm))
  replace s2 := hid s2
  clear c2 f1 f2 s1 hs4
  go_wp2_with fail
  refine (tdeep_ok w4 F4 _ _ s2.out (by simp [insE])).mono ?_
  rintro e w5 ⟨d, rfl, hw, d1, d2, d3⟩
  subst hw
  have d4 := d3 (by simp [insE])
  simp only [insE, List.length_singleton] at d2
  have hd : ((d : Int) != 1) = false := by rw [bne_eq_false_iff_eq]; omega
  clear d1 d2 d3 d4 s2
  go_wp2_with fail
  refine (spnew_ok _).mono ?_
  rintro e w6 ⟨rfl, s3, c3⟩
  have hI : Hid (∀ b, DpIn w w5.heap.size b 0 w6) := hid fun b => ⟨_, [], s3, (fun x hx => by rw [show x = w5.heap.size from hx]; exact B2.out.size), below_nil B2.out c3, rfl, by simp, by simp⟩
  clear s3 c3 B1 B2 hd
  go_wp2_with fail
  refine (rest_nat a1 1000 _ (by omega) (by omega)).mono ?_
  rintro e w7 ⟨n, hn, rfl, rfl⟩
  go_wp2_with fail
  refine (rest_nat a2 7 _ (by omega) (by omega)).mono ?_
  rintro e w7 ⟨b, hb, rfl, rfl⟩
  obtain ⟨p, hp⟩ : ∃ p, p = w5.heap.size := ⟨_, rfl⟩
  rw [← hp] at hI ⊢
  clear hp
  go_wp2
  go_loopw [32] (fun s32 wr => ∃ k : Nat, k ≤ n ∧ s32 = .int .i64 k ∧ Hid (DpIn w p (b + 1) k wr)) (fun s32 _ => n - (intOf s32).toNat)
  case atStart => exact ⟨0, by omega, rfl, hI.out _⟩
  case round =>
    obtain ⟨k, hk, rfl, hJ⟩ := hrel
    by_cases hlt : k < n
    · obtain ⟨F, l, y1, y2, y3, y4, y5, y6⟩ := id hJ.out
      obtain ⟨m, hm⟩ : ∃ m : Nat, m = k * (b + 1) := ⟨_, rfl⟩
      have hm2 : (k : Int) * (1 + (b : Int)) = (m : Int) := by rw [hm]; push_cast; rw [Int.add_comm 1]
      have hm3 : m ≤ 7000 := by rw [hm]; have := Nat.mul_le_mul (show k ≤ 1000 by omega) (show b + 1 ≤ 7 by omega); omega
      have PUT := hid (put_new wr F p l y1 (m : Int) 0 1 (by omega) (by omega) (fun x hx hh => by
        obtain ⟨j, hj, rfl⟩ := y5 x hx
        rw [hm] at hh
        have := dp_key (by omega) hh
        omega) ⟨by simp only [List.length_cons]; omega, fun x hx => by
        rcases List.mem_cons.1 hx with rfl | hx
        · simp
        · obtain ⟨j, hj, rfl⟩ := y5 x hx
          simp [dpE]⟩)
      have Y2 := hid y2
      have Y3 := hid y3
      have Y4 := hid y4
      have Y5 := hid y5
      have Y6 := hid y6
      have HM := hid hm
      clear y1 y2 y3 y4 y5 y6 hm hI hJ
      go_wp2_with fail
      refine PUT.out.mono ?_
      rintro e w9 ⟨rfl, F', z1, z2, z3, z4⟩
      have Z : Hid (DpIn w p (b + 1) (k + 1) w9) := hid (by
        have he : (⟨(m : Int), 0, 1⟩ : TE) = dpE (b + 1) k := by unfold dpE; rw [HM.out]
        refine ⟨F', _, z1, fun x hx => (z4 x hx).elim (Y2.out x) (fun h => Nat.le_trans Y3.out.size h), below_chg Y3.out z2 Y2.out, ?_, fun x hx => ?_, fun j hj => ?_⟩
        · rw [(insE_perm _ _).length_eq, List.length_cons, Y4.out]
        · rcases List.mem_cons.1 ((insE_perm _ _).mem_iff.1 hx) with rfl | hx
          · exact ⟨k, by omega, he⟩
          · obtain ⟨j, hj, rfl⟩ := Y5.out x hx
            exact ⟨j, by omega, rfl⟩
        · rw [(insE_perm _ _).mem_iff, List.mem_cons, he]
          by_cases hjk : j = k
          · exact .inl (by rw [hjk])
          · exact .inr (Y6.out j (by omega)))
      clear z1 z2 z3 z4 PUT
      go_wp2
      go_roundw
      case rel => exact ⟨k + 1, by omega, by go_num, Z⟩
      case measure => simp [intOf]; omega
    · obtain hkn : k = n := by omega
      have hK : Hid (DpOut w p (b + 1) n 0 wr) := hid (by
        obtain ⟨F, l, y1, y2, y3, y4, y5, y6⟩ := hJ.out
        refine ⟨F, l, y1, y2, y3, by omega, fun x hx => ?_, fun j _ hj => y6 j (by omega)⟩
        obtain ⟨j, hj, rfl⟩ := y5 x hx
        rfl)
      subst hkn
      clear hI hJ
      go_wp2
      obtain ⟨n, rfl⟩ : ∃ n, n = k := ⟨_, rfl⟩
      go_loopw [43] (fun s43 wr => ∃ k : Nat, k ≤ n ∧ s43 = .int .i64 k ∧ Hid (DpOut w p (b + 1) n k wr)) (fun s43 _ => n - (intOf s43).toNat)
      case atStart => exact ⟨0, by omega, rfl, hK⟩
      case round =>
        obtain ⟨k, hk, rfl, hJ⟩ := hrel
        clear hK
        by_cases hlt : k < n
        · have hr : 0 = 0 := rfl
          go_wp2_with fail
          refine (rest_nat a0 3 _ (by omega) (by omega)).mono ?_
          rintro e w8 ⟨s, hs, rfl, rfl⟩
          by_cases hks : k % 3 = s
          · have hb3 : ((k : Int) % 3 == (s : Int)) = true := by rw [beq_iff_eq]; omega
            obtain ⟨F, l, y1, y2, y3, y4, y5, y6⟩ := id hJ.out
            obtain ⟨m, hm⟩ : ∃ m : Nat, m = k * (b + 1) := ⟨_, rfl⟩
            have hm2 : (k : Int) * (1 + (b : Int)) = (m : Int) := by rw [hm]; push_cast; rw [Int.add_comm 1]
            have hm3 : m ≤ 7000 := by rw [hm]; have := Nat.mul_le_mul (show k ≤ 1000 by omega) (show b + 1 ≤ 7 by omega); omega
            have he : dpE (b + 1) k = ⟨(m : Int), 0, 1⟩ := by unfold dpE; rw [hm]
            have OUT := hid (out_there wr F p l y1 ⟨(m : Int), 0, 1⟩ (by rw [← he]; exact y6 k (by omega) hlt) ⟨by omega, fun x hx => by rw [y5 x hx]; omega⟩)
            have Y2 := hid y2
            have Y3 := hid y3
            have Y4 := hid y4
            have Y5 := hid y5
            have Y6 := hid y6
            have HM := hid hm
            clear y1 y2 y3 y4 y5 y6 hm hJ hr hks he
            go_wp2_with fail
            refine OUT.out.mono ?_
            rintro e w9 ⟨rfl, z1, z2⟩
            have Z : Hid (DpOut w p (b + 1) n (k + 1) w9) := hid (by
              refine ⟨F, _, z1, Y2.out, below_chg Y3.out z2 Y2.out, Nat.le_trans (List.length_filter_le _ _) Y4.out, fun x hx => Y5.out x ((List.mem_filter.1 hx).1), fun j hj1 hj2 => ?_⟩
              refine List.mem_filter.2 ⟨Y6.out j (by omega) hj2, ?_⟩
              have hna : ¬ (dpE (b + 1) j).at (m : Int) 0 := fun hh => by
                rw [HM.out] at hh
                have := dp_key (by omega) hh
                omega
              simp [hna])
            clear z1 z2 OUT
            go_wp2
            go_roundw
            case rel => exact ⟨k + 1, by omega, by go_num, Z⟩
            case measure => simp [intOf]; omega
          · have hb3 : ((k : Int) % 3 == (s : Int)) = false := by rw [beq_eq_false_iff_ne]; omega
            have Z : Hid (DpOut w p (b + 1) n (k + 1) wr) := hid (by
              obtain ⟨F, l, y1, y2, y3, y4, y5, y6⟩ := hJ.out
              exact ⟨F, l, y1, y2, y3, y4, y5, fun j hj1 hj2 => y6 j (by omega) hj2⟩)
            clear hJ hr hks
            go_wp2
            go_roundw
            case rel => exact ⟨k + 1, by omega, by go_num, Z⟩
            case measure => simp [intOf]; omega
        · obtain ⟨F, l, y1, y2, y3, y4, y5, y6⟩ := hJ.out
          have hkn : k = n := by omega
          have LEN := hid (len_ok wr F p l y1)
          have SUM := hid (tsum_ok wr F p l y1)
          have DEEP := hid (tdeep_ok wr F p l y1 (by omega))
          rw [sumW_ones y5] at SUM
          have Y3 := hid y3
          subst hkn
          clear y1 y2 y3 y4 y5 y6 hJ
          go_wp2_with fail
          refine DEEP.out.mono ?_
          rintro e w8 ⟨d, rfl, hw, d1, d2, d3⟩
          subst hw
          have hd : (d : Int) ≤ 16 := by omega
          go_wp2_with fail
          refine LEN.out.mono ?_
          rintro e w9 ⟨rfl, hw⟩
          subst hw
          go_wp2_with fail
          refine SUM.out.mono ?_
          rintro e w10 ⟨rfl, hw⟩
          subst hw
          go_wp2
          go_ret
          exact ⟨by simp, Y3.out⟩
end Go.Proofs.Ytnibhkeleogjcaa
