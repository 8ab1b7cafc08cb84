/- The walk of the law SpanGrows: it returns true and changes nothing that was there. No condition. -/
import Derived.Test.YtnibhkeleogjcaaSpanLiesWalk
namespace Go.Proofs.Ytnibhkeleogjcaa
open Go.ChangeShapes Go.WideShapes Go.ChangeAt Go.RowKit
set_option linter.unusedVariables false
theorem TrB.ahead {w0 w : World} {L : List TE} {p : Nat} (h : TrB w0 L p w) (hs : Sm L) (k i : Int) : ∀ q, Calls Try.prog 17 #[.pointer (some ⟨p, 0, none⟩), .int .i64 k, .int .i64 i] (w.drewN q) fun v w' => v = .returned (.int .i64 (aheadW k i L)) ∧ ∃ q, w' = w.drewN q := by
  intro q
  obtain ⟨F, h1, _, _⟩ := h.drewN q
  refine (ahead_ok _ F p L h1 hs k i).mono ?_
  rintro v w' ⟨rfl, q1, rfl⟩
  exact ⟨rfl, _, World.drewN_drewN _ _ _⟩
theorem TrB.sum {w0 w : World} {L : List TE} {p : Nat} (h : TrB w0 L p w) : ∀ q, Calls Try.prog 14 #[.pointer (some ⟨p, 0, none⟩)] (w.drewN q) fun v w' => v = .returned (.int .i64 (sumW L)) ∧ w' = w.drewN q := by
  intro q
  obtain ⟨F, h1, _, _⟩ := h.drewN q
  exact tsum_ok _ F p L h1
theorem ahead_bd {L : List TE} (h : Sm L) (k i : Int) : 0 ≤ aheadW k i L ∧ aheadW k i L ≤ 2000000000 := by
  have h1 := sumW_bd (l := L.filter (fun x => decide (x.before k i))) (fun x hx => h.2 x (List.mem_filter.1 hx).1)
  have h2 := List.length_filter_le (fun x : TE => decide (x.before k i)) L
  have h3 := h.1
  unfold aheadW
  omega
set_option maxRecDepth 100000 in
set_option maxHeartbeats 1000000 in
theorem spanGrows_walk (a0 : Option Addr) (len0 cap0 : Nat) (z0 : List Int) (a1 a2 a3 a4 : Int) (w : World) (w0 : IsRow .i64 w a0 len0 cap0 z0) (w1 : (Lit.int .i64 a1).wf = true) (w2 : (Lit.int .i64 a2).wf = true) (w3 : (Lit.int .i64 a3).wf = true) (w4 : (Lit.int .i64 a4).wf = true) :
    Calls Try.prog 6 #[.slice a0 len0 cap0, .int .i64 a1, .int .i64 a2, .int .i64 a3, .int .i64 a4] w fun e w' => e = .returned (.bool true) ∧ Below w.heap.size w w' := by
  have hl1 := w0.1.1
  have hl2 := w0.1.2.1
  unfold maxLen at hl2
  have W0 := hid w0.1
  clear w0 w1 w2 w3 w4
  have HR := hid (Rd.of_blk (n := 2) (s := 1) (Blk.new w 3 (ints .i64 [5, 3])) rfl (by decide))
  have B0 := hid ((Below.refl w.heap.size w).alloc (Nat.le_refl _) (.cells (ints .i64 [5, 3]).toArray 3))
  go_enter Try.func6, Try.ntmps6
  go_wp2_with fail
  refine (tree_ok _ _ 2 2 [5, 3] _ HR.out (by omega)).mono ?_
  rintro e w1 ⟨p, rfl, h1⟩
  have T1 := hid (TrIn.trB h1 B0.out)
  clear h1 HR B0
  have AH : Hid (Calls Try.prog 17 #[.pointer (some ⟨p, 0, none⟩), .int .i64 4, .int .i64 0] w1 fun v w' => v = .returned (.int .i64 3) ∧ ∃ q, w' = w1.drewN q) := hid (by
    obtain ⟨F, h1, _, _⟩ := T1.out
    have e : aheadW 4 0 (trK [5, 3] 2) = 3 := by decide
    rw [← e]
    exact ahead_ok w1 F p _ h1 (trK_sm [5, 3] 2 (by omega)) 4 0)
  go_wp2_with fail
  refine AH.out.mono ?_
  rintro e w9 ⟨rfl, q0, rfl⟩
  obtain ⟨w2, hw2⟩ : ∃ w2, w2 = w1.drewN q0 := ⟨_, rfl⟩
  replace T1 := hid (T1.out.drewN q0)
  rw [← hw2] at T1 ⊢
  clear AH hw2
  go_upto_region 4 with fail
  go_cut [13, 14] (fun s7 s8 wx => s8 = .bool true ∧ ∃ N : Nat, N ≤ 100 ∧ N ≤ len0 ∧ ∃ p : Nat, s7 = .pointer (some ⟨p, 0, none⟩) ∧ Hid (TrB w (trK (z0.take N) N) p wx))
  case first =>
    have B1 : Hid (Below w.heap.size w w2) := hid (by obtain ⟨F, _, h2, _⟩ := T1.out; exact h2)
    have key : ∀ N, N ≤ len0 → Hid (Rd w2 (Upto w.heap.size) 1 a0 N cap0 (ints .i64 (z0.take N))) := fun N hN => hid (rd_take (rd_rest W0.out B1.out) hN)
    have hlen : Hid (∀ N, N ≤ len0 → (z0.take N).length = N) := hid (fun N hN => (rd_take W0.out hN).ilen)
    replace key := hid key
    clear T1
    go_wp2_with fail
    · refine (tree_ok _ _ 100 _ (z0.take 100) _ (key.out 100 (by omega)).out (by omega)).mono ?_
      rintro e w3 ⟨p2, rfl, h1⟩
      rw [hlen.out 100 (by omega)] at h1
      have T2 := hid (TrIn.trB h1 B1.out)
      clear h1
      go_wp2
      go_meet
      exact ⟨rfl, 100, by omega, by omega, p2, rfl, T2⟩
    · refine (tree_ok _ _ len0 _ (z0.take len0) _ (key.out len0 (by omega)).out (by omega)).mono ?_
      rintro e w3 ⟨p2, rfl, h1⟩
      rw [hlen.out len0 (by omega)] at h1
      have T2 := hid (TrIn.trB h1 B1.out)
      clear h1
      go_wp2
      go_meet
      exact ⟨rfl, len0, by omega, by omega, p2, rfl, T2⟩
  case rest =>
    obtain ⟨rfl, N, hN1, hN2, p2, rfl, T2⟩ := hcut
    obtain ⟨L, hL⟩ : ∃ L, L = trK (z0.take N) N := ⟨_, rfl⟩
    have LS : Hid (Sm L) := hid (by rw [hL]; exact trK_sm _ N (by omega))
    have LL : Hid (L.length = N) := hid (by rw [hL, trK_len])
    have LI : Hid (∀ x ∈ L, ¬ x.at (rest a3 25) (-5)) := hid (fun x hx hh => by
      rw [hL] at hx
      obtain ⟨j, _, rfl⟩ := (trK_mem _ _ _).1 hx
      have h2 : ((j : Nat) : Int) = -5 := hh.2
      omega)
    rw [← hL] at T2
    clear hL T1 W0
    have AH := hid (T2.out.ahead LS.out)
    have SUM := hid T2.out.sum
    have A_ := ahead_bd LS.out (rest a1 25) a2
    have S_ := sumW_bd LS.out.2
    rw [LL.out] at S_
    go_wp2_with fail
    refine (rest_any a1 25 _ (by omega) (by omega)).mono ?_
    rintro e w5 ⟨rfl, rfl⟩
    go_wp2_with fail
    refine (rest_any a3 25 _ (by omega) (by omega)).mono ?_
    rintro e w5 ⟨rfl, rfl⟩
    go_wp2_with fail
    refine (rest_any a4 1000001 _ (by omega) (by omega)).mono ?_
    rintro e w5 ⟨rfl, rfl⟩
    have r1 := rest_nonneg a4 1000001 (by omega)
    have r2 := rest_lt a4 1000001 (by omega)
    obtain ⟨K, hK⟩ : ∃ K, K = rest a1 25 := ⟨_, rfl⟩
    obtain ⟨k, hk⟩ : ∃ k, k = rest a3 25 := ⟨_, rfl⟩
    obtain ⟨z, hz⟩ : ∃ z, z = rest a4 1000001 := ⟨_, rfl⟩
    obtain ⟨A, hA⟩ : ∃ A, A = aheadW K a2 L := ⟨_, rfl⟩
    obtain ⟨S, hS⟩ : ∃ S, S = sumW L := ⟨_, rfl⟩
    rw [← hK] at A_ ⊢
    rw [← hk] at LI ⊢
    rw [← hz] at r1 r2 ⊢
    have AH1 := AH.out K a2
    rw [← hA] at AH1 A_
    rw [← hS] at SUM S_
    replace AH1 := hid AH1
    obtain ⟨A0, A1⟩ := A_
    obtain ⟨S0, S1⟩ := S_
    have HA := hid hA
    have HS := hid hS
    clear hK hk hz hA hS AH
    go_wp2_with fail
    refine (AH1.out 0).mono ?_
    rintro e w5 ⟨rfl, q, rfl⟩
    go_wp2_with fail
    refine (SUM.out q).mono ?_
    rintro e w5 ⟨rfl, hw⟩
    subst hw
    replace T2 := hid (T2.out.drewN q)
    obtain ⟨w6, hw6⟩ : ∃ w6, w6 = wc.drewN q := ⟨_, rfl⟩
    rw [← hw6] at T2 ⊢
    clear AH1 SUM hw6
    have PUT : Hid (Calls Try.prog 9 #[.pointer (some ⟨p2, 0, none⟩), .int .i64 k, .int .i64 (-5), .int .i64 z] w6 fun v w' => v = .returned (.int .i64 0) ∧ TrB w (insE ⟨k, -5, z⟩ L) p2 w') := hid (by
      obtain ⟨F, y1, y2, y3⟩ := T2.out
      refine (put_new w6 F p2 L y1 k (-5) z (by omega) (by omega) LI.out ⟨by rw [List.length_cons, LL.out]; omega, fun x hx => ?_⟩).mono ?_
      · rcases List.mem_cons.1 hx with rfl | hx
        · exact ⟨by show 0 ≤ z; omega, by show z ≤ 1000000; omega⟩
        · exact LS.out.2 x hx
      · rintro v w' ⟨rfl, F', z1, z2, z3, z4⟩
        exact ⟨rfl, F', z1, below_chg y2 z2 y3, fun x hx => (z4 x hx).elim (y3 x) (fun h => Nat.le_trans y2.size h)⟩)
    go_wp2_with fail
    refine PUT.out.mono ?_
    rintro e w7 ⟨rfl, h1⟩
    have T3 := hid h1
    clear h1 PUT T2
    obtain ⟨X, hX⟩ : ∃ X : Int, X = if (⟨k, -5, z⟩ : TE).before K a2 then z else 0 := ⟨_, rfl⟩
    have X1 : Hid ((k < K ∨ (k = K ∧ -5 < a2)) → z = X) := hid (fun h => by rw [hX]; exact (if_pos h).symm)
    have X2 : Hid (¬ (k < K ∨ (k = K ∧ -5 < a2)) → 0 = X) := hid (fun h => by rw [hX]; exact (if_neg h).symm)
    have X3 : 0 ≤ X ∧ X ≤ z := by rw [hX]; split <;> omega
    obtain ⟨X3, X4⟩ := X3
    replace hX := hid hX
    go_upto_region 12 with fail
    go_cut [71] (fun s71 wx => wx = w7 ∧ ∃ b : Bool, s71 = .bool b ∧ Hid (b = true → z = X) ∧ Hid (b = false → 0 = X))
    case first =>
      by_cases k1 : k < K
      · have hx := X1.out (.inl k1)
        replace hx := hid hx
        go_wp2
        go_meet
        exact ⟨rfl, true, by simp, fun _ => hx.out, fun h => by cases h⟩
      · by_cases k2 : k = K
        · have k2' : (k == K) = true := by rw [beq_iff_eq]; exact k2
          by_cases k3 : -5 < a2
          · have hx := X1.out (.inr ⟨k2, k3⟩)
            replace hx := hid hx
            clear k2
            go_wp2
            go_meet
            exact ⟨rfl, true, by simp, fun _ => hx.out, fun h => by cases h⟩
          · have hx := X2.out (by omega)
            replace hx := hid hx
            clear k2
            go_wp2
            go_meet
            exact ⟨rfl, false, by simp, (fun h => by cases h), fun _ => hx.out⟩
        · have k2' : (k == K) = false := by rw [beq_eq_false_iff_ne]; exact k2
          have hx := X2.out (by omega)
          replace hx := hid hx
          clear k2
          go_wp2
          go_meet
          exact ⟨rfl, false, by simp, (fun h => by cases h), fun _ => hx.out⟩
    case rest =>
    obtain ⟨rfl, b, rfl, Y1, Y2⟩ := hcut
    obtain ⟨w7, hw7⟩ : ∃ w7, w7 = wc := ⟨_, rfl⟩
    rw [← hw7] at T3 ⊢
    clear hw7
    go_upto_if 71 with fail
    go_cut [17] (fun s17 wx => wx = w7 ∧ s17 = .int .i64 X)
    case first =>
      cases b
      · have hx := hid (Y2.out rfl)
        go_wp2
        go_meet
        exact ⟨rfl, by rw [hx.out]⟩
      · have hx := hid (Y1.out rfl)
        go_wp2
        go_meet
        exact ⟨rfl, by rw [hx.out]⟩
    case rest =>
    obtain ⟨rfl, rfl⟩ := hcut
    clear Y1 Y2
    have SC : Sm (⟨k, -5, z⟩ :: L) := ⟨by rw [List.length_cons, LL.out]; omega, fun x hx => by
        rcases List.mem_cons.1 hx with rfl | hx
        · exact ⟨by show 0 ≤ z; omega, by show z ≤ 1000000; omega⟩
        · exact LS.out.2 x hx⟩
    have SI : Hid (Sm (insE ⟨k, -5, z⟩ L)) := hid (SC.perm (insE_perm _ _))
    clear SC
    have AH2 := T3.out.ahead SI.out K a2
    have SUM2 := T3.out.sum
    rw [ahead_ins, ← HA.out, ← hX.out] at AH2
    rw [sum_ins, ← HS.out] at SUM2
    replace AH2 := hid AH2
    replace SUM2 : Hid (∀ q, Calls Try.prog 14 #[.pointer (some ⟨p2, 0, none⟩)] (wc.drewN q) fun v w' => v = .returned (.int .i64 (S + z)) ∧ w' = wc.drewN q) := hid SUM2
    clear X1 X2
    go_wp2_with fail
    refine (AH2.out 0).mono ?_
    rintro e w8 ⟨rfl, q2, rfl⟩
    go_wp2_with fail
    refine (SUM2.out q2).mono ?_
    rintro e w8 ⟨rfl, hw⟩
    subst hw
    replace T3 := hid (T3.out.drewN q2)
    obtain ⟨w9, hw9⟩ : ∃ w9, w9 = wc.drewN q2 := ⟨_, rfl⟩
    rw [← hw9] at T3 ⊢
    clear AH2 SUM2 hw9
    have OUT : Hid (Calls Try.prog 12 #[.pointer (some ⟨p2, 0, none⟩), .int .i64 k, .int .i64 (-5)] w9 fun v w' => v = .returned (.tuple #[.int .i64 z, .int .i64 0]) ∧ TrB w L p2 w') := hid (by
      obtain ⟨F, y1, y2, y3⟩ := T3.out
      refine (out_there w9 F p2 _ y1 ⟨k, -5, z⟩ ((insE_perm _ _).mem_iff.2 (by simp)) SI.out).mono ?_
      rintro v w' ⟨rfl, z1, z2⟩
      have e : outE k (-5) (insE ⟨k, -5, z⟩ L) = L := out_ins (e := ⟨k, -5, z⟩) LI.out
      rw [e] at z1
      exact ⟨rfl, F, z1, below_chg y2 z2 y3, y3⟩)
    go_wp2_with fail
    refine OUT.out.mono ?_
    rintro e w10 ⟨rfl, h1⟩
    have T4 := hid h1
    clear h1 OUT T3
    have AH3 := T4.out.ahead LS.out K a2
    have SUM3 := T4.out.sum
    rw [← HA.out] at AH3
    rw [← HS.out] at SUM3
    replace AH3 := hid AH3
    replace SUM3 := hid SUM3
    go_wp2_with fail
    refine (AH3.out 0).mono ?_
    rintro e w11 ⟨rfl, q3, rfl⟩
    go_wp2_with fail
    refine (SUM3.out q3).mono ?_
    rintro e w11 ⟨rfl, hw⟩
    subst hw
    go_wp2
    go_ret
    obtain ⟨F, y1, y2, y3⟩ := T4.out.drewN q3
    exact ⟨by simp, y2⟩
end Go.Proofs.Ytnibhkeleogjcaa
