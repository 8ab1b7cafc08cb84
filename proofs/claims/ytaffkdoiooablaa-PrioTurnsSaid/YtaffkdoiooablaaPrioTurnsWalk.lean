/- The walk of the law PrioTurns: it returns true and changes nothing that was there. No condition. -/
import Derived.Test.YtaffkdoiooablaaPrioM
namespace Go.Proofs.Ytaffkdoiooablaa
open Go.ChangeShapes Go.WideShapes Go.ChangeAt Go.RowKit
set_option linter.unusedVariables false
/-- Of the first k tasks: as many are in the queues. -/
def Cam (q : Nat → List Int) (k : Nat) : Prop := ∀ i, i < 8 → (q i).length ≤ k ∧ ∀ t ∈ q i, t ≤ (k : Int)
theorem Cam.put {q : Nat → List Int} {k : Nat} (h : Cam q k) (v : Nat) : Cam (upF q v (q v ++ [(k : Int) + 1])) (k + 1) := fun i hi => by
  by_cases hiv : i = v
  · subst hiv
    rw [upF_same]
    obtain ⟨h1, h2⟩ := h i hi
    refine ⟨by simp; omega, fun t ht => ?_⟩
    rcases List.mem_append.1 ht with h3 | h3
    · have := h2 t h3; omega
    · rw [List.mem_singleton.1 h3]; omega
  · rw [upF_ne _ _ hiv]
    obtain ⟨h1, h2⟩ := h i hi
    exact ⟨by omega, fun t ht => by have := h2 t ht; omega⟩
theorem Cam.none {q : Nat → List Int} {k : Nat} (h : Cam q k) : prOf q ((k : Int) + 1) 8 = -1 :=
  prOf_none _ _ (fun i hi ht => by have := (h i hi).2 _ ht; omega) 8 (Nat.le_refl _)
set_option maxRecDepth 100000 in
set_option maxHeartbeats 4000000 in
theorem prioTurns_walk (a0 : Option Addr) (len0 cap0 : Nat) (z0 : List Int) (a1 : Int) (w : World) (w0 : IsRow .i64 w a0 len0 cap0 z0) (w1 : (Lit.int .i64 a1).wf = true) :
    Calls Try.prog 3 #[.slice a0 len0 cap0, .int .i64 a1] w fun e w' => e = .returned (.bool true) ∧ Below w.heap.size w w' := by
  have hl1 := w0.1.1
  have hl2 := w0.1.2.1
  unfold maxLen at hl2
  have Z3 := hid w0.1.ilen
  have W3 := hid w0.1
  clear w0 w1
  go_enter Try.func3, Try.ntmps3
  go_wp2_with fail
  refine (pbegun_ok _).mono ?_
  rintro e w1 ⟨rfl, c1⟩
  have C1 := hid (Chg.below c1 (fun i hi h => h) (Nat.le_refl _))
  clear c1
  go_wp2_with fail
  refine (pnew_ok _).mono ?_
  rintro e w2 ⟨F, p, rfl, h2, c2, g2⟩
  have hM := hid (pnew_mem w1 w2 F p w C1.out h2 c2 g2)
  clear h2 c2 g2 C1
  go_upto_region 4 with fail
  go_cut [23, 24, 25] (fun s23 s24 s25 wx => wx = w2 ∧ ∃ N : Nat, N ≤ 16 ∧ N ≤ len0 ∧ s23 = .slice a0 N cap0 ∧ s24 = .int .i64 N ∧ s25 = .int .i64 0)
  case first =>
    go_wp2
    · go_meet
      exact ⟨rfl, 16, by omega, by omega, rfl, rfl, rfl⟩
    · go_meet
      exact ⟨rfl, len0, by omega, by omega, by simp, by simp, rfl⟩
  case rest =>
    obtain ⟨rfl, N, hN1, hN2, rfl, rfl, rfl⟩ := hcut
    go_wp2
    go_loopw [25] (fun s25 wr => ∃ (k b : Nat) (F : Nat → Prop) (q : Nat → List Int), k ≤ N ∧ s25 = .int .i64 k ∧ b < 256 ∧ Hid (Cam q k) ∧ Hid (PMem w.heap.size w F p b q wr)) (fun s25 _ => N - (intOf s25).toNat)
    case atStart => exact ⟨0, 0, F, _, by omega, rfl, by omega, (fun i hi => by simp), hM⟩
    case round =>
      clear hM
      obtain ⟨k, b, F, q, hk, rfl, hb, hO, hM⟩ := hrel
      by_cases hlt : k < N
      · have hz : k < z0.length := by have := Z3.out; omega
        obtain ⟨g, off, rfl, _, _, hc⟩ := (W3.out.belowP hM.out.bel (fun _ h => h)).at hz
        have hc1 := hc k hz
        clear hc
        generalize z0[k] = z at hc1
        go_wp2_with fail
        refine (prest_nat _ 4 _ (by omega) (by omega)).mono ?_
        rintro e w4 ⟨y, hy, rfl, rfl⟩
        go_wp2_with fail
        refine (pput_ok _ F p b q ((k : Int) + 1) y hM.out.q (fun i hi => by have := (hO.out i hi).1; omega) hb (by omega) (by omega) (by omega) hO.out.none).mono ?_
        rintro e w5 ⟨F5, rfl, h5, c5, g5⟩
        have hM5 := hid (hM.out.step h5 c5 g5)
        have hO5 := hid (hO.out.put y)
        have hb5 := or_lt b y hb (by omega)
        clear h5 c5 g5
        go_wp2
        go_roundw
        case rel => exact ⟨k + 1, _, F5, _, by omega, by go_num, hb5, hO5, hM5⟩
        case measure => simp [intOf]; omega
      · obtain ⟨wo, rfl⟩ : ∃ wo : World, wo = wr := ⟨_, rfl⟩
        have hlen : Hid (∀ i, i < 8 → (q i).length ≤ 16) := hid (fun i hi => by have := (hO.out i hi).1; omega)
        go_wp2_with fail
        clear hlt hO Z3 W3 hk hN1 hN2
        refine (prest_nat _ 4 _ (by omega) (by omega)).mono ?_
        rintro e w4 ⟨v, hv, rfl, rfl⟩
        have hv4 : v < 8 := by omega
        have hS := hid (Both.start hM.out q)
        clear hM
        go_wp2
        go_loopw [40] (fun s40 wr => ∃ (k : Nat) (H : Nat → Prop), k ≤ 8 ∧ s40 = .int .i64 k ∧ Hid (Both w.heap.size w F p b q H wo.heap.size q k wr)) (fun s40 _ => 8 - (intOf s40).toNat)
        case atStart => exact ⟨0, Nil, by omega, rfl, hS⟩
        case round =>
          clear hS
          obtain ⟨k, H, hk, rfl, hS⟩ := hrel
          by_cases hlt : k < 8
          · have hk8 : (k : Int) < 8 := by omega
            have hlk := hlen.out k hlt
            go_wp2_with fail
            refine (plist_ok _ F p b q k hS.out.m.q hlt (by omega)).mono ?_
            rintro e w5 ⟨a5, c5, G5, rfl, s5, d5, g5⟩
            obtain ⟨A5, C5, _, _, hf5, _⟩ := (hS.out.nil d5).look
            have hS5 := hid (hS.out.put hlt d5 s5 g5)
            have hw5 := hid (((hS.out.nil d5).was))
            have hx5 : ∃ x, w5.cell? ⟨wo.heap.size, k, none⟩ = some x := by
              obtain ⟨A, C, hh⟩ := hw5.out
              exact ⟨_, by rw [hh.blk.cell, List.getElem?_eq_getElem (by rw [was_len]; exact hlt)]⟩
            obtain ⟨x5, hx5⟩ := hx5
            have hf := hf5 k
            clear hf5 s5 d5 g5 hw5
            go_wp2
            go_roundw
            case rel => exact ⟨k + 1, _, by omega, by go_num, hS5⟩
            case measure => simp [intOf]; omega
          · have hk8 : k = 8 := by omega
            have hS : Hid (Both w.heap.size w F p b q H wo.heap.size q 8 wr) := by rw [← hk8]; exact hS
            clear hk8
            obtain ⟨w6, rfl⟩ : ∃ w6 : World, w6 = wr := ⟨_, rfl⟩
            obtain ⟨A, C, hA1, _, _, _⟩ := hS.out.look
            have hcv := hA1 v hv4 hv4
            have hT := hid (Trd.start hS.out v)
            obtain ⟨n, hn⟩ : ∃ n, n = (q v).length := ⟨_, rfl⟩
            have hn16 : n ≤ 16 := by rw [hn]; exact hlen.out v hv4
            rw [← hn] at hcv
            have HN := hid hn
            have hv8 : (v : Int) < 8 := by omega
            clear hA1 hn hS hk
            go_wp2
            clear hcv hlt
            go_loopw [10, 56] (fun s10 s56 wr => ∃ (j b : Nat) (F : Nat → Prop) (a : Option Addr) (c : Nat) (G : Option Nat), j ≤ n ∧ s56 = .int .i64 j ∧ s10 = .slice a j c ∧ Hid (Trd w.heap.size w F p b q v H wo.heap.size j a c G wr)) (fun _ s56 _ => n - (intOf s56).toNat)
            case atStart => exact ⟨0, b, F, none, 0, none, by omega, rfl, rfl, hT⟩
            case round =>
              clear hT
              obtain ⟨j, b, F, a, c, G, hj, rfl, rfl, hT⟩ := hrel
              by_cases hlt : j < n
              · have hjn : j < (q v).length := by have := HN.out; omega
                go_wp2_with fail
                refine (plist_ok _ F p b _ v hT.out.b.m.q hv4 (by rw [tq_len _ _ _ (by omega)]; have := HN.out; omega)).mono ?_
                rw [tq_len _ _ _ (by omega), ← HN.out]
                rintro e w7 ⟨a7, c7, G7, rfl, s7, d7, g7⟩
                have hT7 := hid (hT.out.nil d7)
                obtain ⟨A7, C7, hA7, _, _, _⟩ := hT7.out.b.look
                have hcv := hA7 v hv4 hv4
                rw [← HN.out] at hcv
                rw [tq_v q v j hjn] at s7
                have hR7 := s7.rd
                obtain ⟨g8, off8, rfl, _, _, hc8⟩ := hR7.at (i := 0) (by simp)
                have hc9 := hc8 0 (by simp)
                simp only [List.getElem_cons_zero, Nat.add_zero] at hc9
                have HQ := hid (tq_v q v j hjn)
                have HQ2 := hid (tq_next q v j hjn)
                have hT8 := hid (hT7.out.nil ((Chg.refl Nil w7).alloc (.cells #[.int .i64 (q v)[j]] 3)))
                have S8 := hid hT8.out.sl
                have N8 := hid (Rd.of_blk (n := 1) (s := 1) (Blk.new w7 3 (ints .i64 [(q v)[j]])) rfl (by decide))
                generalize hx : (q v)[j] = x at hc9 HQ HQ2 hT8 S8 N8
                have HX := hid hx
                clear hx s7 d7 g7 hc8 hR7 hA7
                go_wp2_with (at_builtin; refine wpList_append_sl rfl _ _ eInt rfl rfl rfl S8.out N8.out (ints_one _ _) (by omega) (by omega) ?_; intro a' c' w9 G' y1 y2 y3; replace y1 := hid y1; replace y2 := hid y2; replace y3 := hid y3)
                obtain ⟨hB9, s9, ap9⟩ := hT8.out.next (w2 := w9) (F' := F) (b' := b) hjn (by rw [HX.out]; exact y1.out) y2.out (by rcases y3.out with h | h; exact .inl h; exact .inr (fun z hz => by rw [h] at hz; injection hz with hz; omega))
                have HB9 := hid hB9
                have HS9 := hid s9
                have HA9 := hid ap9
                have hl9 : (tq q v j v).length ≤ 999 := by rw [tq_len _ _ _ (by omega)]; have := HN.out; omega
                have HT9 := hid (pturn_ok w9 F p b (tq q v j) x _ v hB9.m.q hl9 hv4 HQ.out)
                rw [HQ2.out] at HT9
                clear hB9 s9 ap9 y1 y2 y3 hl9
                go_wp2_with fail
                refine HT9.out.mono ?_
                rintro e w10 ⟨F10, rfl, h10, c10, g10⟩
                have hT10 := hid (Trd.turn HB9.out HS9.out HA9.out h10 c10 g10)
                clear h10 c10 g10 HT9
                go_wp2
                go_roundw
                case rel => exact ⟨j + 1, _, _, _, _, _, by omega, by go_num, rfl, hT10⟩
                case measure => simp [intOf]; omega
              · obtain rfl : j = n := by omega
                obtain ⟨w7, rfl⟩ : ∃ w7 : World, w7 = wr := ⟨_, rfl⟩
                have hB := hT.out.b
                rw [HN.out, tq_full] at hB
                have hF := hT.out.sl
                rw [show (q v).take j = q v by rw [HN.out, List.take_length]] at hF
                have HB := hid hB
                have HF := hid hF
                have HAP := hid hT.out.ap
                clear hB hF
                go_wp2
                go_loopw [86] (fun s86 wr => ∃ i : Nat, i ≤ 8 ∧ s86 = .int .i64 i ∧ Hid (Chg Nil w7 wr)) (fun s86 _ => 8 - (intOf s86).toNat)
                case atStart => exact ⟨0, by omega, rfl, Chg.refl _ _⟩
                case round =>
                  obtain ⟨i, hi, rfl, hC⟩ := hrel
                  have HB2 := hid (HB.out.nil hC.out)
                  obtain ⟨A8, C8, hA8, hR8, _, hA9⟩ := HB2.out.look
                  by_cases hlt2 : i < 8
                  · have hi8 : (i : Int) < 8 := by omega
                    have hli := hlen.out i hlt2
                    go_wp2_with fail
                    refine (plist_ok _ F p b q i HB2.out.m.q hlt2 (by omega)).mono ?_
                    rintro e w8 ⟨a8, c8, G8, rfl, s8, d8, g8⟩
                    have hcv := hA9 w8 d8 i hlt2 hlt2
                    have R8 := hid ((hR8 i hlt2).chg d8 (fun _ _ _ h => h))
                    have S8 := hid s8.rd
                    have C8 := hid (hC.out.trans d8 (fun _ _ h => h))
                    clear hA8 hR8 hA9 s8 d8 g8
                    go_wp2_with fail
                    refine (equal_int _ _ _ _ _ _ _ _ (q i) (q i) _ S8.out R8.out (by omega) (by omega)).mono ?_
                    rw [eqI_true rfl]
                    rintro e w9 ⟨rfl, m, rfl⟩
                    go_wp2
                    go_roundw
                    case rel => exact ⟨i + 1, by omega, by go_num, C8.out.drewN m⟩
                    case measure => simp [intOf]; omega
                  · have hcv := hA8 v hv4 hv4
                    have hjq := HN.out
                    rw [← hjq] at hcv
                    have R1 := hid (HF.out.rd.chg hC.out (fun _ _ _ h => h))
                    have R2 := hid (hR8 v hv4)
                    rw [← hjq] at R2
                    clear hA8 hR8 hA9
                    clear hjq
                    go_wp2_with fail
                    refine (equal_int _ _ _ _ _ _ _ _ (q v) (q v) _ R1.out R2.out (by omega) (by omega)).mono ?_
                    rw [eqI_true rfl]
                    rintro e w9 ⟨rfl, m, rfl⟩
                    have HB3 := hid (HB2.out.nil ((Chg.refl Nil wr).drewN m))
                    by_cases hj0 : j = 0
                    · have hq0 : Hid (q v = []) := hid (List.eq_nil_of_length_eq_zero (by have := HN.out; omega))
                      subst hj0
                      go_wp2_with fail
                      refine (pturn_none _ F p b q v HB3.out.m.q hv4 hq0.out).mono ?_
                      rintro e w10 ⟨rfl, rfl⟩
                      go_wp2
                      go_ret
                      exact ⟨rfl, HB3.out.m.bel⟩
                    · have hj1 : 0 < (j : Int) := by omega
                      go_wp2
                      go_ret
                      exact ⟨rfl, HB3.out.m.bel⟩
end Go.Proofs.Ytaffkdoiooablaa
