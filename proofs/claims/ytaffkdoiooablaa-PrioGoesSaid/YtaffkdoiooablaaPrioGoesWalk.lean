/- The walk of the law PrioGoes: it returns true and changes nothing that was there. No condition. -/
import Derived.Test.YtaffkdoiooablaaGoesM
namespace Go.Proofs.Ytaffkdoiooablaa
open Go.ChangeShapes Go.WideShapes Go.ChangeAt Go.RowKit
set_option linter.unusedVariables false
theorem range_push (k : Nat) : nats (List.range k) ++ [(k : Int)] = nats (List.range (k + 1)) := by simp [nats, List.range_succ]
set_option maxRecDepth 100000 in
set_option maxHeartbeats 4000000 in
theorem prioGoes_walk (a0 : Option Addr) (len0 cap0 : Nat) (z0 : List Int) (w : World) (w0 : IsRow .i64 w a0 len0 cap0 z0) :
    Calls Try.prog 5 #[.slice a0 len0 cap0] w fun e w' => e = .returned (.bool true) ∧ Below w.heap.size w w' := by
  have hl1 := w0.1.1
  have hl2 := w0.1.2.1
  unfold maxLen at hl2
  have Z3 := hid w0.1.ilen
  have W3 := hid w0.1
  have hA := (Chg.refl Nil w).alloc (.cells #[.slice a0 len0 cap0] 22)
  have HA := hid hA
  have HBX := hid (Blk.new w 22 [.slice a0 len0 cap0])
  clear w0 hA
  go_enter Try.func5, Try.ntmps5
  go_wp2_with fail
  refine (pbegun_ok _).mono ?_
  rintro e w1 ⟨rfl, c1⟩
  have HB1 := hid (HBX.out.chg c1 (fun h => h))
  have C1 := hid (Chg.below (HA.out.trans c1 (fun _ _ h => h)) (fun i hi h => h) (Nat.le_refl _))
  clear c1
  go_wp2_with fail
  refine (pnew_ok _).mono ?_
  rintro e w2 ⟨F, p, rfl, h2, c2, g2⟩
  have hM := hid (pnew_mem w1 w2 F p w C1.out h2 c2 g2)
  have HB2 := hid (HB1.out.chg c2 (fun h => h))
  have HNF : Hid (¬ F w.heap.size) := hid (fun hh => (g2 _ hh).elim (fun h => h) (fun h => by have := HB1.out.lt; omega))
  clear h2 c2 g2 C1 HB1 HBX HA
  have hx1 := HB2.out.cell 0
  have hx2 := HB2.out.frozen 0
  simp only [List.getElem?_cons_zero] at hx1
  go_upto_region 4 with fail
  go_cut [4] (fun s4 wx => ∃ N : Nat, N ≤ 16 ∧ N ≤ len0 ∧ wx = w2.setCell ⟨w.heap.size, 0, none⟩ (.slice a0 N cap0))
  case first =>
    go_wp2
    · go_meet
      exact ⟨16, by omega, by omega, rfl⟩
    · go_meet
      exact ⟨len0, by omega, by omega, by simp⟩
  case rest =>
    obtain ⟨N, hN1, hN2, rfl⟩ := hcut
    clear hx1 hx2
    have hW4 := W3.out.take_n hN2
    rw [Nat.mul_one, ints_take] at hW4
    have hz4 : (z0.take N).length = N := by rw [List.length_take, Z3.out]; omega
    clear W3 Z3
    have W3 := hid hW4
    have Z3 := hid hz4
    clear hW4 hz4
    generalize z0.take N = z0 at W3 Z3
    have hS : Hid (Gs w F p 0 (fun _ => []) w.heap.size a0 N cap0 [] none 0 0 none (w2.setCell ⟨w.heap.size, 0, none⟩ (.slice a0 N cap0))) := hid
      ⟨hM.out.far ((Chg.refl (One w.heap.size) w2).setCell (p := ⟨w.heap.size, 0, none⟩) (.inl rfl) _) (fun k hF hk => HNF.out (by rw [← show k = w.heap.size from hk]; exact hF)) (fun k hk => by rw [show k = w.heap.size from hk]; exact Nat.le_refl _),
       HB2.out.set 0 _, HNF.out, Nat.le_refl _, Sl.empty _ _ _ _, fun g h => by cases h⟩
    obtain ⟨w3, hw3⟩ : ∃ w3, w3 = w2.setCell ⟨w.heap.size, 0, none⟩ (.slice a0 N cap0) := ⟨_, rfl⟩
    rw [← hw3] at hS ⊢
    clear hw3 hM HB2 HNF
    have hx1 := hS.out.box.cell 0
    simp only [List.getElem?_cons_zero] at hx1
    go_wp2
    clear hx1
    go_loopw [4, 27] (fun s4 s27 wr => ∃ (k b oc : Nat) (F : Nat → Prop) (oa : Option Addr) (G : Option Nat), k ≤ N ∧ s27 = .int .i64 k ∧ s4 = .slice oa k oc ∧ Hid (BOk k b (qOf (fOf z0) (List.range k))) ∧ Hid (Gs w F p b (qOf (fOf z0) (List.range k)) w.heap.size a0 N cap0 (List.range k) oa k oc G wr)) (fun _ s27 _ => N - (intOf s27).toNat)
    case atStart => exact ⟨0, 0, 0, F, none, none, by omega, rfl, rfl, BOk.start, hS⟩
    case round =>
      clear hS
      obtain ⟨k, b, oc, F, oa, G, hk, rfl, rfl, hO, hS⟩ := hrel
      by_cases hlt : k < N
      · have hz : k < z0.length := by have := Z3.out; omega
        have HR := hid (W3.out.belowP hS.out.m.bel (fun _ h => h))
        obtain ⟨g, off, rfl, _, _, hc⟩ := HR.out.at hz
        have hc1 := hc k hz
        have hfb := fOf_bd z0 k
        obtain ⟨v, hv⟩ : ∃ v : Nat, fOf z0 k = (v : Int) := ⟨(fOf z0 k).toNat, by omega⟩
        have hv8 : v < 8 := by omega
        have hfz : Hid (rest z0[k] 8 = (v : Int)) := hid (by rw [← fOf_eq z0 k hz]; exact hv)
        have HV := hid hv
        clear hc hfb hv
        generalize z0[k] = z at hc1 hfz
        go_wp2_with fail
        refine (rest_any _ 8 _ (by omega) (by omega)).mono ?_
        rw [hfz.out]
        rintro e w4 ⟨rfl, rfl⟩
        have HP := hid (pput_ok wr F p b _ ((k : Int) + 1) v hS.out.m.q (fun i hi => by have := hO.out.len i hi; omega) hO.out.lt (by omega) (by omega) hv8 (qOf_new _ k))
        have hO5 := hid (hO.out.put (v := v) hv8 ((k : Int) + 1))
        rw [qOf_put _ k v HV.out] at HP hO5
        go_wp2_with fail
        refine HP.out.mono ?_
        rintro e w5 ⟨F5, rfl, h5, c5, g5⟩
        have hS5 := hid (hS.out.step h5 c5 g5)
        have S8 := hid (hS5.out.sl.alloc (.cells #[.int .i64 (k : Int)] 3))
        have N8 := hid (Rd.of_blk (n := 1) (s := 1) (Blk.new w5 3 (ints .i64 [(k : Int)])) rfl (by decide))
        clear h5 c5 g5 HP
        go_wp2_with (at_builtin; refine wpList_append_sl rfl _ _ eInt rfl rfl rfl S8.out N8.out (ints_one _ _) (by omega) (by omega) ?_; intro a' c' w9 G' y1 y2 y3; replace y1 := hid y1; replace y2 := hid y2; replace y3 := hid y3)
        go_roundw
        case rel =>
          have y4 := y1.out
          rw [ints_append, range_push] at y4
          exact ⟨k + 1, _, c', F5, a', G', by omega, by go_num, rfl, hO5, hS5.out.row y4 (push_chg y2.out) (fun g hg => by rcases y3.out with h | h <;> rw [h] at hg; exact .inl hg; injection hg with hg; simp at hg; exact .inr (by omega))⟩
        case measure => simp [intOf]; omega
      · have hkN : k = N := by omega
        obtain ⟨wo, rfl⟩ : ∃ wo : World, wo = wr := ⟨_, rfl⟩
        have HR := hid (W3.out.belowP hS.out.m.bel (fun _ h => h))
        have HSO := hid (goesSort (Upto w.heap.size) w.heap.size a0 N cap0 z0 oa k oc G (List.range k) wo HR.out (hS.out.box.cell 0) hS.out.sl (by omega) (fun x hx => by have := List.mem_range.1 hx; have := Z3.out; omega) (fun i hi hh => by have := (hS.out.gf i hh).2.2; have : i < w.heap.size := hi; omega) (fun hh => (hS.out.gf _ hh).2.1 rfl))
        have HKN := hid hkN
        clear hkN
        go_wp2_with fail
        refine HSO.out.mono ?_
        rintro e w5 ⟨rfl, ys, y1, y2, y3, y4⟩
        have hS5 := hid (hS.out.row y3 y4 (fun g hg => .inl hg))
        have hO5 : Hid (BOk (N + 0) b (qOf (fOf z0) (ys.drop 0))) := by
          have : (qOf (fOf z0) (ys.drop 0)) = qOf (fOf z0) (List.range k) := by funext u; exact qOf_same y1 u
          rw [this, Nat.add_zero, ← HKN.out]; exact hO
        have hS6 : Hid (Gs w F p b (qOf (fOf z0) (ys.drop 0)) w.heap.size a0 N cap0 ys oa k oc G w5) := by
          have : (qOf (fOf z0) (ys.drop 0)) = qOf (fOf z0) (List.range k) := by funext u; exact qOf_same y1 u
          rw [this]; exact hS5
        rw [HKN.out] at y1 y2
        have Y1 := hid y1
        have Y2 := hid y2
        clear y1 y2 y3 y4 hS5 hS hO HSO HR
        go_wp2
        go_loopw [49] (fun s49 wr => ∃ (j b : Nat) (F : Nat → Prop), j ≤ N ∧ s49 = .int .i64 j ∧ Hid (BOk (N + j) b (qOf (fOf z0) (ys.drop j))) ∧ Hid (Gs w F p b (qOf (fOf z0) (ys.drop j)) w.heap.size a0 N cap0 ys oa k oc G wr)) (fun s49 _ => N - (intOf s49).toNat)
        case atStart => exact ⟨0, b, F, by omega, rfl, hO5, hS6⟩
        case round =>
          clear hO5 hS6
          obtain ⟨j, b, F, hj, rfl, hO, hS⟩ := hrel
          have HR := hid (W3.out.belowP hS.out.m.bel (fun _ h => h))
          by_cases hlt2 : j < N
          · obtain ⟨x, hx1, hx2, hx3, hx4, hx5⟩ := goes_drop Y1.out Y2.out hlt2
            have hyl : ys.length = N := by rw [Y1.out.1, List.length_range]
            rw [hx3] at hO hS
            obtain ⟨v, hv⟩ := nextUp hO.out (fOf_bd z0 x) hx4 hx5
            have HF := hid (pfirst_ok wr F p b v _ hS.out.m.q hO.out.lt hv.b0 hv.top ((x : Int) + 1) _ hv.hd)
            have HO := hid (pout_ok wr F p b _ ((x : Int) + 1) v hS.out.m.q (fun i hi => by have := hO.out.len i hi; omega) hO.out.lt hv.v8 hv.at_ hv.mem)
            have hO5 := hid (hO.out.out hv.v8 _ hv.mem)
            rw [hv.out] at HO hO5
            obtain ⟨b5, hb5⟩ : ∃ b5, b5 = if (keepI ((x : Int) + 1) (qOf (fOf z0) (x :: ys.drop (j + 1)) v)).length = 0 then clrB b v else b := ⟨_, rfl⟩
            rw [← hb5] at HO hO5
            have hzx : x < z0.length := by have := Z3.out; omega
            have hfz : Hid (rest z0[x] 8 = (v : Int)) := hid (by rw [← fOf_eq z0 x hzx]; exact hv.fv)
            obtain ⟨g1, off1, hoa, _, _, hc⟩ := hS.out.sl.rd.at (i := j) (by rw [nats_len]; have := HKN.out; omega)
            have hcx := hc j (by rw [nats_len]; have := HKN.out; omega)
            have ex : (nats ys)[j]'(by rw [nats_len]; have := HKN.out; omega) = (x : Int) := by
              have := List.getElem?_eq_some_iff.1 hx1; simp [nats, this.2]
            rw [ex] at hcx
            have HDR := hid hx3
            obtain ⟨w6, rfl⟩ : ∃ w6 : World, w6 = wr := ⟨_, rfl⟩
            have hjk : (j : Int) < k := by have := HKN.out; omega
            have hxN : (x : Int) < N := by omega
            subst hoa
            clear hx1 hx3 hx4 hx5 hv hb5 hc ex
            go_wp2_with fail
            refine HF.out.mono ?_
            rintro e w7 ⟨rfl, rfl⟩
            go_wp2_with fail
            refine HO.out.mono ?_
            rintro e w8 ⟨F8, rfl, h8, c8, g8⟩
            have hS8 := hid (hS.out.step h8 c8 g8)
            have hbx := hS8.out.box.cell 0
            simp only [List.getElem?_cons_zero] at hbx
            have HR8 := hid (W3.out.belowP hS8.out.m.bel (fun _ h => h))
            obtain ⟨g2, off2, ha0, _, _, hc2⟩ := HR8.out.at hzx
            have hcz := hc2 x hzx
            subst ha0
            generalize z0[x] = z at hcz hfz
            clear h8 c8 g8 hc2 HF HO HR
            go_wp2_with fail
            refine (rest_any _ 8 _ (by omega) (by omega)).mono ?_
            rw [hfz.out]
            rintro e w9 ⟨rfl, rfl⟩
            go_wp2
            go_roundw
            case rel => exact ⟨j + 1, b5, F8, by omega, by go_num, hO5, hS8⟩
            case measure => simp [intOf]; omega
          · have hjN : j = N := by omega
            have hdn : ys.drop j = [] := List.drop_eq_nil_of_le (by rw [Y1.out.1, List.length_range]; omega)
            rw [hdn] at hO hS
            obtain rfl := bok_zero hO.out
            have hkj : (k : Int) ≤ j := by have := HKN.out; omega
            clear hjN
            go_wp2_with fail
            refine (pfirst_none wr F p _ hS.out.m.q).mono ?_
            rintro e w7 ⟨rfl, rfl⟩
            go_wp2_with fail
            refine (pbits_ok wr F p 0 _ hS.out.m.q (by omega)).mono ?_
            rintro e w7 ⟨rfl, rfl⟩
            go_wp2
            go_ret
            exact ⟨rfl, hS.out.m.bel⟩
end Go.Proofs.Ytaffkdoiooablaa
