/- The walk of the law TopFlows: for every list of flows and every list of numbers it returns true, and nothing that was there is changed. No condition. -/
import Derived.Test.YtjllklddjkkddaaGreatDoorZ44
import Derived.Deep.CutBlock
namespace Go.Proofs.YtjllklddjkkddaaGreatDoor
open Go.ChangeShapes Go.WideShapes Go.ChangeAt Go.RowKit
set_option linter.unusedVariables false
/-- What the law has behind an asking that reads. -/
def RdPost (w0 : World) (pk : Nat) (ts ts' : Nat → Nat → Value) (bs : List Int) (L : List (Nat × TypeId × List Value)) (s13 : Value) (wx : World) : Prop :=
  ∃ (er : Int) (m : Nat) (ds bs' : List Int) (b13 : Nat) (sa : Option Addr) (sc : Nat) (G : Option Nat), s13 = .pointer (some ⟨b13, 0, none⟩) ∧ (er = 0 ∨ er = 9) ∧ bs = ds ++ bs' ∧ Hid (FlS w0 wx pk (xL ts ts' bs') ((b13, 33, anC er m 0 (.slice sa ds.length sc)) :: L)) ∧ Hid (Sl wx 5 1 sa ds.length sc (bys ds) G)
set_option maxRecDepth 100000 in
set_option maxHeartbeats 16000000 in
theorem topFlows_walk (a0 : Option Addr) (len0 cap0 : Nat) (fs : List Fw) (a1 : Option Addr) (len1 cap1 : Nat) (zs : List Int) (w : World) (h0 : IsFlows w a0 len0 cap0 fs) (h1 : IsRow .i64 w a1 len1 cap1 zs) :
    Calls Tryz.prog 3 #[.slice a0 len0 cap0, .slice a1 len1 cap1] w fun e w' => e = .returned (.bool true) ∧ Below w.heap.size w w' := by
  have hfd := an_field
  replace h0 := hid h0
  replace h1 := hid h1
  go_enter Tryz.func3, Tryz.ntmps3
  go_wp2_with fail
  refine (g3start_ok w).mono ?_
  rintro e w1 ⟨pk, ts, B, U, rfl, hK, hA, hN, c1, hB⟩
  have F1 : Hid (FlS w w1 pk (xS ts) []) := hid ⟨B, U, hK, hB, below_nil (Below.refl _ w) c1, fun x hx => by cases hx⟩
  replace hA := hid hA
  replace hN := hid hN
  clear hK c1 hB
  go_wp2_with fail
  refine (l_pipe F1.out hA.out).mono ?_
  rintro e w2 ⟨X2, sa2, sc2, G2, rfl, rfl, _, F2⟩
  have B7 := hid (F2.lay 33 (anC 0 0 1 (.slice sa2 0 sc2)))
  clear F1 F2
  go_upto_region 5 with fail
  have hw2 : w2.alloc (.cells #[.int .i64 0, .int .i64 0, .int .i64 1, .slice sa2 0 sc2, .slice none 0 0, .int .i64 0, .int .i64 0, .int .i64 0, .int .i64 0, .int .i64 0, .int .i64 0] 33) = w2.alloc (.cells (anC 0 0 1 (.slice sa2 0 sc2)).toArray 33) := rfl
  rw [hw2]
  obtain ⟨b7, hb7⟩ : ∃ b7, b7 = w2.heap.size := ⟨_, rfl⟩
  rw [← hb7] at B7 ⊢
  generalize hW2 : w2.alloc (.cells (anC 0 0 1 (.slice sa2 0 sc2)).toArray 33) = W2 at B7 ⊢
  replace hW2 := hid hW2
  replace hb7 := hid hb7
  clear hw2
  go_wp2_with fail
  refine (l_fork B7.out hA.out hN.out).mono ?_
  rintro e w3 ⟨X3, sa3, sc3, G3, rfl, ⟨ts', rfl, hA1, hA2⟩, _, F3⟩
  have B8 := hid (F3.lay 33 (anC 0 2 0 (.slice sa3 0 sc3)))
  replace hA1 := hid hA1
  replace hA2 := hid hA2
  clear F3 B7 hA hN
  go_upto_region 6 with fail
  have hw3 : w3.alloc (.cells #[.int .i64 0, .int .i64 2, .int .i64 0, .slice sa3 0 sc3, .slice none 0 0, .int .i64 0, .int .i64 0, .int .i64 0, .int .i64 0, .int .i64 0, .int .i64 0] 33) = w3.alloc (.cells (anC 0 2 0 (.slice sa3 0 sc3)).toArray 33) := rfl
  rw [hw3]
  obtain ⟨b8, hb8⟩ : ∃ b8, b8 = w3.heap.size := ⟨_, rfl⟩
  rw [← hb8] at B8 ⊢
  generalize hW3 : w3.alloc (.cells (anC 0 2 0 (.slice sa3 0 sc3)).toArray 33) = W3 at B8 ⊢
  replace hW3 := hid hW3
  replace hb8 := hid hb8
  clear hw3
  have L7 : ∀ (w' : World) (X : KX), FlS w w' pk X [(b8, 33, anC 0 2 0 (.slice sa3 0 sc3)), (b7, 33, anC 0 0 1 (.slice sa2 0 sc2))] → w'.cell? ⟨b7, 0, none⟩ = some (.int .i64 0) ∧ w'.cell? ⟨b7, 1, none⟩ = some (.int .i64 0) ∧ w'.cell? ⟨b7, 2, none⟩ = some (.int .i64 1) ∧ w'.cell? ⟨b8, 0, none⟩ = some (.int .i64 0) ∧ w'.cell? ⟨b8, 1, none⟩ = some (.int .i64 2) := fun w' X h => by
    have b1 := h.blk (x := (b8, 33, anC 0 2 0 (.slice sa3 0 sc3))) (by simp)
    have b2 := h.blk (x := (b7, 33, anC 0 0 1 (.slice sa2 0 sc2))) (by simp)
    exact ⟨b2.cell 0, b2.cell 1, b2.cell 2, b1.cell 0, b1.cell 1⟩
  replace L7 := hid L7
  obtain ⟨E70, E71, E72, E80, E81⟩ := L7.out _ _ B8.out
  go_wp2_with fail
  refine (l_close1 B8.out hA1.out).mono ?_
  rintro e w4 ⟨X4, sa4, sc4, G4, rfl, rfl, _, F4⟩
  clear B8 E70 E71 E72 E80 E81
  replace F4 := hid F4
  obtain ⟨E70, E71, E72, E80, E81⟩ := L7.out _ _ F4.out
  go_wp2_with fail
  refine (l_close2 F4.out hA2.out).mono ?_
  rintro e w5 ⟨X5, sa5, sc5, G5, rfl, rfl, _, F5⟩
  clear F4 E70 E71 E72 E80 E81
  replace F5 := hid F5
  obtain ⟨E70, E71, E72, E80, E81⟩ := L7.out _ _ F5.out
  go_upto_region 11 with fail
  clear E70 E71 E72 E80 E81
  have hlc : len0 ≤ cap0 := h0.out.1.1
  have hmx := h0.out.1.2.1
  unfold maxLen at hmx
  go_cut [75, 76, 77] (fun s75 s76 s77 wx => wx = w5 ∧ ∃ N : Nat, N ≤ 60 ∧ N ≤ len0 ∧ s75 = .slice a0 N cap0 ∧ s76 = .int .i64 N ∧ s77 = .int .i64 0)
  case first =>
    go_wp2
    go_meet
    refine ⟨rfl, min len0 60, Nat.min_le_right _ _, Nat.min_le_left _ _, ?_, ?_, rfl⟩
    all_goals (congr 1 <;> omega)
  case rest =>
    obtain ⟨rfl, N, hN1, hN2, rfl, rfl, rfl⟩ := hcut
    go_wp2
    obtain ⟨LL, hLL⟩ : ∃ LL, LL = [(b8, 33, anC 0 2 0 (.slice sa3 0 sc3)), (b7, 33, anC 0 0 1 (.slice sa2 0 sc2))] := ⟨_, rfl⟩
    rw [← hLL] at F5 L7
    replace hLL := hid hLL
    go_loopw [9, 10, 77] (fun s9 s10 s77 wr => ∃ (k : Nat) (rd bs : List Int), k ≤ N ∧ s77 = .int .i64 k ∧ s9 = .string (strOfNums (rd ++ bs)) ∧ s10 = .string (strOfNums rd) ∧ Hid (bs.length ≤ 64) ∧ Hid ((rd ++ bs).length ≤ 100 * k) ∧ Hid (FlS w wr pk (xL ts ts' bs) LL)) (fun _ _ s77 _ => N - (intOf s77).toNat)
    case atStart => exact ⟨0, [], [], Nat.zero_le _, rfl, rfl, rfl, Nat.zero_le _, Nat.le_refl _, F5.out⟩
    case round =>
      obtain ⟨k, rd, bs, hk, rfl, rfl, rfl, hb, hrb, FR⟩ := hrel
      clear F5
      by_cases hlt : k < N
      · have hkf : k < fs.length := by rw [h0.out.2.1]; omega
        obtain ⟨g, off, rfl, hg1, hg2, hcell⟩ := h0.out.1.2.2.2 (by omega)
        obtain ⟨x, hx⟩ : ∃ x, x = fs[k] := ⟨_, rfl⟩
        have hcs : ∀ i, i < 3 → wr.cell? ⟨g, off + (k * 3 + i), none⟩ = (flowC x)[i]? := fun i hi => by
          rw [FR.out.below.cell (p := ⟨g, off + (k * 3 + i), none⟩) hg2, hcell _ (by have : len0 * 3 = len0 * 3 := rfl; omega), hx]
          exact flat_get flowC 3 flowC_len fs k i hkf hi
        have y0 := hcs 0 (by omega)
        have y1 := hcs 1 (by omega)
        have y2 := hcs 2 (by omega)
        simp only [flowC, List.getElem?_cons_succ, List.getElem?_cons_zero, Nat.add_zero] at y0 y1 y2
        rw [← Nat.add_assoc] at y1 y2
        have hxi := h0.out.2.2 x (by rw [hx]; exact List.getElem_mem hkf)
        have F12 := hid (FR.out.lay 38 (flowC x))
        have i1 : (k : Int) < (N : Int) := by omega
        have i0 : ¬ (k : Int) < 0 := by omega
        replace hxi := hid hxi
        replace hx := hid hx
        replace hcell := hid hcell
        clear hcs FR
        go_upto_region 14 with fail
        have hw12 : wr.alloc (.cells #[.bool x.rd, .int .i64 x.n, .slice x.a x.l x.c] 38) = wr.alloc (.cells (flowC x).toArray 38) := rfl
        rw [hw12]
        obtain ⟨b12, hb12⟩ : ∃ b12, b12 = wr.heap.size := ⟨_, rfl⟩
        rw [← hb12] at F12 ⊢
        generalize hW12 : wr.alloc (.cells (flowC x).toArray 38) = W12 at F12 ⊢
        replace hW12 := hid hW12
        replace hb12 := hid hb12
        clear hw12 y0 y1 y2
        go_upto_if 85 with fail
        go_cut [87] (fun _ wx => Hid (FlS w wx pk (xL ts ts' bs) ((b12, 38, flowC x) :: LL)))
        case first =>
          by_cases hk1 : k < len1
          · have j1 : (k : Int) < (len1 : Int) := by omega
            have hz : k < zs.length := by have := h1.out.1.2.2.1; rw [ints_length] at this; omega
            obtain ⟨g1, off1, rfl, hg11, hg12, hcell1⟩ := h1.out.1.2.2.2 (by omega)
            have z1 : W12.cell? ⟨g1, off1 + k, none⟩ = some (.int .i64 zs[k]) := by
              rw [F12.out.below.cell (p := ⟨g1, off1 + k, none⟩) hg12, hcell1 _ (by omega), ints_get _ _ hz]
            obtain ⟨pm, k1, HRC⟩ := l_reclaim (k := 0) F12.out
            have HRC' : Hid (∀ (r : Int) w', Chg Nil W12 w' → Calls Tryz.prog 7 #[.pointer (some ⟨pm, 0, none⟩), .int .i64 r] w' fun e w2 => e = .returned (.int .i64 0) ∧ Chg Nil w' w2) := hid (fun r w' hc => by
              obtain ⟨pm', k1', H⟩ := l_reclaim (k := r) F12.out
              rw [k1] at k1'
              injection k1' with k1'
              injection k1' with k1'
              injection k1' with k1'
              injection k1' with k1'
              subst k1'
              exact H w' hc)
            have HM := hid (kmem_ok W12.drew pk pm k1)
            have HRe : Hid (Calls Tryz.prog 8 #[.int .i64 zs[k], .int .i64 50] W12.drew fun e w' => ∃ r : Nat, r < 50 ∧ e = .returned (.int .i64 (r : Int)) ∧ W12.drew = w') := hid (by
              have hwf := h1.out.2 zs[k] (List.getElem_mem hz)
              exact g3rest_50 W12.drew zs[k] (wf64 hwf).1 (wf64 hwf).2)
            replace hcell1 := hid hcell1
            have j0 : ¬ (k : Int) < 0 := by omega
            clear HRC k1
            go_upto_region 15 with fail
            go_region_law
              (first | (go_simp; go_at_call 6; refine HM.out.mono ?_; rintro e w' ⟨rfl, rfl⟩) | (go_simp; go_at_call 8; refine HRe.out.mono ?_; rintro e w' ⟨r, hr, rfl, rfl⟩) | (go_simp; go_at_call 7; refine (HRC'.out _ W12.drew (Chg.refl Nil W12).drew).mono ?_; rintro e w6 ⟨rfl, c6⟩; replace c6 := hid c6))
            all_goals
              go_wp2
              go_meet
              exact F12.out.nil ((Chg.refl Nil W12).drew.trans c6.out (fun _ _ h => h))
          · have j1 : ¬ (k : Int) < (len1 : Int) := by omega
            go_wp2
            go_meet
            exact F12
        case rest =>
          have F13 := hcut
          clear F12 hcut
          have bx := F13.out.blk (x := (b12, 38, flowC x)) (List.mem_cons_self ..)
          have X0 := bx.cell 0
          have X1 := bx.cell 1
          have X2 := bx.cell 2
          simp only [flowC, List.getElem?_cons_succ, List.getElem?_cons_zero] at X0 X1 X2
          obtain ⟨E70, E71, E72, E80, E81⟩ := L7.out _ _ F13.out.less
          by_cases hrd : x.rd = true
          · rw [hrd] at X0
            have HR80 := hid (fun w' => g3rest_80 w' x.n (wf64 hxi.out.1).1 (wf64 hxi.out.1).2)
            have F14 := F13.out.lay 33 anZ
            obtain ⟨_, E71', _⟩ := L7.out _ _ F14.less.less
            have X1' := (bx.alloc (.cells anZ.toArray 33)).cell 1
            simp only [flowC, List.getElem?_cons_succ, List.getElem?_cons_zero] at X1'
            have E71'' : (wc.alloc (.cells #[.int .i64 0, .int .i64 0, .int .i64 0, .slice none 0 0, .slice none 0 0, .int .i64 0, .int .i64 0, .int .i64 0, .int .i64 0, .int .i64 0, .int .i64 0] 33)).cell? ⟨b7, 1, none⟩ = some (.int .i64 0) := E71'
            have X1'' : (wc.alloc (.cells #[.int .i64 0, .int .i64 0, .int .i64 0, .slice none 0 0, .slice none 0 0, .int .i64 0, .int .i64 0, .int .i64 0, .int .i64 0, .int .i64 0, .int .i64 0] 33)).cell? ⟨b12, 1, none⟩ = some (.int .i64 x.n) := X1'
            have hwb : w.heap.size ≤ wc.heap.size := F13.out.below.size
            have hLb : Hid (∀ y ∈ (b12, 38, flowC x) :: LL, y.1 ≠ wc.heap.size) := hid (fun y hy hh => by
              have := (F13.out.blk hy).lt
              omega)
            replace F14 := hid F14
            clear E71' X1' bx E70 E72 E80 E81 X2
            go_upto_region 17 with fail
            clear X0
            go_cut [13] (fun s13 wx => Hid (RdPost w pk ts ts' bs ((b12, 38, flowC x) :: LL) s13 wx))
            case first =>
              go_region_law
                (first | (go_simp; go_at_call 8; refine (HR80.out _).mono ?_; rintro e w' ⟨r, hr, rfl, rfl⟩; have hr' : r ≤ 256 := Nat.le_of_lt (Nat.lt_trans hr (by decide))) | (go_simp; go_at_call 5; obtain ⟨er, m, ds, bs', her, hbs, HA⟩ := l_read bs (F13.out.nil (Chg.refl Nil wc).drew) hA1.out r hr'; replace hbs := hid hbs; refine HA.mono ?_; rintro e w6 ⟨X6, sa, sc, G6, rfl, rfl, sl, F6⟩; have D1 := hid (F6.lay 33 (anC er m 0 (.slice sa ds.length sc))); have D2 := hid (sl.alloc (.cells (anC er m 0 (.slice sa ds.length sc)).toArray 33)); replace sl := hid sl; replace F6 := hid F6; replace HA := hid HA) | (go_simp; go_at_call 5; obtain ⟨er, m, ds, bs', her, hbs, HA⟩ := l_read bs (F14.out.nil (Chg.refl Nil (wc.alloc (.cells anZ.toArray 33))).drew) hA1.out r hr'; replace hbs := hid hbs; refine HA.mono ?_; rintro e w6 ⟨X6, sa, sc, G6, rfl, rfl, sl, F6⟩; have TB : Blk w6 wc.heap.size 33 anZ := F6.blk (x := (wc.heap.size, 33, anZ)) (List.mem_cons_self ..); obtain ⟨D3, D4⟩ := an_chain TB er m 0 sa ds.length sc; have D1 := hid (F6.put hwb hLb.out D3.out D4.out); have D2 := hid (sl.chg D4.out (fun g hg hh => sl.ne_blk TB (by decide) (by rw [hg, show g = wc.heap.size from hh]))); have t0 := TB.cell 0; have t1 := TB.cell 1; have t2 := TB.cell 2; have t3 := TB.cell 3; have t4 := TB.cell 4; have t5 := TB.cell 5; have t6 := TB.cell 6; have t7 := TB.cell 7; have t8 := TB.cell 8; have t9 := TB.cell 9; have t10 := TB.cell 10; have u0 := TB.frozen 0; have u1 := TB.frozen 1; have u2 := TB.frozen 2; have u3 := TB.frozen 3; have u4 := TB.frozen 4; have u5 := TB.frozen 5; have u6 := TB.frozen 6; have u7 := TB.frozen 7; have u8 := TB.frozen 8; have u9 := TB.frozen 9; have u10 := TB.frozen 10; simp only [anZ, List.getElem?_cons_succ, List.getElem?_cons_zero] at t0 t1 t2 t3 t4 t5 t6 t7 t8 t9 t10; replace sl := hid sl; replace F6 := hid F6; replace HA := hid HA; replace TB := hid TB))

              all_goals
                go_wp2
                go_meet
                first
                  | exact ⟨er, m, ds, bs', w6.heap.size, sa, sc, G6, rfl, her, hbs.out, D1, D2⟩
                  | exact ⟨er, m, ds, bs', wc.heap.size, sa, sc, G6, rfl, her, hbs.out, D1, D2⟩
            case rest =>
              obtain ⟨er, m, ds, bs', b13, sa, sc, G6, rfl, her, hbs, D1, D2⟩ := hcut.out
              clear hcut
              replace hbs := hid hbs
              obtain ⟨wd, hwd⟩ : ∃ wd, wd = wc := ⟨_, rfl⟩
              have b13c := D1.out.blk (List.mem_cons_self ..)
              have R0 := b13c.cell 0
              have R3 := b13c.cell 3
              simp only [anC, List.getElem?_cons_succ, List.getElem?_cons_zero] at R0 R3
              have HCV := conv_rd (P := Tryz.prog) 28 5 9 Tryz.underlying28 Tryz.underlying5 Tryz.underlying9 D2.out.rd
              have hsa := str_append rd ds
              have hsz : ¬ (9223372036854775807 < (strOfNums rd).size + (strOfNums ds).size) := by
                rw [strOfNums_size, strOfNums_size]
                have h1 := hrb.out
                rw [hbs.out, List.length_append, List.length_append] at h1
                omega
              replace b13c := hid b13c
              replace hwd := hid hwd
              rcases her with rfl | rfl
              all_goals
                go_wp2
                go_roundw
                case measure => first | omega | (simp [intOf]; omega)
                case rel => exact ⟨k + 1, rd ++ ds, bs', hlt, by simp, by first | rfl | (rw [hbs.out, List.append_assoc]; done) | (rw [List.append_assoc]; done) | (rw [hbs.out]; done), by first | rfl | simp, by have h1 := hb.out; rw [hbs.out, List.length_append] at h1; show bs'.length ≤ 64; omega, by have h1 := hrb.out; rw [hbs.out] at h1; show (rd ++ ds ++ bs').length ≤ 100 * (k + 1); rw [List.append_assoc]; omega, D1.out.less.less⟩
          · have hrf : x.rd = false := by simpa using hrd
            rw [hrf] at X0
            have HRD := hid (rd_below (R := Nil) hxi.out.2.1 F13.out.below)
            have l1 : x.l ≤ x.c := HRD.out.1
            have l2 := HRD.out.2.1
            unfold maxLen at l2
            clear bx hrd
            obtain ⟨wv, hwv⟩ : ∃ wv, wv = wc := ⟨_, rfl⟩
            subst hwv
            go_upto_region 21 with fail
            clear X0 X1
            go_cut [14] (fun s14 wx => wx = wv ∧ ∃ M : Nat, M ≤ 90 ∧ M ≤ x.l ∧ s14 = .slice x.a M x.c)
            case first =>
              go_wp2
              go_meet
              refine ⟨rfl, min x.l 90, Nat.min_le_right _ _, Nat.min_le_left _ _, ?_⟩
              congr 1 <;> omega
            case rest =>
              obtain ⟨rfl, M, hM1, hM2, rfl⟩ := hcut
              have HRM : Rd wc (Upto w.heap.size) 1 x.a M x.c (ints .u8 (x.zs.take M)) := by
                have := HRD.out.take_n hM2
                rw [Nat.mul_one] at this
                have he : (ints .u8 x.zs).take M = ints .u8 (x.zs.take M) := by simp [ints, List.map_take]
                rwa [he] at this
              obtain ⟨er, m, her, hm, hlen, HA⟩ := l_write bs hb.out F13.out hA2.out _ x.a M x.c (x.zs.take M) HRM hM1
              replace HA := hid HA
              replace HRM := hid HRM
              replace hlen := hid hlen
              clear X2 E70 E71 E80
              go_wp2_with fail
              refine HA.out.mono ?_
              rintro e w6 ⟨X6, sa, sc, G6, rfl, rfl, _, F6⟩
              have F15 := hid (F6.lay 33 (anC er m 0 (.slice sa 0 sc)))
              clear F6 HA E72 E81
              go_upto_region 23 with fail
              have hw0 : w6.alloc (.cells #[.int .i64 er, .int .i64 (m : Int), .int .i64 0, .slice sa 0 sc, .slice none 0 0, .int .i64 0, .int .i64 0, .int .i64 0, .int .i64 0, .int .i64 0, .int .i64 0] 33) = w6.alloc (.cells (anC er m 0 (.slice sa 0 sc)).toArray 33) := rfl
              rw [hw0]
              clear hw0
              generalize hwd : w6.alloc (.cells (anC er m 0 (.slice sa 0 sc)).toArray 33) = wd at F15 ⊢
              replace hwd := hid hwd
              have b15 := F15.out.blk (List.mem_cons_self ..)
              have R0 := b15.cell 0
              have R1 := b15.cell 1
              simp only [anC, List.getElem?_cons_succ, List.getElem?_cons_zero] at R0 R1
              have HRW : Rd wd (Upto w.heap.size) 1 x.a m x.c (ints .u8 ((x.zs.take M).take m)) := by
                have h1 := (rd_below (R := Nil) hxi.out.2.1 F15.out.below).take_n (k := m) (by omega)
                rw [Nat.mul_one] at h1
                have he : (ints .u8 x.zs).take m = ints .u8 ((x.zs.take M).take m) := by
                  rw [List.take_take, Nat.min_eq_left hm]
                  simp [ints, List.map_take]
                rwa [he] at h1
              have HCV := conv_rd (P := Tryz.prog) 28 5 9 Tryz.underlying28 Tryz.underlying5 Tryz.underlying9 HRW
              obtain ⟨dm, hdm⟩ : ∃ dm, dm = (x.zs.take M).take m := ⟨_, rfl⟩
              rw [← hdm] at HCV hlen F15
              have hsa := str_append (rd ++ bs) dm
              have hdl : dm.length ≤ 90 := by rw [hdm, List.length_take]; omega
              have hsz : ¬ (9223372036854775807 < (strOfNums (rd ++ bs)).size + (strOfNums dm).size) := by
                rw [strOfNums_size, strOfNums_size]
                have h1 := hrb.out
                omega
              replace hdl := hid hdl
              replace hdm := hid hdm
              replace HRW := hid HRW
              replace b15 := hid b15
              have m0 : ¬ (m : Int) < 0 := by omega
              have m1 : ¬ (M : Int) < (m : Int) := by omega
              rcases her with rfl | rfl
              all_goals
                go_wp2
                go_roundw
                case measure => first | omega | (simp [intOf]; omega)
                case rel => exact ⟨k + 1, rd, bs ++ dm, hlt, by simp, by first | rfl | rw [List.append_assoc], rfl, hlen.out, by have h1 := hrb.out; have h2 := hdl.out; show (rd ++ (bs ++ dm)).length ≤ 100 * (k + 1); rw [← List.append_assoc, List.length_append]; omega, F15.out.less.less⟩
      · obtain ⟨E70, E71, E72, E80, E81⟩ := L7.out _ _ FR.out
        go_wp2_with fail
        refine (hp_ok wr rd bs).mono ?_
        rintro e w' ⟨rfl, rfl⟩
        go_wp2_with fail
        refine (l_exit bs FR.out hA1.out hA2.out).mono ?_
        rintro e w6 ⟨X6, sa, sc, G6, rfl, rfl, _, F6⟩
        clear FR E70 E71 E72 E80 E81
        replace F6 := hid F6
        go_wp2
        go_loopw [10, 173] (fun s10 s173 wq => ∃ (j : Nat) (rd' bs' : List Int), j ≤ 4 ∧ s173 = .int .i64 j ∧ s10 = .string (strOfNums rd') ∧ Hid (rd' ++ bs' = rd ++ bs) ∧ Hid (bs'.length ≤ 64) ∧ Hid (1 ≤ j → bs' = []) ∧ Hid (FlS w wq pk (xE ts ts' bs') LL)) (fun _ s173 _ => 4 - (intOf s173).toNat)
        case atStart => exact ⟨0, rd, bs, by omega, rfl, rfl, rfl, hb.out, fun h => absurd h (by omega), F6.out⟩
        case round =>
          obtain ⟨j, rd', bs', hj, rfl, rfl, hcat, hb', hj', FQ⟩ := hrel
          clear F6
          by_cases hlt2 : j < 4
          · obtain ⟨E70, E71, E72, E80, E81⟩ := L7.out _ _ FQ.out
            obtain ⟨mm, hmm⟩ : ∃ mm : Nat, mm = min 64 bs'.length := ⟨_, rfl⟩
            obtain ⟨dd, hdd⟩ : ∃ dd, dd = bs'.take 64 := ⟨_, rfl⟩
            have HE := l_end bs' FQ.out hA1.out
            rw [← hmm, ← hdd] at HE
            replace HE := hid HE
            replace hmm := hid hmm
            replace hdd := hid hdd
            clear E70 E72 E80 E81
            have i4 : (j : Int) < 4 := by omega
            go_wp2_with fail
            refine HE.out.mono ?_
            rintro e w7 ⟨X7, sa7, sc7, G7, rfl, rfl, sl, F7⟩
            have D1 := hid (F7.lay 33 (anC 0 mm 0 (.slice sa7 dd.length sc7)))
            have D2 := hid (sl.alloc (.cells (anC 0 mm 0 (.slice sa7 dd.length sc7)).toArray 33))
            clear F7 sl HE E71
            go_upto_region 32 with fail
            have hw0 : w7.alloc (.cells #[.int .i64 0, .int .i64 (mm : Int), .int .i64 0, .slice sa7 dd.length sc7, .slice none 0 0, .int .i64 0, .int .i64 0, .int .i64 0, .int .i64 0, .int .i64 0, .int .i64 0] 33) = w7.alloc (.cells (anC 0 mm 0 (.slice sa7 dd.length sc7)).toArray 33) := rfl
            rw [hw0]
            clear hw0
            generalize hwd : w7.alloc (.cells (anC 0 mm 0 (.slice sa7 dd.length sc7)).toArray 33) = wd at D1 D2 ⊢
            replace hwd := hid hwd
            have b16 := D1.out.blk (List.mem_cons_self ..)
            have R0 := b16.cell 0
            have R3 := b16.cell 3
            simp only [anC, List.getElem?_cons_succ, List.getElem?_cons_zero] at R0 R3
            have HCV := conv_rd (P := Tryz.prog) 28 5 9 Tryz.underlying28 Tryz.underlying5 Tryz.underlying9 D2.out.rd
            have hsa := str_append rd' dd
            have hsz : ¬ (9223372036854775807 < (strOfNums rd').size + (strOfNums dd).size) := by
              rw [strOfNums_size, strOfNums_size]
              have h1 := congrArg List.length hcat.out
              rw [List.length_append] at h1
              have h2 := hrb.out
              have h3 : dd.length ≤ bs'.length := by rw [hdd.out, List.length_take]; omega
              omega
            replace b16 := hid b16
            go_wp2
            go_roundw
            case measure => first | omega | (simp [intOf]; omega)
            case rel =>
              exact ⟨j + 1, rd' ++ dd, bs'.drop 64, hlt2, by simp, rfl, by
                show rd' ++ dd ++ bs'.drop 64 = rd ++ bs
                rw [List.append_assoc, hdd.out, List.take_append_drop]; exact hcat.out, by
                show (bs'.drop 64).length ≤ 64
                have := hb'.out
                rw [List.length_drop]; omega, fun _ => List.drop_eq_nil_of_le hb'.out, D1.out.less⟩
          · have hb0 : bs' = [] := hj'.out (by omega)
            subst hb0
            have hrr : rd' = rd ++ bs := by
              have := hcat.out
              rwa [List.append_nil] at this
            subst hrr
            obtain ⟨stt, hst⟩ : ∃ stt, stt = ((xE ts ts' []).pl 2).status := ⟨_, rfl⟩
            have HW := l_wait [] (xE ts ts' []) rfl FQ.out (xE_ts hA1.out [])
            rw [← hst] at HW
            replace HW := hid HW
            replace hst := hid hst
            have i4 : ¬ (j : Int) < 4 := by omega
            go_wp2_with fail
            refine HW.out.mono ?_
            rintro e w8 ⟨X8, sa8, sc8, G8, rfl, _, _, F8⟩
            have F17 := hid (F8.lay 33 (anC 0 2 stt (.slice sa8 0 sc8)))
            clear F8 HW
            go_upto_region 37 with fail
            have hw0 : w8.alloc (.cells #[.int .i64 0, .int .i64 2, .int .i64 stt, .slice sa8 0 sc8, .slice none 0 0, .int .i64 0, .int .i64 0, .int .i64 0, .int .i64 0, .int .i64 0, .int .i64 0] 33) = w8.alloc (.cells (anC 0 2 stt (.slice sa8 0 sc8)).toArray 33) := rfl
            rw [hw0]
            clear hw0
            generalize hwd : w8.alloc (.cells (anC 0 2 stt (.slice sa8 0 sc8)).toArray 33) = wd at F17 ⊢
            replace hwd := hid hwd
            have b17 := F17.out.blk (List.mem_cons_self ..)
            have R0 := b17.cell 0
            have R1 := b17.cell 1
            simp only [anC, List.getElem?_cons_succ, List.getElem?_cons_zero] at R0 R1
            obtain ⟨E70, E71, E72, E80, E81⟩ := L7.out _ _ F17.out.less
            have hbel := hid F17.out.below
            replace b17 := hid b17
            go_wp2
            go_ret
            exact ⟨rfl, hbel.out⟩
end Go.Proofs.YtjllklddjkkddaaGreatDoor
