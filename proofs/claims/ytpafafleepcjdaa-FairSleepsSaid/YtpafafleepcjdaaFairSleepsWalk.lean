/- The walk of the law FairSleeps: it returns true and changes nothing that was there. No condition. -/
import Derived.Test.YtpafafleepcjdaaFairRow
import Derived.Test.YtpafafleepcjdaaSlptP
namespace Go.Proofs.Ytpafafleepcjdaa
open Go.ChangeShapes Go.WideShapes Go.ChangeAt Go.RowKit
set_option linter.unusedVariables false
set_option maxRecDepth 100000 in
set_option maxHeartbeats 4000000 in
theorem fairSleeps_walk (a0 a1 a2 a3 : Int) (w : World) (w0 : (Lit.int .i64 a0).wf = true) (w1 : (Lit.int .i64 a1).wf = true) (w2 : (Lit.int .i64 a2).wf = true) (w3 : (Lit.int .i64 a3).wf = true) :
    Calls Try.prog 8 #[.int .i64 a0, .int .i64 a1, .int .i64 a2, .int .i64 a3] w fun e w' => e = .returned (.bool true) ∧ Below w.heap.size w w' := by
  go_enter Try.func8, Try.ntmps8
  go_wp2_with fail
  refine (fbegun_ok _).mono ?_
  rintro e w1 ⟨rfl, c1⟩
  have C1 := hid (Chg.below c1 (fun i hi h => h) (Nat.le_refl _))
  clear c1
  have r1 := rest_nonneg a0 15 (by omega)
  have r2 := rest_lt a0 15 (by omega)
  obtain ⟨k0, hk0⟩ := Int.eq_ofNat_of_zero_le r1
  have r3 := rest_nonneg a1 100 (by omega)
  have r4 := rest_lt a1 100 (by omega)
  obtain ⟨wn, hwn⟩ := Int.eq_ofNat_of_zero_le r3
  have r5 := rest_nonneg a3 300 (by omega)
  have r6 := rest_lt a3 300 (by omega)
  obtain ⟨T, hT⟩ := Int.eq_ofNat_of_zero_le r5
  rw [hk0] at r2
  rw [hwn] at r4
  rw [hT] at r6
  replace hk0 := hid hk0
  replace hwn := hid hwn
  replace hT := hid hT
  clear r1 r3 r5
  go_wp2_with fail
  refine (rest_any _ _ _ (by omega) (by omega)).mono ?_
  rw [hk0.out]
  rintro e w2 ⟨rfl, rfl⟩
  go_wp2_with fail
  refine (rest_any _ _ _ (by omega) (by omega)).mono ?_
  rw [hwn.out]
  rintro e w2 ⟨rfl, rfl⟩
  obtain ⟨k, hk⟩ : ∃ k : Nat, 2 + (k0 : Int) = (k : Int) := ⟨k0 + 2, by omega⟩
  have hk1 : 2 ≤ k := by omega
  have hk2 : k ≤ 16 := by omega
  have hmk := run_make1 (P := Try.prog) (t := 24) (e := 3) (z := .int .i64 0) (bytes := 8) Try.underlying24 (by kernel_rfl) rfl (by omega) k (by omega)
  have hB0 : Blk (w1.alloc (.cells (List.replicate k (.int .i64 0)).toArray 3)) w1.heap.size 3 (cellsN k (fillN wn 0)) := by
    have e : cellsN k (fillN wn 0) = List.replicate k (.int .i64 0) := by
      rw [← cellsN_zero]
      congr 1
    rw [e]; exact Blk.new w1 _ _
  replace hB0 := hid hB0
  have HBL0 := hid (C1.out.alloc C1.out.size (.cells (List.replicate k (.int .i64 0)).toArray 3))
  have hgl0 : w.heap.size ≤ w1.heap.size := C1.out.size
  clear C1
  go_wp2
  clear hmk hk r2
  obtain ⟨gl, hgl⟩ : ∃ gl, gl = w1.heap.size := ⟨_, rfl⟩
  rw [← hgl] at hB0 hgl0 ⊢
  replace hgl := hid hgl
  go_loopw [29] (fun s25 wr => ∃ i : Nat, i ≤ k ∧ s25 = .int .i64 i ∧ Hid (Blk wr gl 3 (cellsN k (fillN wn i))) ∧ Hid (Below w.heap.size w wr)) (fun s25 _ => k - (intOf s25).toNat)
  case atStart => exact ⟨0, by omega, rfl, hB0, HBL0⟩
  case round =>
    clear hB0 HBL0
    obtain ⟨i, hi, rfl, hB, hL⟩ := hrel
    by_cases hlt : i < k
    · have hx := hB.out.cell i
      rw [cellsN_get _ _ _ hlt] at hx
      have hfz := hB.out.frozen i
      have hik : (i : Int) < (k : Int) := by omega
      go_wp2
      go_roundw
      case rel =>
        refine ⟨i + 1, by omega, by go_num, ?_, ?_⟩
        · have := hB.out.set i (.int .i64 (wn : Int))
          rwa [cellsN_set k (fillN wn i) (fillN wn (i + 1)) i _ (by simp [fillN]) (fun j hj => by unfold fillN; by_cases h : j < i <;> simp [h] <;> omega)] at this
        · exact hL.out.setCell (by omega) _
      case measure => simp [intOf]; omega
    · obtain rfl : i = k := by omega
      have hR : Rd wr (One gl) 1 (some ⟨gl, 0, none⟩) i i (ints .i64 (List.replicate i (wn : Int))) := by
        have e : cellsN i (fillN wn i) = ints .i64 (List.replicate i (wn : Int)) := by
          unfold ints
          rw [← cellsN_fill]
          unfold cellsN
          refine List.map_congr_left fun j hj => ?_
          have := List.mem_range.1 hj
          simp [fillN, this]
        have h1 := hB.out
        rw [e] at h1
        exact Rd.of_blk h1 (by simp [ints]) (by unfold maxLen; omega)
      have HR := hid hR
      clear hR hB
      go_wp2_with fail
      refine (fairs_ok _ _ _ _ (List.replicate i (wn : Int)) _ HR.out (by omega)).mono ?_
      rintro e w2 ⟨F, p, rfl, h2⟩
      have hM : FMem w.heap.size w F p (mkF (List.replicate i (wn : Int)) i) w2 := by
        have h3 := h2
        rw [List.length_replicate] at h3
        exact ⟨h3.fair, fun j hj => by have := h3.new j hj; have := hL.out.size; omega, hL.out.trans (h3.bel.mono hL.out.size), Nat.le_trans hL.out.size h3.sz⟩
      replace hM := hid hM
      clear h2 hL HR
      go_wp2_with fail
      refine (rest_nat _ (i : Int) _ (by omega) (by omega)).mono ?_
      rintro e w3 ⟨u, hu, rfl, rfl⟩
      have hui : u < i := by omega
      have hxl : u < (mkF (List.replicate i (wn : Int)) i).length := by rw [mkF_len]; exact hui
      have hxu := List.getElem?_eq_getElem hxl
      have hA0 := mkF_inv (List.replicate i (wn : Int)) i hk2
      have hxr := (alike_new i (wn : Int) hk2).each u _ hxu
      generalize (mkF (List.replicate i (wn : Int)) i)[u] = x at *
      have HNU : Hid (NumF (mkF (List.replicate i (wn : Int)) i) u x (1 + (u : Int))) := ⟨hxu, by rw [hA0.num u x hxu]; omega, fun j y hj hy => by have := hA0.num j y hy; omega⟩
      have HSL := hid (slp_new hk2 hxu)
      have hxr1 := hxr.1
      have hw := wtF_le (wn : Int)
      have hml : (mkF (List.replicate i (wn : Int)) i).length ≤ 1000 := by rw [mkF_len]; omega
      replace hxu := hid hxu
      replace hA0 := hid hA0
      replace hxr := hid hxr
      go_wp2_with fail
      refine (fblock_ok _ F p _ u x _ hM.out.fair hml HNU.out).mono ?_
      rintro e w3 ⟨rfl, h3, c3⟩
      rw [hxr1]
      replace hxr1 := hid hxr1
      simp only [if_true]
      have hM3 := hid (hM.out.step h3 c3 (Grew.refl _ _))
      clear h3 c3 hM HNU hxu hA0 hxr hml
      generalize wtF (wn : Int) = wt at *
      generalize (mkF (List.replicate i (wn : Int)) i).set u { x with r := false } = ts0 at *
      go_wp2_with fail
      refine (rest_any _ _ _ (by omega) (by omega)).mono ?_
      rw [hT.out]
      rintro e w4 ⟨rfl, rfl⟩
      go_wp2
      go_loopw [56] (fun s56 wr => ∃ (m : Nat) (ts : List FT), m ≤ T ∧ s56 = .int .i64 m ∧ Hid (SlpI i wt u m ts) ∧ Hid (FMem w.heap.size w F p ts wr)) (fun s56 _ => T - (intOf s56).toNat)
      case atStart => exact ⟨0, _, by omega, rfl, HSL, hM3⟩
      case round =>
        clear HSL hM3
        obtain ⟨m, ts, hm, rfl, hS, hM⟩ := hrel
        have htl : ts.length ≤ 1000 := by have := hS.out.inv.len; omega
        by_cases hlt2 : m < T
        · go_wp2_with fail
          refine (ftick_ok _ F p _ ts hM.out.fair htl (by omega) hS.out.inv.ok).mono ?_
          rintro e w5 ⟨b, hb, rfl, h5, c5⟩
          obtain ⟨j, hj, hju, rfl, hS2⟩ := slp_tick hS.out hk1 hui hb
          have hM2 := hid (hM.out.step h5 c5 (Grew.refl _ _))
          rw [hS.out.inv.numF hj]
          simp only [Option.isSome_some, if_true]
          replace hS2 := hid hS2
          replace hb := hid hb
          clear h5 c5
          have hne : (((j : Int) + 1) == (1 + (u : Int))) = false := by rw [beq_eq_false_iff_ne]; omega
          go_wp2
          go_roundw
          case rel => exact ⟨m + 1, _, by omega, by go_num, hS2, hM2⟩
          case measure => simp [intOf]; omega
        · have hul : u < ts.length := by have := hS.out.inv.len; omega
          have hxu := List.getElem?_eq_getElem hul
          generalize ts[u] = y at hxu
          have HNU : Hid (NumF ts u y (1 + (u : Int))) := ⟨hxu, by rw [hS.out.inv.num u y hxu]; omega, fun j z hj hz => by have := hS.out.inv.num j z hz; omega⟩
          have hyr : y.r = false := by rw [(hS.out.each u y hxu).2.1]; simp
          have HYR := hid hyr
          have HXU := hid hxu
          clear hyr hxu
          go_wp2_with fail
          refine (fwakeup_ok _ F p ts u y _ hM.out.fair htl hS.out.inv.gz HNU.out HYR.out).mono ?_
          rintro e w6 ⟨o, ho, rfl, h6, c6⟩
          obtain ⟨L, v0, hA⟩ := awk_new hS.out hk1 hui HXU.out ho
          have hM6 := hid (hM.out.step h6 c6 (Grew.refl _ _))
          replace hA := hid hA
          clear h6 c6 ho HNU
          go_wp2
          go_loopw [15, 76] (fun s15 s76 wr => ∃ (q gu : Nat) (ts : List FT) (g : Nat → Nat), q ≤ i ∧ gu ≤ q ∧ s15 = .int .i64 gu ∧ s76 = .int .i64 q ∧ Hid (g u = gu) ∧ Hid (AwkI i wt u L (m * 1048576) q v0 ts g) ∧ Hid (FMem w.heap.size w F p ts wr)) (fun _ s76 _ => i - (intOf s76).toNat)
          case atStart => exact ⟨0, 0, _, fun _ => 0, by omega, by omega, rfl, rfl, (rfl : (fun _ => 0 : Nat → Nat) u = 0), hA, hM6⟩
          case round =>
            clear hA hM6
            obtain ⟨q, gu, ts2, g, hq, hgq, rfl, rfl, hgu, hA, hM7⟩ := hrel
            have htl2 : ts2.length ≤ 1000 := by have := hA.out.inv.len; omega
            by_cases hlt3 : q < i
            · go_wp2_with fail
              refine (ftick_ok _ F p _ ts2 hM7.out.fair htl2 (by omega) hA.out.inv.ok).mono ?_
              rintro e w7 ⟨b, hb, rfl, h7, c7⟩
              obtain ⟨j, hj, rfl, hA2⟩ := awk_tick hA.out (by omega) hb
              have hM8 := hid (hM7.out.step h7 c7 (Grew.refl _ _))
              rw [hA.out.inv.numF hj]
              simp only [Option.isSome_some, if_true]
              replace hA2 := hid hA2
              replace hb := hid hb
              clear h7 c7
              by_cases hju : j = u
              · have hne : (((j : Int) + 1) == (1 + (u : Int))) = true := by rw [beq_iff_eq]; omega
                have hg2 : (if u = j then g u + 1 else g u) = gu + 1 := by rw [if_pos hju.symm, hgu.out]
                replace hju := hid hju
                replace hg2 := hid hg2
                go_wp2
                go_roundw
                case rel => exact ⟨q + 1, gu + 1, _, _, by omega, by omega, by go_num, by go_num, hg2, hA2, hM8⟩
                case measure => simp [intOf]; omega
              · have hne : (((j : Int) + 1) == (1 + (u : Int))) = false := by rw [beq_eq_false_iff_ne]; omega
                have hg2 : (if u = j then g u + 1 else g u) = gu := by rw [if_neg (fun hh => hju hh.symm), hgu.out]
                replace hju := hid hju
                replace hg2 := hid hg2
                go_wp2
                go_roundw
                case rel => exact ⟨q + 1, gu, _, _, by omega, by omega, rfl, by go_num, hg2, hA2, hM8⟩
                case measure => simp [intOf]; omega
            · obtain rfl : q = i := by omega
              have hend := awk_end hA.out hui hw.1 hw.2
              rw [hgu.out] at hend
              obtain ⟨he1, he2⟩ := hend
              have hd2 : decide ((gu : Int) ≤ 2) = true := by simp; omega
              go_wp2
              go_ret
              exact ⟨rfl, hM7.out.bel⟩
end Go.Proofs.Ytpafafleepcjdaa
