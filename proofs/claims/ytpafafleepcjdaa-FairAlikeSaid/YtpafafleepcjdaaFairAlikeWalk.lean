/- The walk of the law FairAlike: it returns true and changes nothing that was there. No condition. -/
import Derived.Test.YtpafafleepcjdaaFairRow
import Derived.Test.YtpafafleepcjdaaAlikeP
namespace Go.Proofs.Ytpafafleepcjdaa
open Go.ChangeShapes Go.WideShapes Go.ChangeAt Go.RowKit
set_option linter.unusedVariables false
set_option maxRecDepth 100000 in
set_option maxHeartbeats 4000000 in
theorem fairAlike_walk (a0 a1 a2 : Int) (w : World) (w0 : (Lit.int .i64 a0).wf = true) (w1 : (Lit.int .i64 a1).wf = true) (w2 : (Lit.int .i64 a2).wf = true) :
    Calls Try.prog 3 #[.int .i64 a0, .int .i64 a1, .int .i64 a2] w fun e w' => e = .returned (.bool true) ∧ Below w.heap.size w w' := by
  go_enter Try.func3, Try.ntmps3
  go_wp2_with fail
  refine (fbegun_ok _).mono ?_
  rintro e w1 ⟨rfl, c1⟩
  have C1 := hid (Chg.below c1 (fun i hi h => h) (Nat.le_refl _))
  clear c1
  have r1 := rest_nonneg a0 16 (by omega)
  have r2 := rest_lt a0 16 (by omega)
  obtain ⟨k0, hk0⟩ := Int.eq_ofNat_of_zero_le r1
  have r3 := rest_nonneg a1 100 (by omega)
  have r4 := rest_lt a1 100 (by omega)
  obtain ⟨wn, hwn⟩ := Int.eq_ofNat_of_zero_le r3
  have r5 := rest_nonneg a2 200 (by omega)
  have r6 := rest_lt a2 200 (by omega)
  obtain ⟨T, hT⟩ := Int.eq_ofNat_of_zero_le r5
  rw [hk0] at r2
  rw [hwn] at r4
  rw [hT] at r6
  replace hk0 := hid hk0
  replace hwn := hid hwn
  replace hT := hid hT
  clear r1 r3 r5
  go_wp2_with fail
  refine (rest_any _ _ _ (by omega) (by omega)).mono ?_
  rw [hk0.out]
  rintro e w2 ⟨rfl, rfl⟩
  go_wp2_with fail
  refine (rest_any _ _ _ (by omega) (by omega)).mono ?_
  rw [hwn.out]
  rintro e w2 ⟨rfl, rfl⟩
  obtain ⟨k, hk⟩ : ∃ k : Nat, 1 + (k0 : Int) = (k : Int) := ⟨k0 + 1, by omega⟩
  have hk1 : 1 ≤ k := by omega
  have hk2 : k ≤ 16 := by omega
  have hmk := run_make1 (P := Try.prog) (t := 24) (e := 3) (z := .int .i64 0) (bytes := 8) Try.underlying24 (by kernel_rfl) rfl (by omega) k (by omega)
  have hB0 : Blk (w1.alloc (.cells (List.replicate k (.int .i64 0)).toArray 3)) w1.heap.size 3 (cellsN k (fillN wn 0)) := by
    have e : cellsN k (fillN wn 0) = List.replicate k (.int .i64 0) := by
      rw [← cellsN_zero]
      congr 1
    rw [e]; exact Blk.new w1 _ _
  replace hB0 := hid hB0
  have HBL0 := hid (C1.out.alloc C1.out.size (.cells (List.replicate k (.int .i64 0)).toArray 3))
  have hgl0 : w.heap.size ≤ w1.heap.size := C1.out.size
  clear C1
  go_wp2
  clear hmk hk r2
  obtain ⟨gl, hgl⟩ : ∃ gl, gl = w1.heap.size := ⟨_, rfl⟩
  rw [← hgl] at hB0 hgl0 ⊢
  replace hgl := hid hgl
  go_loopw [25] (fun s25 wr => ∃ i : Nat, i ≤ k ∧ s25 = .int .i64 i ∧ Hid (Blk wr gl 3 (cellsN k (fillN wn i))) ∧ Hid (Below w.heap.size w wr)) (fun s25 _ => k - (intOf s25).toNat)
  case atStart => exact ⟨0, by omega, rfl, hB0, HBL0⟩
  case round =>
    clear hB0 HBL0
    obtain ⟨i, hi, rfl, hB, hL⟩ := hrel
    by_cases hlt : i < k
    · have hx := hB.out.cell i
      rw [cellsN_get _ _ _ hlt] at hx
      have hfz := hB.out.frozen i
      have hik : (i : Int) < (k : Int) := by omega
      go_wp2
      go_roundw
      case rel =>
        refine ⟨i + 1, by omega, by go_num, ?_, ?_⟩
        · have := hB.out.set i (.int .i64 (wn : Int))
          rwa [cellsN_set k (fillN wn i) (fillN wn (i + 1)) i _ (by simp [fillN]) (fun j hj => by unfold fillN; by_cases h : j < i <;> simp [h] <;> omega)] at this
        · exact hL.out.setCell (by omega) _
      case measure => simp [intOf]; omega
    · obtain rfl : i = k := by omega
      have hR : Rd wr (One gl) 1 (some ⟨gl, 0, none⟩) i i (ints .i64 (List.replicate i (wn : Int))) := by
        have e : cellsN i (fillN wn i) = ints .i64 (List.replicate i (wn : Int)) := by
          unfold ints
          rw [← cellsN_fill]
          unfold cellsN
          refine List.map_congr_left fun j hj => ?_
          have := List.mem_range.1 hj
          simp [fillN, this]
        have h1 := hB.out
        rw [e] at h1
        exact Rd.of_blk h1 (by simp [ints]) (by unfold maxLen; omega)
      have HR := hid hR
      clear hR hB
      go_wp2_with fail
      refine (fairs_ok _ _ _ _ (List.replicate i (wn : Int)) _ HR.out (by omega)).mono ?_
      rintro e w2 ⟨F, p, rfl, h2⟩
      have hM : FMem w.heap.size w F p (mkF (List.replicate i (wn : Int)) i) w2 := by
        have h3 := h2
        rw [List.length_replicate] at h3
        exact ⟨h3.fair, fun j hj => by have := h3.new j hj; have := hL.out.size; omega, hL.out.trans (h3.bel.mono hL.out.size), Nat.le_trans hL.out.size h3.sz⟩
      have hA := alike_new i (wn : Int) hk2
      have hw := wtF_le (wn : Int)
      replace hM := hid hM
      replace hA := hid hA
      clear h2 hL HR
      generalize wtF (wn : Int) = wt at *
      go_wp2_with fail
      refine (rest_any _ _ _ (by omega) (by omega)).mono ?_
      rw [hT.out]
      rintro e w3 ⟨rfl, rfl⟩
      go_wp2
      go_loopw [42] (fun s42 wr => ∃ (m : Nat) (ts : List FT), m ≤ T ∧ s42 = .int .i64 m ∧ Hid (AlikeI i wt m ts) ∧ Hid (FMem w.heap.size w F p ts wr)) (fun s42 _ => T - (intOf s42).toNat)
      case atStart => exact ⟨0, _, by omega, rfl, hA, hM⟩
      case round =>
        clear hA hM
        obtain ⟨m, ts, hm, rfl, hA, hM⟩ := hrel
        by_cases hlt2 : m < T
        · obtain ⟨y, y1, y2, y3⟩ := alike_first hA.out hk1 hw.1 hw.2
          have Y1 := hid y1
          have Y2 := hid y2
          have Y3 := hid y3
          clear y1 y2 y3
          go_wp2_with fail
          refine (ftick_at _ F p _ i ts (m % i) y ((m : Int) % (i : Int) + 1) hM.out.fair (by omega) (by omega) hA.out.inv Y1.out Y2.out Y3.out (by rw [Int.natCast_emod])).mono ?_
          rintro e w4 ⟨rfl, h4, c4⟩
          have hM2 := hid (hM.out.step h4 c4 (Grew.refl _ _))
          have hA2 := hid (alike_tick hA.out hk1)
          clear h4 c4
          have hmi := Nat.mod_lt m (show 0 < i by omega)
          have hmi2 : 0 ≤ (m : Int) % (i : Int) := Int.emod_nonneg _ (by omega)
          have hmi3 : (m : Int) % (i : Int) < (i : Int) := Int.emod_lt_of_pos _ (by omega)
          go_wp2
          go_roundw
          case rel => exact ⟨m + 1, _, by omega, by go_num, hA2, hM2⟩
          case measure => simp [intOf]; omega
        · go_wp2
          go_ret
          exact ⟨rfl, hM.out.bel⟩
end Go.Proofs.Ytpafafleepcjdaa
