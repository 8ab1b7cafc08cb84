/- The walk of the law WheelOut: it returns true and changes nothing that was there. No condition. -/
import Derived.Test.YtaffkdoiooablaaWheelStepsWalk
import Derived.Test.YtaffkdoiooablaaWheelBoundsWalk
import Derived.Test.YtaffkdoiooablaaWheelO
import Derived.Test.YtaffkdoiooablaaWheelD
namespace Go.Proofs.Ytaffkdoiooablaa
open Go.ChangeShapes Go.WideShapes Go.ChangeAt Go.RowKit
set_option linter.unusedVariables false
set_option maxRecDepth 100000 in
set_option maxHeartbeats 2000000 in
theorem wheelOut_walk (a0 : Int) (a1 : Option Addr) (len1 cap1 : Nat) (z1 : List Int) (a2 : Int) (w : World) (w0 : (Lit.int .u32 a0).wf = true) (w1 : IsRow .i64 w a1 len1 cap1 z1) (w2 : (Lit.int .i64 a2).wf = true) :
    Calls Try.prog 11 #[.int .u32 a0, .slice a1 len1 cap1, .int .i64 a2] w fun e w' => e = .returned (.bool true) ∧ Below w.heap.size w w' := by
  have hu0 : 0 ≤ a0 ∧ a0 < 4294967296 := by have := bounds_u32 w0; omega
  have hl1 := w1.1.1
  have hl2 := w1.1.2.1
  unfold maxLen at hl2
  have W1_ := hid w1.1
  have hA := (Chg.refl Nil w).alloc (.cells #[.int .i64 a2] 3)
  have HA := hid hA
  have HBX := hid (Blk.new w 3 [.int .i64 a2])
  clear w0 w1 w2 hA
  go_enter Try.func11, Try.ntmps11
  go_wp2_with fail
  refine (wbegun_ok _).mono ?_
  rintro e w1 ⟨rfl, c1⟩
  have HB1 := hid (HBX.out.chg c1 (fun h => h))
  have C1 := hid (Chg.below (HA.out.trans c1 (fun _ _ h => h)) (fun i hi h => h) (Nat.le_refl _))
  clear c1 HA HBX
  go_upto_region 3 with fail
  go_cut [1] (fun s1 wx => wx = w1 ∧ ∃ N : Nat, N ≤ 100 ∧ N ≤ len1 ∧ s1 = .slice a1 N cap1)
  case first =>
    go_wp2
    · go_meet
      exact ⟨rfl, 100, by omega, by omega, rfl⟩
    · go_meet
      exact ⟨rfl, len1, by omega, by omega, by simp⟩
  case rest =>
    obtain ⟨rfl, N, hN1, hN2, rfl⟩ := hcut
    have hR := W1_.out.take_n hN2
    rw [Nat.mul_one, ints_take] at hR
    have HR := hid (hR.belowP C1.out (fun _ h => h))
    clear hR W1_
    generalize z1.take N = z1 at HR
    go_wp2_with fail
    refine (timers_ok _ a0 hu0.1 hu0.2 _ _ _ z1 _ HR.out (by omega)).mono ?_
    rintro e w4 ⟨F1, p1, rfl, q1, q2, q3⟩
    replace q1 := hid q1
    replace q2 := hid q2
    replace q3 := hid q3
    go_wp2_with fail
    refine (timers_ok _ a0 hu0.1 hu0.2 _ _ _ z1 _ (HR.out.chg q2.out (fun _ _ _ h => h)) (by omega)).mono ?_
    rintro e w5 ⟨F2, p2, rfl, r1, r2, r3⟩
    have hW := hid (W2.start C1.out q1.out q2.out q3.out r1 r2 r3)
    have HB5 := hid ((HB1.out.chg q2.out (fun h => h)).chg r2 (fun h => h))
    have HNB1 : Hid (¬ F1 w.heap.size) := hid (fun hh => (q3.out _ hh).elim (fun h => h) (fun h => by have := HB1.out.lt; omega))
    have HNB2 : Hid (¬ F2 w.heap.size) := hid (fun hh => (r3 _ hh).elim (fun h => h) (fun h => by have := HB1.out.lt; have := q2.out.size; omega))
    have HN3 := hid (bld_len z1 N)
    have hSm := hid (bld_small z1 N)
    have hKm : Hid (∀ x ∈ bld z1 N, x.k ≤ 5000) := hid (fun x hx => by
      obtain ⟨i, _, rfl⟩ := (bld_mem z1 x N).1 hx
      have := kOf_lt z1 i
      show kOf z1 i ≤ 5000
      omega)
    have hMe : Hid (∀ i, i < N → ((i : Nat) : Int) ∈ idsR (bld z1 N)) := hid (fun i hi => List.mem_map.2 ⟨⟨kOf z1 i, i⟩, (bld_mem z1 _ N).2 ⟨i, hi, rfl⟩, rfl⟩)
    have hNd := hid (bld_nodup z1 N)
    clear q1 q2 q3 r1 r2 r3 HR C1 HB1
    generalize bld z1 N = l at hW HN3 hSm hKm hMe hNd
    have hx1 := HB5.out.cell 0
    have hx2 := HB5.out.frozen 0
    simp only [List.getElem?_cons_zero] at hx1
    by_cases hN0 : N = 0
    · subst hN0
      have hl0 : l = [] := List.eq_nil_of_length_eq_zero HN3.out
      have HO := hid (rout_none w5 F1 p1 a0 0 l a2 hW.out.m1 (by rw [hl0]; decide) (by rw [hl0]; simp [idsR]))
      clear hl0
      go_wp2_with fail
      refine HO.out.mono ?_
      rintro e w6 ⟨rfl, c6⟩
      have hW6 := hid (hW.out.nil c6)
      clear c6
      go_wp2
      go_ret
      exact ⟨rfl, hW6.out.bel⟩
    · have hNb : ((N : Int) == 0) = false := by rw [beq_eq_false_iff_ne]; omega
      go_wp2_with fail
      refine (prest_nat _ (N : Int) _ (by omega) (by omega)).mono ?_
      rintro e w6 ⟨i, hi, rfl, rfl⟩
      obtain ⟨w6, hw6⟩ : ∃ w6, w6 = w5.setCell ⟨w.heap.size, 0, none⟩ (.int .i64 (i : Int)) := ⟨_, rfl⟩
      have hW6 : Hid (W2 w F1 p1 a0 0 l F2 p2 a0 0 l w6) := hid (by
        rw [hw6]
        exact hW.out.far ((Chg.refl (One w.heap.size) w5).setCell (p := ⟨w.heap.size, 0, none⟩) (.inl rfl) _) (fun k k1 k2 => HNB1.out (by rw [← show k = w.heap.size from k2]; exact k1)) (fun k k1 k2 => HNB2.out (by rw [← show k = w.heap.size from k2]; exact k1)) (fun k hk => by rw [show k = w.heap.size from hk]; exact Nat.le_refl _))
      have HB6 : Hid (Blk w6 w.heap.size 3 [.int .i64 (i : Int)]) := hid (by rw [hw6]; exact HB5.out.set 0 _)
      obtain ⟨k, hk1, hk, hkt, _⟩ := idxI_split (idsR l) (i : Int) (hMe.out i (by omega))
      have hkl : k < l.length := by simpa [idsR] using hk
      obtain ⟨hkc, hnc⟩ := keep_cut (idsR l) (i : Int) k hNd.out hk hkt
      rw [← ids_cut] at hkc hnc
      have HKC := hid hkc
      have HNC := hid hnc
      have HK1 := hid hk1
      clear hk1 hk hkt hkc hnc
      have HO1 := hid (rout_ok w6 F1 p1 a0 0 l (i : Int) k hW6.out.m1 (by have := HN3.out; omega) hkl HK1.out)
      go_wp2_with fail
      rw [← hw6]
      clear hw6 hx1 hx2
      refine HO1.out.mono ?_
      rintro e w7 ⟨F1', rfl, s1, s2, s3⟩
      have hW7 := hid (hW6.out.step1 s1 s2 s3)
      have HB7 := hid (HB6.out.chg s2 HNB1.out)
      have HNB7 : Hid (¬ F1' w.heap.size) := hid (fun hh => (s3 _ hh).elim HNB1.out (fun h => by have := HB6.out.lt; omega))
      have hx1 := HB7.out.cell 0
      simp only [List.getElem?_cons_zero] at hx1
      have hcl : (cutAt l k).length = N - 1 := by rw [cutAt_len l k hkl, HN3.out]
      have HO2 := hid (rout_none w7 F1' p1 a0 0 (cutAt l k) (i : Int) hW7.out.m1 (by omega) HNC.out)
      clear s1 s2 s3 HO1 hW6 HB6
      go_wp2_with fail
      refine HO2.out.mono ?_
      rintro e w8 ⟨rfl, c8⟩
      have hW8 := hid (hW7.out.nil c8)
      have HB8 := hid (HB7.out.chg c8 (fun h => h))
      clear c8 HO2 hW7 HB7 hx1
      have hcm : ∀ x ∈ cutAt l k, x ∈ l := fun x hx => (List.mem_append.1 hx).elim (fun h => List.mem_of_mem_take h) (fun h => List.mem_of_mem_drop h)
      have H9 := rstep_ok w8 F1' p1 a0 0 5000 (cutAt l k) hW8.out.m1 (by omega) (by omega) (by omega) (fun x hx => hSm.out x (hcm x hx))
      unfold RStep at H9
      rw [all_due (fun x hx => hKm.out x (hcm x hx)), hcl] at H9
      replace H9 := hid H9
      have h5000 : (a0 + 5000) % 4294967296 = nowOf a0 5000 := rfl
      clear hcm
      go_wp2_with fail
      refine H9.out.mono ?_
      rintro e w9 ⟨F9, oa9, oc9, G9, rfl, s1, s2, s3, s4, s5⟩
      have hW9 := hid (hW8.out.step1 s1 s2 s3)
      have HB9 := hid (HB8.out.chg s2 HNB7.out)
      have S9 := hid s4
      have N9 := hid s5
      have H10 := rstep_ok w9 F2 p2 a0 0 5000 l hW9.out.m2 (by have := HN3.out; omega) (by omega) (by omega) hSm.out
      unfold RStep at H10
      rw [all_due hKm.out, HN3.out] at H10
      replace H10 := hid H10
      have HF2 := hid (WhAt.lt hW8.out.m2)
      clear s1 s2 s3 s4 s5 H9 hW8 HB8
      go_wp2_with fail
      refine H10.out.mono ?_
      rintro e w10 ⟨F10, oa10, oc10, G10, rfl, s1, s2, s3, s4, s5⟩
      have hW10 := hid (hW9.out.step2 s1 s2 s3)
      have HB10 := hid (HB9.out.chg s2 HNB2.out)
      have S9b := hid (S9.out.chg s2 (fun g hg hf => by have := (N9.out g hg).1; have := HF2.out g hf; omega))
      have S10 := hid s4.rd
      clear s1 s2 s3 s4 s5 H10 hW9 HB9
      go_wp2_with fail
      refine (clone_int _ _ _ _ _ _ S10.out (ints_one _ _) (by omega)).mono ?_
      rintro e w11 ⟨a11, c11, G11, rfl, t1, t2, t3⟩
      have HB11 := hid (HB10.out.chg t2 (fun h => h))
      have hB11 := hid (hW10.out.bel.trans (t2.below (fun i hi h => h) hW10.out.bel.size))
      have S11 := hid t1
      have N11 := hid t3
      have S9c := hid (S9b.out.chg t2 (fun _ _ h => h))
      have HDL := hid (wdel a11 N c11 w.heap.size G11 (idsR l) (i : Int) w11 t1 (by omega) (HB11.out.cell 0) (fun hh => by have := t3 _ hh; have := HB10.out.lt; omega) (hMe.out i (by omega)))
      have HLT9 := hid (fun g (hg : G9 = some g) => S9b.out.lt g hg)
      clear t1 t2 t3
      go_wp2_with fail
      refine HDL.out.mono ?_
      rintro e w12 ⟨rfl, u1, u2⟩
      rw [HKC.out] at u1
      have hB12 := hid (hB11.out.trans (u2.below (fun k hk h => by have := N11.out k h; have := hW10.out.bel.size; omega) hB11.out.size))
      have R2 := hid u1.rd
      have R1 := hid ((S9c.out.chg u2 (fun g hg h => by have := N11.out g h; have := HLT9.out g hg; omega)).rd)
      have hkn : (idsR (cutAt l k)).length ≤ 100 := by simp [idsR]; omega
      rw [HKC.out]
      clear u1 u2 HDL
      go_wp2_with fail
      refine (equal_int _ _ _ _ _ _ _ _ (idsR (cutAt l k)) (idsR (cutAt l k)) _ R1.out R2.out (by omega) (by omega)).mono ?_
      rw [eqI_true rfl]
      rintro e' w13 ⟨rfl, m, rfl⟩
      go_wp2
      go_ret
      exact ⟨rfl, hB12.out.trans (((Chg.refl Nil w12).drewN m).below (fun i hi h => h) hB12.out.size)⟩
end Go.Proofs.Ytaffkdoiooablaa
