/- The walk of the law WheelTurns: it returns true and changes nothing that was there. No condition. -/
import Derived.Test.YtaffkdoiooablaaWheelM
namespace Go.Proofs.Ytaffkdoiooablaa
open Go.ChangeShapes Go.WideShapes Go.ChangeAt Go.RowKit
set_option linter.unusedVariables false
set_option maxRecDepth 100000 in
set_option maxHeartbeats 4000000 in
theorem wheelTurns_walk (a0 a1 : Int) (a2 : Option Addr) (len2 cap2 : Nat) (z2 : List Int) (a3 : Option Addr) (len3 cap3 : Nat) (z3 : List Int) (w : World) (w0 : (Lit.int .u32 a0).wf = true) (w1 : (Lit.int .u32 a1).wf = true) (w2 : IsRow .i64 w a2 len2 cap2 z2) (w3 : IsRow .i64 w a3 len3 cap3 z3) :
    Calls Try.prog 7 #[.int .u32 a0, .int .u32 a1, .slice a2 len2 cap2, .slice a3 len3 cap3] w fun e w' => e = .returned (.bool true) ∧ Below w.heap.size w w' := by
  have hu0 : 0 ≤ a0 ∧ a0 < 4294967296 := by have := bounds_u32 w0; omega
  have hu1 : 0 ≤ a1 ∧ a1 < 4294967296 := by have := bounds_u32 w1; omega
  have hl1 := w2.1.1
  have hl2 := w2.1.2.1
  have hm1 := w3.1.1
  have hm2 := w3.1.2.1
  unfold maxLen at hl2 hm2
  have W2_ := hid w2.1
  have Z3 := hid w3.1.ilen
  have W3 := hid w3.1
  clear w0 w1 w2 w3
  go_enter Try.func7, Try.ntmps7
  go_wp2_with fail
  refine (wbegun_ok _).mono ?_
  rintro e w1 ⟨rfl, c1⟩
  have C1 := hid (Chg.below c1 (fun i hi h => h) (Nat.le_refl _))
  clear c1
  go_upto_region 3 with fail
  go_cut [2] (fun s2 wx => wx = w1 ∧ ∃ N : Nat, N ≤ 100 ∧ N ≤ len2 ∧ s2 = .slice a2 N cap2)
  case first =>
    go_wp2
    · go_meet
      exact ⟨rfl, 100, by omega, by omega, rfl⟩
    · go_meet
      exact ⟨rfl, len2, by omega, by omega, by simp⟩
  case rest =>
    obtain ⟨rfl, N, hN1, hN2, rfl⟩ := hcut
    have hR := (W2_.out.belowP C1.out (fun _ h => h)).take_n hN2
    rw [Nat.mul_one, ints_take] at hR
    have HR := hid hR
    clear hR W2_
    generalize z2.take N = z2 at HR
    go_wp2_with fail
    refine (timers_ok _ a0 hu0.1 hu0.2 _ _ _ z2 _ HR.out (by omega)).mono ?_
    rintro e w4 ⟨F1, p1, rfl, q1, q2, q3⟩
    replace q1 := hid q1
    replace q2 := hid q2
    replace q3 := hid q3
    go_wp2_with fail
    refine (timers_ok _ a1 hu1.1 hu1.2 _ _ _ z2 _ (HR.out.chg q2.out (fun _ _ _ h => h)) (by omega)).mono ?_
    rintro e w5 ⟨F2, p2, rfl, r1, r2, r3⟩
    have hW := hid (W2.start C1.out q1.out q2.out q3.out r1 r2 r3)
    have hN3 := bld_len z2 N
    have hSm := hid (bld_small z2 N)
    clear q1 q2 q3 r1 r2 r3 HR C1
    generalize bld z2 N = l at hW hN3 hSm
    go_upto_region 8 with fail
    go_cut [52, 53, 54] (fun s52 s53 s54 wx => wx = w5 ∧ ∃ M : Nat, M ≤ 50 ∧ M ≤ len3 ∧ s52 = .slice a3 M cap3 ∧ s53 = .int .i64 M ∧ s54 = .int .i64 0)
    case first =>
      go_wp2
      · go_meet
        exact ⟨rfl, 50, by omega, by omega, rfl, rfl, rfl⟩
      · go_meet
        exact ⟨rfl, len3, by omega, by omega, by simp, by simp, rfl⟩
    case rest =>
      obtain ⟨rfl, M, hM1, hM2, rfl, rfl, rfl⟩ := hcut
      go_wp2
      go_loopw [0, 1, 54] (fun s0 s1 s54 wr => ∃ (j e : Nat) (F1 F2 : Nat → Prop) (r : List RT), j ≤ M ∧ e ≤ 1000 * j ∧ s54 = .int .i64 j ∧ s0 = .int .u32 (nowOf a0 e) ∧ s1 = .int .u32 (nowOf a1 e) ∧ r.length ≤ 100 ∧ Hid (Small r) ∧ Hid (W2 w F1 p1 a0 e r F2 p2 a1 e r wr)) (fun _ _ s54 _ => M - (intOf s54).toNat)
      case atStart => exact ⟨0, 0, F1, F2, l, by omega, by omega, rfl, by rw [now_zero hu0.1 hu0.2], by rw [now_zero hu1.1 hu1.2], by omega, hSm, hW⟩
      case round =>
        clear hSm hW hN3
        obtain ⟨j, e, F1, F2, r, hj, he, rfl, rfl, rfl, hr, hSm, hW⟩ := hrel
        by_cases hlt : j < M
        · have hz : j < z3.length := by have := Z3.out; omega
          obtain ⟨g, off, rfl, _, _, hc⟩ := (W3.out.belowP hW.out.bel (fun _ h => h)).at hz
          have hc1 := hc j hz
          clear hc
          generalize z3[j] = z at hc1
          go_wp2_with fail
          refine (prest_nat _ 1000 _ (by omega) (by omega)).mono ?_
          rintro e' w6 ⟨n, hn, rfl, rfl⟩
          have ha1 := now_add a0 e n
          have ha2 := now_add a1 e n
          have hn1 := hid (rstep_ok wr F1 p1 a0 e (e + n) r hW.out.m1 (by omega) (by omega) (by omega) hSm.out)
          have hnm : (n : Int) % 4294967296 = n := by omega
          go_wp2_with fail
          refine hn1.out.mono ?_
          rintro e' w7 ⟨F1', oa1, oc1, G1, rfl, s1, s2, s3, s4, s5⟩
          have hW7 := hid (hW.out.step1 s1 s2 s3)
          have S4 := hid s4
          have S5 := hid s5
          clear s1 s2 s3 s4 s5 hn1
          have hn2 := hid (rstep_ok w7 F2 p2 a1 e (e + n) r hW7.out.m2 (by omega) (by omega) (by omega) hSm.out)
          go_wp2_with fail
          refine hn2.out.mono ?_
          rintro e' w8 ⟨F2', oa2, oc2, G2, rfl, s1, s2, s3, s4, s6⟩
          have hW8 := hid (hW7.out.step2 s1 s2 s3)
          have R1 := hid ((S4.out.chg s2 (fun g hg hf => by have := (S5.out g hg).1; have := WhAt.lt hW.out.m2 g hf; omega)).rd)
          have R2 := hid (s4.rd)
          clear s1 s2 s3 s4 s6 hn2 S4 S5
          have hr2 : (r.dropWhile (dueR (e + n))).length ≤ 100 := Nat.le_trans (dw_sub _ r).1 hr
          have htl : (r.takeWhile (dueR (e + n))).length ≤ 100 := Nat.le_trans (List.takeWhile_sublist _).length_le hr
          have hSm2 := hid (small_dw hSm.out (dueR (e + n)))
          generalize r.dropWhile (dueR (e + n)) = r2 at hW8 hr2 hSm2
          generalize r.takeWhile (dueR (e + n)) = d at R1 R2 htl
          cases r2 with
          | nil =>
            have HX1 := hid (rnext_none w8 F1' p1 a0 (e + n) hW8.out.m1)
            have HX2 := hid (rnext_none w8 F2' p2 a1 (e + n) hW8.out.m2)
            go_wp2_with fail
            refine HX1.out.mono ?_
            rintro e' w9 ⟨rfl, rfl⟩
            go_wp2_with fail
            refine HX2.out.mono ?_
            rintro e' w9 ⟨rfl, rfl⟩
            go_wp2_with fail
            refine (equal_int _ _ _ _ _ _ _ _ (idsR d) (idsR d) _ R1.out R2.out (by omega) (by omega)).mono ?_
            rw [eqI_true rfl]
            rintro e' w9 ⟨rfl, m, rfl⟩
            go_wp2
            go_roundw
            case rel => exact ⟨j + 1, e + n, F1', F2', [], by omega, by omega, by go_num, rfl, rfl, by simp, hSm2, hW8.out.nil ((Chg.refl _ _).drewN m)⟩
            case measure => simp [intOf]; omega
          | cons x r2 =>
            have HX1 := hid (rnext_ok w8 F1' p1 a0 (e + n) x r2 hW8.out.m1)
            have HX2 := hid (rnext_ok w8 F2' p2 a1 (e + n) x r2 hW8.out.m2)
            have hsub := now_sub a0 a1 x.k (e + n)
            go_wp2_with fail
            refine HX1.out.mono ?_
            rintro e' w9 ⟨rfl, rfl⟩
            go_wp2_with fail
            refine HX2.out.mono ?_
            rintro e' w9 ⟨rfl, rfl⟩
            go_wp2_with fail
            refine (equal_int _ _ _ _ _ _ _ _ (idsR d) (idsR d) _ R1.out R2.out (by omega) (by omega)).mono ?_
            rw [eqI_true rfl]
            rintro e' w9 ⟨rfl, m, rfl⟩
            go_wp2
            go_roundw
            case rel => exact ⟨j + 1, e + n, F1', F2', x :: r2, by omega, by omega, by go_num, rfl, rfl, hr2, hSm2, hW8.out.nil ((Chg.refl _ _).drewN m)⟩
            case measure => simp [intOf]; omega
        · go_wp2
          go_ret
          exact ⟨rfl, hW.out.bel⟩
end Go.Proofs.Ytaffkdoiooablaa
