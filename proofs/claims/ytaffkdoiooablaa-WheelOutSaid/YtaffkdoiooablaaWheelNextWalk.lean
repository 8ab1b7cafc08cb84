/- The walk of the law WheelNext: it returns true and changes nothing that was there. No condition. -/
import Derived.Test.YtaffkdoiooablaaWheelM
namespace Go.Proofs.Ytaffkdoiooablaa
open Go.ChangeShapes Go.WideShapes Go.ChangeAt Go.RowKit
set_option linter.unusedVariables false
/-- One wheel, apart from whatever was there. -/
structure W1 (w0 : World) (F : Nat → Prop) (p : Nat) (b : Int) (e : Nat) (r : List RT) (w : World) : Prop where
  m : WR w F p b e r
  n : ∀ k, F k → w0.heap.size ≤ k
  bel : Below w0.heap.size w0 w
theorem W1.step {w0 w w1 : World} {F F' : Nat → Prop} {p e e' : Nat} {b : Int} {r r' : List RT} (h : W1 w0 F p b e r w) (hd : WR w1 F' p b e' r') (hc : Chg F w w1) (hg : Grew w.heap.size F F') : W1 w0 F' p b e' r' w1 :=
  ⟨hd, fun k hk => (hg k hk).elim (h.n k) (fun k3 => Nat.le_trans h.bel.size k3), h.bel.trans (hc.below (fun i hi hf => by have := h.n i hf; omega) h.bel.size)⟩
theorem now_pred (b : Int) (k : Nat) (h : 1 ≤ k) : (nowOf b k - 1) % 4294967296 = nowOf b (k - 1) := by unfold nowOf; omega
theorem now_ne (b : Int) (k e : Nat) (hk : k < 2147483648) (he : e < 2147483648) (h : k ≠ e) : (nowOf b k != nowOf b e) = true := by
  rw [bne_iff_ne]; unfold nowOf; omega
/-- All that are left are no earlier than e. -/
def FromR (e : Nat) (r : List RT) : Prop := ∀ x ∈ r, e ≤ x.k
theorem from_dw {e k : Nat} {r : List RT} (hs : SortR r) (h : ∀ x ∈ r, x.k ≤ k ∨ k < x.k) : ∀ x ∈ r.dropWhile (dueR k), k < x.k := by
  induction r with
  | nil => intro x hx; cases hx
  | cons y r ih =>
    intro x hx
    cases hy : dueR k y
    · rw [List.dropWhile_cons_of_neg (by rw [hy]; simp)] at hx
      have h1 : k < y.k := by simpa [dueR] using hy
      rcases List.mem_cons.1 hx with h2 | h2
      · subst h2; exact h1
      · have := (List.pairwise_cons.1 hs).1 x h2; omega
    · rw [List.dropWhile_cons_of_pos hy] at hx
      exact ih (List.pairwise_cons.1 hs).2 (fun z hz => h z (List.mem_cons_of_mem _ hz)) x hx
theorem sort_dw {r : List RT} (hs : SortR r) (f : RT → Bool) : SortR (r.dropWhile f) := List.Pairwise.sublist (List.dropWhile_sublist f) hs
theorem tw_dw_len (f : RT → Bool) (r : List RT) : (r.takeWhile f).length + (r.dropWhile f).length = r.length := by
  have := congrArg List.length (List.takeWhile_append_dropWhile (p := f) (l := r))
  rwa [List.length_append] at this
set_option maxRecDepth 100000 in
set_option maxHeartbeats 1000000 in
theorem wheelNext_walk (a0 : Int) (a1 : Option Addr) (len1 cap1 : Nat) (z1 : List Int) (w : World) (w0 : (Lit.int .u32 a0).wf = true) (w1 : IsRow .i64 w a1 len1 cap1 z1) :
    Calls Try.prog 9 #[.int .u32 a0, .slice a1 len1 cap1] w fun e w' => e = .returned (.bool true) ∧ Below w.heap.size w w' := by
  have hu0 : 0 ≤ a0 ∧ a0 < 4294967296 := by have := bounds_u32 w0; omega
  have hl1 := w1.1.1
  have hl2 := w1.1.2.1
  unfold maxLen at hl2
  have W2_ := hid w1.1
  clear w0 w1
  go_enter Try.func9, Try.ntmps9
  go_wp2_with fail
  refine (wbegun_ok _).mono ?_
  rintro e w1 ⟨rfl, c1⟩
  have C1 := hid (Chg.below c1 (fun i hi h => h) (Nat.le_refl _))
  clear c1
  go_upto_region 3 with fail
  go_cut [1] (fun s1 wx => wx = w1 ∧ ∃ N : Nat, N ≤ 60 ∧ N ≤ len1 ∧ s1 = .slice a1 N cap1)
  case first =>
    go_wp2
    · go_meet
      exact ⟨rfl, 60, by omega, by omega, rfl⟩
    · go_meet
      exact ⟨rfl, len1, by omega, by omega, by simp⟩
  case rest =>
    obtain ⟨rfl, N, hN1, hN2, rfl⟩ := hcut
    have hR := (W2_.out.belowP C1.out (fun _ h => h)).take_n hN2
    rw [Nat.mul_one, ints_take] at hR
    have HR := hid hR
    clear hR W2_
    generalize z1.take N = z1 at HR
    go_wp2_with fail
    refine (timers_ok _ a0 hu0.1 hu0.2 _ _ _ z1 _ HR.out (by omega)).mono ?_
    rintro e w4 ⟨F1, p1, rfl, q1, q2, q3⟩
    have hW : Hid (W1 w F1 p1 a0 0 (bld z1 N) w4) := hid ⟨q1, fun k hk => (q3 k hk).elim (fun h => h.elim) (fun h => Nat.le_trans C1.out.size h), C1.out.trans (q2.below (fun i hi h => h) C1.out.size)⟩
    have hN3 := bld_len z1 N
    have hSm := hid (bld_small z1 N)
    have hSo := hid (bld_sort z1 N)
    clear q1 q2 q3 HR C1
    generalize bld z1 N = l at hW hN3 hSm hSo
    go_wp2
    go_loopw [0, 7, 31] (fun s0 s7 s31 wr => ∃ (j e d : Nat) (F : Nat → Prop) (r : List RT), s31 = .int .i64 j ∧ s0 = .int .u32 (nowOf a0 e) ∧ s7 = .int .i64 d ∧ d + r.length = N ∧ j + r.length ≤ N ∧ e < 2147483648 ∧ Hid (FromR e r) ∧ Hid (Small r) ∧ Hid (SortR r) ∧ Hid (W1 w F p1 a0 e r wr)) (fun _ _ s31 _ => N + 1 - (intOf s31).toNat)
    case atStart => exact ⟨0, 0, 0, F1, l, rfl, by rw [now_zero hu0.1 hu0.2], rfl, by omega, by omega, by omega, (fun x _ => Nat.zero_le _), hSm, hSo, hW⟩
    case round =>
      clear hSm hSo hW hN3
      obtain ⟨j, e, d, F, r, rfl, rfl, rfl, hd, hj, he, hFr, hSm, hSo, hW⟩ := hrel
      have hjN : (j : Int) < (N : Int) + 1 := by omega
      cases r with
      | nil =>
        have hdN : d = N := by simpa using hd
        have hdb : ((d : Int) == (N : Int)) = true := by rw [beq_iff_eq]; omega
        clear hdN hd
        go_wp2_with fail
        refine (rnext_none wr F p1 a0 e hW.out.m).mono ?_
        rintro e' w9 ⟨rfl, rfl⟩
        go_wp2
        go_ret
        exact ⟨rfl, hW.out.bel⟩
      | cons x r =>
        have hek := hFr.out x List.mem_cons_self
        have hxk := hSm.out x List.mem_cons_self
        have hlen : r.length + 1 ≤ 60 := by simp at hj; omega
        have HSt : Hid (∀ W F e1, W1 w F p1 a0 e1 (x :: r) W → e1 ≤ x.k → Calls Try.prog 34 #[.pointer (some ⟨p1, 0, none⟩), .int .u32 (nowOf a0 x.k)] W fun e w' => ∃ (F' : Nat → Prop) (oa : Option Addr) (oc D : Nat) (r' : List RT), e = .returned (.tuple #[.slice oa D oc, .int .i64 0]) ∧ 1 ≤ D ∧ D + r'.length = r.length + 1 ∧ FromR x.k r' ∧ Small r' ∧ SortR r' ∧ W1 w F' p1 a0 x.k r' w') := hid (fun W F e1 hW1 he1 => by
          refine (rstep_ok W F p1 a0 e1 x.k (x :: r) hW1.m (by simp; omega) he1 hxk hSm.out).mono ?_
          rintro e' w' ⟨F', oa, oc, G2, rfl, s1, s2, s3, _, _⟩
          have hdue : dueR x.k x = true := by simp [dueR]
          refine ⟨F', oa, oc, _, _, rfl, ?_, tw_dw_len (dueR x.k) (x :: r), fun y hy => Nat.le_of_lt (from_dw (e := e) hSo.out (fun y _ => by omega) y hy), small_dw hSm.out _, sort_dw hSo.out _, hW1.step s1 s2 s3⟩
          rw [List.takeWhile_cons_of_pos hdue]; simp)
        have hd2 : d + r.length + 1 = N := by simp at hd; omega
        have hj2 : j + r.length + 1 ≤ N := by simp at hj; omega
        clear hd hj
        go_wp2_with fail
        refine (rnext_ok wr F p1 a0 e x r hW.out.m).mono ?_
        rintro e' w9 ⟨rfl, rfl⟩
        by_cases hke : x.k = e
        · have hne : (nowOf a0 x.k != nowOf a0 e) = false := by rw [hke]; simp
          clear hke
          go_wp2_with fail
          refine (HSt.out wr F e hW.out hek).mono ?_
          rintro e' w6 ⟨F', oa, oc, D, r', rfl, hD, hDr, k1, k2, k3, k4⟩
          replace k1 := hid k1
          replace k2 := hid k2
          replace k3 := hid k3
          replace k4 := hid k4
          have hD0 : ((D : Int) == 0) = false := by rw [beq_eq_false_iff_ne]; omega
          go_wp2
          go_roundw
          case rel => exact ⟨j + 1, x.k, d + D, F', r', by go_num, rfl, by go_num, by omega, by omega, hxk, k1, k2, k3, k4⟩
          case measure => simp [intOf]; omega
        · have hne := now_ne a0 x.k e hxk he hke
          have hpr := now_pred a0 x.k (by omega)
          have HS0 : Hid (Calls Try.prog 34 #[.pointer (some ⟨p1, 0, none⟩), .int .u32 (nowOf a0 (x.k - 1))] wr fun e w' => ∃ (F' : Nat → Prop) (oa : Option Addr) (oc : Nat), e = .returned (.tuple #[.slice oa 0 oc, .int .i64 0]) ∧ W1 w F' p1 a0 (x.k - 1) (x :: r) w') := hid (by
            refine (rstep_ok wr F p1 a0 e (x.k - 1) (x :: r) hW.out.m (by simp; omega) (by omega) (by omega) hSm.out).mono ?_
            rintro e' w' ⟨F', oa, oc, G2, rfl, s1, s2, s3, _, _⟩
            have hnd : ¬ dueR (x.k - 1) x = true := by simp [dueR]; omega
            rw [List.dropWhile_cons_of_neg hnd] at s1
            refine ⟨F', oa, oc, ?_, hW.out.step s1 s2 s3⟩
            rw [List.takeWhile_cons_of_neg hnd]; rfl)
          go_wp2_with fail
          refine HS0.out.mono ?_
          rintro e' w5 ⟨F5, oa5, oc5, rfl, hW5⟩
          replace hW5 := hid hW5
          go_wp2_with fail
          refine (HSt.out w5 F5 (x.k - 1) hW5.out (by omega)).mono ?_
          rintro e' w6 ⟨F', oa, oc, D, r', rfl, hD, hDr, k1, k2, k3, k4⟩
          replace k1 := hid k1
          replace k2 := hid k2
          replace k3 := hid k3
          replace k4 := hid k4
          have hD0 : ((D : Int) == 0) = false := by rw [beq_eq_false_iff_ne]; omega
          go_wp2
          go_roundw
          case rel => exact ⟨j + 1, x.k, d + D, F', r', by go_num, rfl, by go_num, by omega, by omega, hxk, k1, k2, k3, k4⟩
          case measure => simp [intOf]; omega
end Go.Proofs.Ytaffkdoiooablaa
