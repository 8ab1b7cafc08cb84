/- The walk of the law SpinTurns: it returns true and changes nothing that was there. No condition. -/
import Derived.Test.YtnbojhmlgnfneaaSpinMore
import Derived.Deep.DeepCutAuto
namespace Go.Proofs.Ytnbojhmlgnfneaa
open Go.ChangeShapes Go.WideShapes Go.ChangeAt Go.RowKit
set_option linter.unusedVariables false
/-- Two locks with the same row, wherever their tickets began. -/
def TwoLocks (w0 : World) (p q : Nat) (a b : Int) (w : World) (row : List Nat) : Prop :=
  ∃ m : Int, 0 ≤ m ∧ LockAt w p ((a + m) % 65536) row ∧ LockAt w q ((b + m) % 65536) row ∧ Below w0.heap.size w0 w ∧ w0.heap.size ≤ p ∧ w0.heap.size ≤ q ∧ p ≠ q
set_option maxRecDepth 100000 in
set_option maxHeartbeats 1000000 in
theorem spinTurns_walk (a0 a1 : Int) (a2 : Option Addr) (len2 cap2 : Nat) (z2 : List Int) (w : World) (w0 : (Lit.int .u16 a0).wf = true) (w1 : (Lit.int .u16 a1).wf = true) (w2 : IsRow .i64 w a2 len2 cap2 z2) :
    Calls Try.prog 3 #[.int .u16 a0, .int .u16 a1, .slice a2 len2 cap2] w fun e w' => e = .returned (.bool true) ∧ Below w.heap.size w w' := by
  have b0 := bounds_u16 w0
  have b1 := bounds_u16 w1
  have hl1 := w2.1.1
  have hl2 := w2.1.2.1
  unfold maxLen at hl2
  have W2 := hid w2
  clear w2
  have rl0 := rest_nonneg len2 100 (by omega)
  have rl1 := rest_lt len2 100 (by omega)
  go_enter Try.func3, Try.ntmps3
  go_wp2_with fail
  refine (spinBegun_ok _).mono ?_
  rintro e w1 ⟨rfl, c1⟩
  go_wp2_with fail
  refine (newLock_ok a0 _ (by omega) (by omega)).mono ?_
  rintro e w2 ⟨p, rfl, h1, h2, h3⟩
  go_wp2_with fail
  refine (newLock_ok a1 _ (by omega) (by omega)).mono ?_
  rintro e w3 ⟨q, rfl, k1, k2, k3⟩
  have hI : TwoLocks w p q a0 a1 w3 [] := by
    have x1 := below_nil (Below.refl _ w) c1
    have x2 := below_nil x1 h2
    have x3 := below_nil x2 k2
    have := h1.lt
    have := c1.size
    have := h2.size
    refine ⟨0, by omega, ?_, ?_, x3, by omega, by omega, by omega⟩
    · rw [show (a0 + 0) % 65536 = a0 by omega]; exact h1.chg k2 (fun h => h)
    · rw [show (a1 + 0) % 65536 = a1 by omega]; exact k1
  replace hI := hid hI
  clear h1 h2 h3 k1 k2 k3 c1
  go_upto_region 4 with fail
  go_cut [26, 27, 28] (fun s26 s27 s28 wx => wx = w3 ∧ ∃ N : Nat, N ≤ 200 ∧ N ≤ len2 ∧ s26 = .slice a2 N cap2 ∧ s27 = .int .i64 N ∧ s28 = .int .i64 0)
  case first =>
    go_wp2
    · go_meet
      exact ⟨rfl, 200, by omega, by omega, rfl, rfl, rfl⟩
    · go_meet
      exact ⟨rfl, len2, by omega, by omega, by simp, by simp, rfl⟩
  case rest =>
    obtain ⟨rfl, N, hN1, hN2, rfl, rfl, rfl⟩ := hcut
    go_wp2
    go_loopw [28] (fun s28 wr => ∃ (k : Nat) (row : List Nat), k ≤ N ∧ s28 = .int .i64 k ∧ Hid (TwoLocks w p q a0 a1 wr row)) (fun s28 _ => N - (intOf s28).toNat)
    case atStart => exact ⟨0, [], Nat.zero_le _, rfl, hI⟩
    case round =>
      obtain ⟨k, row, hk, rfl, hJ⟩ := hrel
      clear hI
      obtain ⟨m, m0, i1, i2, i3, i4, i5, i6⟩ := id hJ.out
      by_cases hlt : k < N
      · have hz : k < z2.length := by have := W2.out.1.ilen; omega
        have HA : Rd wr (Upto w.heap.size) 1 a2 len2 cap2 (ints .i64 z2) := W2.out.1.chg (Chg.of_below i3 Nil) (fun _ _ _ h => h)
        obtain ⟨g, off, rfl, _, _, hc⟩ := HA.at hz
        have hc1 := hc k hz
        clear hc HA
        have r1 := rest_nonneg z2[k] 2 (by omega)
        have r2 := rest_lt z2[k] 2 (by omega)
        have r3 := rest_nonneg (wrap64 (z2[k].tdiv 2)) 4 (by omega)
        have r4 := rest_lt (wrap64 (z2[k].tdiv 2)) 4 (by omega)
        obtain ⟨i, hi⟩ := Int.eq_ofNat_of_zero_le r3
        have hi4 : i < 4 := by omega
        have HI := hid hi
        rw [hi] at r3 r4
        clear hi
        go_upto_if 37 with (first | (go_at_call 13; refine (rest_any _ _ _ (by omega) (by omega)).mono ?_; (first | rw [HI.out] | skip); rintro e w' ⟨rfl, rfl⟩))
        go_cut [11] (fun s11 wc => Hid (∃ row, TwoLocks w p q a0 a1 wc row))
        case first =>
          by_cases h2 : rest z2[k] 2 = 0
          · have hb2 : (rest z2[k] 2 == 0) = true := by rw [beq_iff_eq]; exact h2
            clear h2
            by_cases hm : i ∈ row
            · go_wp2_with fail
              refine (take_has i _ p _ row i1 hi4 hm).mono ?_
              rintro e w' ⟨rfl, rfl⟩
              go_wp2_with fail
              refine (take_has i _ q _ row i2 hi4 hm).mono ?_
              rintro e w' ⟨rfl, rfl⟩
              go_wp2
              go_meet
              exact ⟨row, hJ.out⟩
            · go_wp2_with fail
              refine (take_ok i _ p _ row i1 hi4 hm).mono ?_
              obtain ⟨n1, hn1⟩ : ∃ n1, n1 = ((a0 + m) % 65536 + row.length) % 65536 := ⟨_, rfl⟩
              obtain ⟨n2, hn2⟩ : ∃ n2, n2 = ((a1 + m) % 65536 + row.length) % 65536 := ⟨_, rfl⟩
              have hv : (IntKind.u16.wrap (n1 - a0) != IntKind.u16.wrap (n2 - a1)) = false := by rw [u16_wrap, u16_wrap, bne_eq_false_iff_eq]; omega
              have u1 : 0 ≤ n1 := by omega
              have u2 : n1 < 65536 := by omega
              have u3 : 0 ≤ n2 := by omega
              have u4 : n2 < 65536 := by omega
              rw [← hn1]
              replace hn1 := hid hn1
              replace hn2 := hid hn2
              rintro e w5 ⟨rfl, q1, q2⟩
              go_wp2_with fail
              refine (take_ok i _ q _ row (i2.chg q2 (fun h => i6 h.symm)) hi4 hm).mono ?_
              rw [← hn2.out]
              rintro e w6 ⟨rfl, y1, y2⟩
              go_wp2
              go_meet
              exact ⟨row ++ [i], m, m0, q1.chg y2 i6, y1, below_chg (below_chg i3 q2 (fun k h => by rw [show k = p from h]; exact i4)) y2 (fun k h => by rw [show k = q from h]; exact i5), i4, i5, i6⟩
          · have hb2 : (rest z2[k] 2 == 0) = false := by rw [beq_eq_false_iff_ne]; exact h2
            clear h2
            by_cases hm : row.head? = some i
            · cases row with
              | nil => simp at hm
              | cons x r =>
                obtain rfl : x = i := by simpa using hm
                go_wp2_with fail
                refine (free_ok x _ p _ r i1).mono ?_
                rintro e w5 ⟨rfl, q1, q2⟩
                go_wp2_with fail
                refine (free_ok x _ q _ r (i2.chg q2 (fun h => i6 h.symm))).mono ?_
                rintro e w6 ⟨rfl, y1, y2⟩
                go_wp2
                go_meet
                refine ⟨r, m + 1, by omega, ?_, ?_, below_chg (below_chg i3 q2 (fun k h => by rw [show k = p from h]; exact i4)) y2 (fun k h => by rw [show k = q from h]; exact i5), i4, i5, i6⟩
                · rw [show (a0 + (m + 1)) % 65536 = ((a0 + m) % 65536 + 1) % 65536 by omega]
                  exact q1.chg y2 i6
                · rw [show (a1 + (m + 1)) % 65536 = ((a1 + m) % 65536 + 1) % 65536 by omega]
                  exact y1
            · go_wp2_with fail
              refine (free_no i _ p _ row i1 hi4 hm).mono ?_
              rintro e w5 ⟨rfl, k1, rfl⟩
              go_wp2_with fail
              refine (free_no i _ q _ row (i2.chg ((Chg.refl Nil wr).drewN k1) (fun h => h)) hi4 hm).mono ?_
              rintro e w6 ⟨rfl, k2, rfl⟩
              go_wp2
              go_meet
              exact ⟨row, m, m0, i1, i2, below_nil i3 ((Chg.refl Nil wr).drewN (k1 + k2)), i4, i5, i6⟩
        case rest =>
          clear hJ i1 i2 i3 i4 i5 i6
          obtain ⟨row, m, m0, i1, i2, i3, i4, i5, i6⟩ := hcut
          go_wp2_with fail
          refine (row_any _ p _ row i1).mono ?_
          rintro e w5 ⟨a5, c5, G5, rfl, q1, q2, q3⟩
          go_wp2_with fail
          refine (row_any _ q _ row (i2.chg q2 (fun h => h))).mono ?_
          rintro e w6 ⟨a6, c6, G6, rfl, y1, y2, y3⟩
          have he : eqI (nats row) (nats row) = true := eqI_true rfl
          have hlen := i1.len
          go_wp2_with fail
          refine (equal_int _ _ _ _ _ _ _ _ _ _ _ (q1.chg y2 (fun _ _ h => h)).rd y1.rd (by omega) (by omega)).mono ?_
          rw [he]
          rintro e w7 ⟨rfl, kq, rfl⟩
          go_wp2
          go_roundw
          case rel => exact ⟨k + 1, row, by omega, by go_num, m, m0, ((i1.chg q2 (fun h => h)).chg y2 (fun h => h)).chg ((Chg.refl Nil w6).drewN kq) (fun h => h), ((i2.chg q2 (fun h => h)).chg y2 (fun h => h)).chg ((Chg.refl Nil w6).drewN kq) (fun h => h), below_nil (below_nil (below_nil i3 q2) y2) ((Chg.refl Nil w6).drewN kq), i4, i5, i6⟩
          case measure => simp [intOf]; omega
      · have hap : (((a0 + rest len2 100) % 65536 - a0 + 32768) % 65536 - 32768 == rest len2 100) = true := by rw [beq_iff_eq]; omega
        go_wp2_with (first | (go_at_call 13; refine (rest_any _ _ _ (by omega) (by omega)).mono ?_; rintro e w' ⟨rfl, rfl⟩) | (go_at_call 18; refine (apart_ok _ _ _ (by omega) (by omega) (by rw [u16_wrap]; omega) (by rw [u16_wrap]; omega)).mono ?_; rw [u16_wrap]; rintro e w' ⟨rfl, rfl⟩))
        go_ret
        exact ⟨rfl, i3⟩
end Go.Proofs.Ytnbojhmlgnfneaa
