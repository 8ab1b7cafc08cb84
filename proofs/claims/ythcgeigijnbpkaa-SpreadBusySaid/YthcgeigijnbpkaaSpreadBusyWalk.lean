/- The walk of the law SpreadBusy: it returns true and changes nothing that was there. No condition. -/
import Derived.Test.YthcgeigijnbpkaaSpreadTasksWalk
import Derived.Test.YthcgeigijnbpkaaBusP
namespace Go.Proofs.Ythcgeigijnbpkaa
open Go.ChangeShapes Go.WideShapes Go.ChangeAt Go.RowKit
set_option linter.unusedVariables false
/-- The run, its notes and the row of processors, in memory. -/
def BsM (w0 : World) (p b b2 : Nat) (s : SR) (o : Note) (k : Nat) (w : World) : Prop := RunX w0 [b2, b] p s w ∧ Blk w b 44 (noteC o) ∧ Blk w b2 42 (il17 (atF s k))
theorem at_zero : (#[.int .i64 0, .int .i64 0, .int .i64 0, .int .i64 0, .int .i64 0, .int .i64 0, .int .i64 0, .int .i64 0, .int .i64 0, .int .i64 0, .int .i64 0, .int .i64 0, .int .i64 0, .int .i64 0, .int .i64 0, .int .i64 0, .int .i64 0] : Array Value) = (il17 (fun _ => 0)).toArray := by kernel_rfl
theorem bsm_new {w0 w : World} {p b c : Nat} {M : Int} {s : SR} {o : Note} (h1 : RunX w0 [b] p s w) (h2 : Blk w b 44 (noteC o)) (h3 : PlS c M s o) : BsM w0 p b w.heap.size s o 0 (w.alloc (.cells #[.int .i64 0, .int .i64 0, .int .i64 0, .int .i64 0, .int .i64 0, .int .i64 0, .int .i64 0, .int .i64 0, .int .i64 0, .int .i64 0, .int .i64 0, .int .i64 0, .int .i64 0, .int .i64 0, .int .i64 0, .int .i64 0, .int .i64 0] 42)) := by
  refine ⟨h1.alloc _, h2.alloc _, ?_⟩
  rw [at_zero, show atF s 0 = (fun _ => 0) by funext t; exact atF_zero h3 t]
  exact Blk.new w _ _
theorem BsM.put {w0 w : World} {p b b2 : Nat} {s : SR} {o : Note} {k t : Nat} (h : BsM w0 p b b2 s o k w) (hne : b ≠ b2) (ht : t < 17) (he : upN (atF s k) t ((k : Int) + 1) = atF s (k + 1)) : BsM w0 p b b2 s o (k + 1) (w.setCell ⟨b2, t, none⟩ (.int .i64 ((k : Int) + 1))) := by
  obtain ⟨h1, h2, h3⟩ := h
  refine ⟨h1.put (by simp) _, h2.far (p := ⟨b2, t, none⟩) hne _, ?_⟩
  rw [← he, ← il17_set _ ht]
  exact h3.set t _
theorem shr_no (m k : Nat) (hm : m < 16) (hk : k < 4) : (bits .and .i64 ((m : Int) / 2 ^ k) 1 == 0) = !m.testBit k := mask_no m k hm hk
set_option maxRecDepth 100000 in
set_option maxHeartbeats 4000000 in
theorem spreadBusy_walk (a0 : Int) (a1 : Option Addr) (len1 cap1 : Nat) (z1 : List (List Int)) (w : World) (w0 : (Lit.int .i64 a0).wf = true) (w1 : IsRows .i64 w a1 len1 cap1 z1) :
    Calls Try.prog 8 #[.int .i64 a0, .slice a1 len1 cap1] w fun e w' => e = .returned (.bool true) ∧ Below w.heap.size w w' := by
  obtain ⟨hl0, hl1, hl2⟩ := w1.bd
  have W1 := hid w1
  clear w0 w1
  go_enter Try.func8, Try.ntmps8
  go_wp2_with fail
  refine (sbegun_ok _).mono ?_
  rintro e w1 ⟨rfl, c1⟩
  have B1 := hid (below_nil (Below.refl _ w) c1)
  clear c1
  go_wp2_with fail
  refine (rest_nat a0 4 _ (by omega) (by omega)).mono ?_
  rintro e w2 ⟨q, hq, rfl, rfl⟩
  go_upto_region 4 with fail
  obtain ⟨c, hc⟩ : ∃ c : Nat, c = q + 1 := ⟨_, rfl⟩
  have hcq : (1 : Int) + (q : Int) = (c : Int) := by omega
  rw [hcq]
  have hc1 : 1 ≤ c := by omega
  have hc4 : c ≤ 4 := by omega
  clear hcq hc hq
  go_wp2_with fail
  refine (rx_new B1.out c hc1 hc4).mono ?_
  rintro e w3 ⟨p, rfl, h1, _⟩
  have I0 := plm_new h1 hc1 hc4
  obtain ⟨b, hb⟩ : ∃ b, b = w3.heap.size := ⟨_, rfl⟩
  rw [← hb] at I0
  replace hb := hid hb
  replace I0 := hid I0
  clear h1 B1
  go_upto_region 8 with fail
  rw [← hb.out]
  generalize World.alloc w3 _ = w4 at I0 ⊢
  clear hb
  obtain ⟨wv, rfl⟩ : ∃ wv : World, wv = w4 := ⟨_, rfl⟩
  go_cut [36, 37, 38] (fun s36 s37 s38 wx => wx = wv ∧ ∃ N : Nat, N ≤ 200 ∧ N ≤ len1 ∧ s36 = .slice a1 N cap1 ∧ s37 = .int .i64 N ∧ s38 = .int .i64 0)
  case first =>
    go_wp2
    · go_meet
      exact ⟨rfl, 200, by omega, by omega, rfl, rfl, rfl⟩
    · go_meet
      exact ⟨rfl, len1, by omega, by omega, by simp, by simp, rfl⟩
  case rest =>
  obtain ⟨rfl, N, hN1, hN2, rfl, rfl, rfl⟩ := hcut
  go_wp2
  go_loopw [38] (fun s38 wr => ∃ k : Nat, k ≤ N ∧ s38 = .int .i64 k ∧ Hid (PlM w p b c k wr)) (fun s38 _ => N - (intOf s38).toNat)
  case atStart => exact ⟨0, by omega, rfl, I0⟩
  case round =>
    clear I0
    obtain ⟨k, hk, rfl, hJ⟩ := hrel
    by_cases hlt : k < N
    · obtain ⟨g, off, ar, nr, cr, rfl, hcr, z, hz, hz1, hz2, hz3⟩ := W1.out.row hJ.out.bel k (by omega)
      by_cases h3 : nr < 3
      · have h3' : (nr : Int) < 3 := by omega
        have hJ2 : Hid (PlM w p b c ((k : Int) + 1) wr) := by
          obtain ⟨s, o, j1, j2, j3⟩ := hJ.out
          exact ⟨s, o, j1, j2, j3.same⟩
        clear hz hJ
        go_wp2
        go_roundw
        case rel => exact ⟨k + 1, by omega, by go_num, hJ2⟩
        case measure => simp [intOf]; omega
      · have h3' : (3 : Int) ≤ (nr : Int) := by omega
        have PL := hid (play_ok w _ p b c k ar nr cr z wr hJ.out (by omega) hz (by omega) hc4)
        clear hz hJ
        obtain ⟨wo, hwo⟩ : ∃ wo : World, wo = wr := ⟨_, rfl⟩
        subst hwo
        go_wp2_with fail
        refine PL.out.mono ?_
        rintro e w5 ⟨rfl, s, o, j1, j2, j3⟩
        have J3 := hid j3
        have I1 := bsm_new j1 j2 j3
        have hbl := j2.lt
        obtain ⟨b2, hb2⟩ : ∃ b2, b2 = w5.heap.size := ⟨_, rfl⟩
        have hne : b ≠ b2 := by omega
        rw [← hb2] at I1
        replace I1 := hid I1
        replace hb2 := hid hb2
        clear j1 j2 j3 PL hbl
        go_upto_region 14 with fail
        rw [← hb2.out]
        generalize World.alloc w5 _ = w6 at I1 ⊢
        clear hb2
        go_wp2
        go_loopw [11, 50] (fun s11 s50 wr => ∃ j : Nat, j ≤ c ∧ s11 = .int .i64 (idK s j : Nat) ∧ s50 = .int .i64 (j : Int) ∧ Hid (BsM w p b b2 s o j wr)) (fun _ s50 _ => c - (intOf s50).toNat)
        case atStart => exact ⟨0, by omega, rfl, rfl, I1⟩
        case round =>
          clear I1
          obtain ⟨j, hj, rfl, rfl, hK⟩ := hrel
          have hi16 : idK s j < 16 := Nat.lt_of_lt_of_le (idK_lt s j) (Nat.pow_le_pow_right (n := 2) (by omega) (show j ≤ 4 by omega))
          by_cases hjc : j < c
          · obtain ⟨k1, k2, k3⟩ := id hK.out
            have PK := rx_pick k1 J3.out.ok j (by rw [J3.out.nn]; exact hjc)
            cases hon : onI s.ts (j : Int) with
            | none =>
              rw [pick_none hon] at PK
              have e1 := idK_none hon
              have e2 := bus_idle J3.out hon
              have e3 := or_bit4 (idK s j) j hi16 (by omega)
              have K2 : Hid (BsM w p b b2 s o (j + 1) wr) := hid ⟨k1, k2, by rw [e2]; exact k3⟩
              replace PK := hid PK
              replace e1 := hid e1
              clear hon k1 k2 k3 e2 hK
              have P1 : (1 : Int) ≤ 2 ^ j := by exact_mod_cast (Nat.one_le_two_pow : 1 ≤ 2 ^ j)
              have P2 : (2 : Int) ^ j ≤ 8 := by exact_mod_cast (Nat.pow_le_pow_right (n := 2) (by omega) (show j ≤ 3 by omega) : 2 ^ j ≤ 2 ^ 3)
              go_wp2_with fail
              refine PK.out.mono ?_
              rintro e w7 ⟨rfl, hw⟩
              subst hw
              go_wp2
              go_roundw
              case rel => exact ⟨j + 1, by omega, by rw [e1.out], by go_num, K2⟩
              case measure => simp [intOf]; omega
            | some i =>
              obtain ⟨t, t1, t2, e1, e2, e3, ⟨m, m1, m2, m3⟩, e4, e5⟩ := bus_run J3.out hon
              rw [e1] at PK
              have ek := idK_some hon
              have g0 := k2.cell t
              rw [note_is o (by omega), e2] at g0
              have g1 := k2.cell (17 + t)
              rw [note_rd o (by omega), e3] at g1
              have g4 := k2.cell (68 + t)
              rw [note_pn o (by omega), m2] at g4
              have a0 := k3.cell t
              rw [il17_get _ (by omega), e4] at a0
              have f0 := k3.frozen t
              have hmk := shr_no m j m1 (by omega)
              rw [m3] at hmk
              have K2 : Hid (BsM w p b b2 s o (j + 1) (wr.setCell ⟨b2, t, none⟩ (.int .i64 ((j : Int) + 1)))) := hid (hK.out.put hne (by omega) e5)
              replace PK := hid PK
              replace ek := hid ek
              clear hon k1 k2 k3 hK e1 e2 e3 m2 m3 e4 e5
              have tI : (t : Int) < 17 := by omega
              have tJ : (1 : Int) ≤ (t : Int) := by omega
              have tK : (t : Int) ≤ 16 := by omega
              go_wp2_with fail
              refine PK.out.mono ?_
              rintro e w7 ⟨rfl, hw⟩
              subst hw
              go_wp2
              go_roundw
              case rel => exact ⟨j + 1, by omega, by rw [ek.out], by go_num, K2⟩
              case measure => simp [intOf]; omega
          · obtain rfl : j = c := by omega
            have hJ4 : Hid (PlM w p b j ((k : Int) + 1) wr) := by
              obtain ⟨k1, k2, k3⟩ := hK.out
              exact ⟨s, o, k1.less (by simp), k2, J3.out⟩
            obtain ⟨k1, k2, k3⟩ := id hK.out
            have K2 := hid k2
            have K3 := hid k3
            clear k1 k2 k3 hK
            obtain ⟨ii, hii⟩ : ∃ ii, ii = idK s j := ⟨_, rfl⟩
            have HII := hid hii
            rw [← hii] at hi16 ⊢
            clear hii
            obtain ⟨wu, hwu⟩ : ∃ wu : World, wu = wr := ⟨_, rfl⟩
            subst hwu
            go_wp2
            go_loop [110] (fun s110 => ∃ t : Nat, t ≤ 17 ∧ s110 = .int .i64 (t : Int)) (fun s110 => 17 - (intOf s110).toNat)
            case atStart => exact ⟨0, by omega, rfl⟩
            case round =>
              obtain ⟨t, ht, rfl⟩ := hrel
              by_cases ht17 : t < 17
              · have g0 := K2.out.cell t
                rw [note_is o ht17] at g0
                have g1 := K2.out.cell (17 + t)
                rw [note_rd o ht17] at g1
                have g2 := K2.out.cell (34 + t)
                rw [note_dd o ht17] at g2
                have g3 := K2.out.cell (51 + t)
                rw [note_mo o ht17] at g3
                have g4 := K2.out.cell (68 + t)
                rw [note_pn o ht17] at g4
                have a0 := K3.out.cell t
                rw [il17_get _ ht17] at a0
                have tI : (t : Int) < 17 := by omega
                cases hi : o.is t with
                | false =>
                  rw [hi] at g0
                  clear hi
                  go_wp2
                  go_round
                  case rel => exact ⟨t + 1, by omega, by go_num⟩
                  case measure => simp [intOf]; omega
                | true =>
                  rw [hi] at g0
                  have ht1 : 1 ≤ t := by
                    cases t with
                    | zero => rw [J3.out.z] at hi; cases hi
                    | succ t => omega
                  cases hr : o.rd t with
                  | false =>
                    rw [hr] at g1
                    clear hi hr
                    go_wp2
                    go_round
                    case rel => exact ⟨t + 1, by omega, by go_num⟩
                    case measure => simp [intOf]; omega
                  | true =>
                    rw [hr] at g1
                    by_cases ha : atF s j t = 0
                    · rw [ha] at a0
                      cases hd : o.dd t with
                      | false =>
                        rw [hd] at g2
                        obtain ⟨m, m1, m2, m3⟩ := bus_full J3.out ht1 (by omega) hi hr ha (.inl hd)
                        rw [m2] at g4
                        rw [← HII.out] at m3
                        clear hi hr ha hd m2
                        go_wp2
                        go_round
                        case rel => exact ⟨t + 1, by omega, by go_num⟩
                        case measure => simp [intOf]; omega
                      | true =>
                        rw [hd] at g2
                        cases hm : o.mo t with
                        | false =>
                          rw [hm] at g3
                          clear hi hr ha hd hm
                          go_wp2
                          go_round
                          case rel => exact ⟨t + 1, by omega, by go_num⟩
                          case measure => simp [intOf]; omega
                        | true =>
                          rw [hm] at g3
                          obtain ⟨m, m1, m2, m3⟩ := bus_full J3.out ht1 (by omega) hi hr ha (.inr hm)
                          rw [m2] at g4
                          rw [← HII.out] at m3
                          clear hi hr ha hd hm m2
                          go_wp2
                          go_round
                          case rel => exact ⟨t + 1, by omega, by go_num⟩
                          case measure => simp [intOf]; omega
                    · obtain ⟨A, hA⟩ : ∃ A, A = atF s j t := ⟨_, rfl⟩
                      rw [← hA] at a0 ha
                      have ha2 : (A == 0) = false := by rw [beq_eq_false_iff_ne]; exact ha
                      clear hi hr hA
                      go_wp2
                      go_round
                      case rel => exact ⟨t + 1, by omega, by go_num⟩
                      case measure => simp [intOf]; omega
              · obtain rfl : t = 17 := by omega
                go_wp2
                go_roundw
                case rel => exact ⟨k + 1, by omega, by go_num, hJ4⟩
                case measure => simp [intOf]; omega
    · obtain rfl : k = N := by omega
      go_wp2
      go_ret
      exact ⟨rfl, hJ.out.bel⟩
end Go.Proofs.Ythcgeigijnbpkaa
