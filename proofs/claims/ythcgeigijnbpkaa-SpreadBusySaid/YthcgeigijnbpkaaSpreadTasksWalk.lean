/- The walk of the law SpreadTasks: it returns true and changes nothing that was there. No condition. -/
import Derived.Test.YthcgeigijnbpkaaPlayW
import Derived.Test.YthcgeigijnbpkaaTasP
namespace Go.Proofs.Ythcgeigijnbpkaa
open Go.ChangeShapes Go.WideShapes Go.ChangeAt Go.RowKit
set_option linter.unusedVariables false
/-- The run, its notes and the row of numbers, in memory. -/
def TsM (w0 : World) (p b c : Nat) (M : Int) (s : SR) (o : Note) (a : Option Addr) (n ca : Nat) (w : World) : Prop := RunX w0 [b] p s w ∧ Blk w b 44 (noteC o) ∧ ∃ R, Rd w R 1 a n ca (ints .i64 (tasK s 16))
theorem TsM.drewN {w0 w : World} {p b c : Nat} {M : Int} {s : SR} {o : Note} {a : Option Addr} {n ca : Nat} (h : TsM w0 p b c M s o a n ca w) (q : Nat) : TsM w0 p b c M s o a n ca (w.drewN q) := by
  obtain ⟨h1, h2, R, h3⟩ := h
  exact ⟨h1.drewN q, h2.drewN q, R, h3.drewN q⟩
theorem PlM.bel {w0 w : World} {p b c : Nat} {M : Int} (h : PlM w0 p b c M w) : Below w0.heap.size w0 w := by
  obtain ⟨s, o, h1, _⟩ := h
  exact h1.bel
theorem pls_new (c : Nat) (h1 : 1 ≤ c) (h4 : c ≤ 4) : PlS c 0 ⟨c, 0, 0, []⟩ ⟨fun _ => false, fun _ => false, fun _ => false, fun _ => false, fun _ => 0⟩ := by
  refine ⟨?_, note_new, ?_, new_ok c h1 h4, rfl, rfl⟩
  · exact inv_new c
  · intro x hx; cases hx
def noNote : Note := ⟨fun _ => false, fun _ => false, fun _ => false, fun _ => false, fun _ => 0⟩
theorem note_zero : Try.zeroCells44 = (noteC noNote).toArray := by kernel_rfl
theorem plm_new {w0 w : World} {p c : Nat} (h : RunX w0 [] p ⟨c, 0, 0, []⟩ w) (h1 : 1 ≤ c) (h4 : c ≤ 4) : PlM w0 p w.heap.size c 0 (w.alloc (.cells Try.zeroCells44 44)) := by
  refine ⟨_, noNote, h.alloc _, ?_, pls_new c h1 h4⟩
  rw [note_zero]
  exact Blk.new w _ _
theorem contains_t (R : Nat → Prop) (a : Option Addr) (n c : Nat) (l : List Int) (t : Int) (w : World) (h : Rd w R 1 a n c (ints .i64 l)) (hn : n ≤ 4294967296) :
    Calls Try.prog 28 #[.slice a n c, .int .i64 t] w fun e w' => e = .returned (.bool (hasI l t)) ∧ w' = w :=
  (contains_int R a n c l t w h hn).mono (by rintro e w' ⟨rfl, rfl⟩; exact ⟨rfl, rfl⟩)
theorem sorted_t (R : Nat → Prop) (a : Option Addr) (n c : Nat) (l : List Int) (w : World) (h : Rd w R 1 a n c (ints .i64 l)) (hn : n ≤ 4294967296) (hs : ∀ j (h : j + 1 < l.length), l[j] ≤ l[j + 1]) :
    Calls Try.prog 29 #[.slice a n c] w fun e w' => e = .returned (.bool true) ∧ ∃ k, w' = w.drewN k := isSorted_yes R a n c l w h hn hs
theorem below_drewN {N : Nat} {w0 w : World} (h : Below w0.heap.size w0 w) (q : Nat) : Below w0.heap.size w0 (w.drewN q) := below_nil h ((Chg.refl Nil w).drewN q)
set_option maxRecDepth 100000 in
set_option maxHeartbeats 2000000 in
theorem spreadTasks_walk (a0 : Int) (a1 : Option Addr) (len1 cap1 : Nat) (z1 : List (List Int)) (w : World) (w0 : (Lit.int .i64 a0).wf = true) (w1 : IsRows .i64 w a1 len1 cap1 z1) :
    Calls Try.prog 9 #[.int .i64 a0, .slice a1 len1 cap1] w fun e w' => e = .returned (.bool true) ∧ Below w.heap.size w w' := by
  obtain ⟨hl0, hl1, hl2⟩ := w1.bd
  have W1 := hid w1
  clear w0 w1
  go_enter Try.func9, Try.ntmps9
  go_wp2_with fail
  refine (sbegun_ok _).mono ?_
  rintro e w1 ⟨rfl, c1⟩
  have B1 := hid (below_nil (Below.refl _ w) c1)
  clear c1
  go_wp2_with fail
  refine (rest_nat a0 4 _ (by omega) (by omega)).mono ?_
  rintro e w2 ⟨q, hq, rfl, rfl⟩
  go_upto_region 4 with fail
  obtain ⟨c, hc⟩ : ∃ c : Nat, c = q + 1 := ⟨_, rfl⟩
  have hcq : (1 : Int) + (q : Int) = (c : Int) := by omega
  rw [hcq]
  have hc1 : 1 ≤ c := by omega
  have hc4 : c ≤ 4 := by omega
  clear hcq hc hq
  go_wp2_with fail
  refine (rx_new B1.out c hc1 hc4).mono ?_
  rintro e w3 ⟨p, rfl, h1, _⟩
  have I0 := plm_new h1 hc1 hc4
  obtain ⟨b, hb⟩ : ∃ b, b = w3.heap.size := ⟨_, rfl⟩
  rw [← hb] at I0
  replace hb := hid hb
  replace I0 := hid I0
  clear h1 B1
  go_upto_region 8 with fail
  rw [← hb.out]
  generalize World.alloc w3 _ = w4 at I0 ⊢
  clear hb
  obtain ⟨wv, rfl⟩ : ∃ wv : World, wv = w4 := ⟨_, rfl⟩
  go_cut [35, 36, 37] (fun s35 s36 s37 wx => wx = wv ∧ ∃ N : Nat, N ≤ 100 ∧ N ≤ len1 ∧ s35 = .slice a1 N cap1 ∧ s36 = .int .i64 N ∧ s37 = .int .i64 0)
  case first =>
    go_wp2
    · go_meet
      exact ⟨rfl, 100, by omega, by omega, rfl, rfl, rfl⟩
    · go_meet
      exact ⟨rfl, len1, by omega, by omega, by simp, by simp, rfl⟩
  case rest =>
  obtain ⟨rfl, N, hN1, hN2, rfl, rfl, rfl⟩ := hcut
  go_wp2
  go_loopw [37] (fun s37 wr => ∃ k : Nat, k ≤ N ∧ s37 = .int .i64 k ∧ Hid (PlM w p b c k wr)) (fun s37 _ => N - (intOf s37).toNat)
  case atStart => exact ⟨0, by omega, rfl, I0⟩
  case round =>
    clear I0
    obtain ⟨k, hk, rfl, hJ⟩ := hrel
    by_cases hlt : k < N
    · obtain ⟨g, off, ar, nr, cr, rfl, hcr, z, hz, hz1, hz2, hz3⟩ := W1.out.row hJ.out.bel k (by omega)
      by_cases h3 : nr < 3
      · have h3' : (nr : Int) < 3 := by omega
        have hJ2 : Hid (PlM w p b c ((k : Int) + 1) wr) := by
          obtain ⟨s, o, j1, j2, j3⟩ := hJ.out
          exact ⟨s, o, j1, j2, j3.same⟩
        clear hz hJ
        go_wp2
        go_roundw
        case rel => exact ⟨k + 1, by omega, by go_num, hJ2⟩
        case measure => simp [intOf]; omega
      · have h3' : (3 : Int) ≤ (nr : Int) := by omega
        have PL := hid (play_ok w _ p b c k ar nr cr z wr hJ.out (by omega) hz (by omega) hc4)
        clear hz hJ
        obtain ⟨wo, hwo⟩ : ∃ wo : World, wo = wr := ⟨_, rfl⟩
        subst hwo
        go_wp2_with fail
        refine PL.out.mono ?_
        rintro e w5 ⟨rfl, s, o, j1, j2, j3⟩
        have TK := hid (rx_tasks j1 j3.ok)
        have J3 := hid j3
        have J1 := hid j1
        have J2 := hid j2
        clear j1 j2 j3 PL
        go_wp2_with fail
        refine TK.out.mono ?_
        rintro e w6 ⟨a, n, ca, rfl, G, hn, t1, t2, t3⟩
        have I2 : Hid (TsM w p b c k s o a n ca w6) := hid ⟨J1.out.chgNil t2, J2.out.chg t2 (fun h => h), _, t1.rd⟩
        have hn16 : n ≤ 16 := by have := tasK_len s 16; omega
        replace hn := hid hn
        clear J1 J2 TK t1 t2 t3
        go_wp2
        go_loopw [11, 12] (fun s11 s12 wr => ∃ j : Nat, j ≤ 16 ∧ s11 = .int .i64 ((tasK s j).length : Nat) ∧ s12 = .int .i64 ((j : Int) + 1) ∧ Hid (TsM w p b c k s o a n ca wr)) (fun _ s12 _ => 17 - (intOf s12).toNat)
        case atStart => exact ⟨0, by omega, rfl, rfl, I2⟩
        case round =>
          clear I2
          obtain ⟨j, hj, rfl, rfl, hK⟩ := hrel
          by_cases hj16 : j < 16
          · obtain ⟨k1, k2, R, k3⟩ := id hK.out
            have RD := rx_ready k1 J3.out.ok ((j : Int) + 1)
            have e1 := pl_ready J3.out (t := j + 1) (by omega) (by omega)
            have e2 := tas_has J3.out (t := j + 1) (by omega) (by omega)
            have e3 := tas_len J3.out hj16
            rw [show ((j + 1 : Nat) : Int) = (j : Int) + 1 by omega] at e1 e2
            rw [e1] at RD
            have CT := fun q => contains_t R a n ca (tasK s 16) ((j : Int) + 1) (wr.drewN q) (k3.drewN q) (by omega)
            rw [e2] at CT
            have g0 := k2.cell (j + 1)
            rw [note_is o (by omega)] at g0
            have g1 := k2.cell (17 + (j + 1))
            rw [note_rd o (by omega)] at g1
            have ul := tasK_len s j
            obtain ⟨u, hu⟩ : ∃ u, u = (tasK s j).length := ⟨_, rfl⟩
            rw [← hu] at e3 ul ⊢
            replace hu := hid hu
            have hto : ((j : Int) + 1).toNat = j + 1 := by omega
            have i1 : (j : Int) + 1 ≤ 16 := by omega
            clear k1 k2 k3 e1 e2
            cases hi : o.is (j + 1) with
            | false =>
              rw [hi] at RD CT g0 e3
              simp only [Bool.false_and, Bool.false_eq_true, if_false, Nat.add_zero] at RD e3
              replace RD := hid RD
              replace CT := hid CT
              replace e3 := hid e3
              clear hi g1
              go_wp2_with fail
              refine RD.out.mono ?_
              rintro e w7 ⟨rfl, hw⟩
              subst hw
              go_wp2
              go_quiet ((go_at_call 28; with_reducible exact Calls.quiet_of_same (CT.out _)))
              go_wp2
              go_roundw
              case rel => exact ⟨j + 1, by omega, by rw [e3.out], by go_num, hid (hK.out.drewN _)⟩
              case measure => simp [intOf]; omega
            | true =>
              rw [hi] at RD CT g0 e3
              simp only [Bool.true_and, if_true] at RD e3
              replace CT := hid CT
              replace e3 := hid e3
              clear hi
              cases hr : o.rd (j + 1) with
              | false =>
                rw [hr] at RD g1
                replace RD := hid RD
                clear hr
                go_wp2_with fail
                refine RD.out.mono ?_
                rintro e w7 ⟨rfl, hw⟩
                subst hw
                go_wp2
                go_quiet ((go_at_call 28; with_reducible exact Calls.quiet_of_same (CT.out _)))
                go_wp2
                go_roundw
                case rel => exact ⟨j + 1, by omega, by rw [e3.out]; go_num, by go_num, hid (hK.out.drewN _)⟩
                case measure => simp [intOf]; omega
              | true =>
                rw [hr] at RD g1
                replace RD := hid RD
                clear hr
                go_wp2_with fail
                refine RD.out.mono ?_
                rintro e w7 ⟨rfl, hw⟩
                subst hw
                go_wp2
                go_quiet ((go_at_call 28; with_reducible exact Calls.quiet_of_same (CT.out _)))
                go_wp2
                go_roundw
                case rel => exact ⟨j + 1, by omega, by rw [e3.out]; go_num, by go_num, hid (hK.out.drewN _)⟩
                case measure => simp [intOf]; omega
          · obtain rfl : j = 16 := by omega
            obtain ⟨k1, k2, R, k3⟩ := id hK.out
            have ST := hid (sorted_t R a n ca _ wr k3 (by omega) (tas_sorted s 16))
            rw [← hn.out]
            have K1 := hid k1
            have K2 := hid k2
            clear k1 k2 k3 hK
            go_wp2_with fail
            refine ST.out.mono ?_
            rintro e w7 ⟨rfl, q, rfl⟩
            go_wp2
            go_roundw
            case rel => exact ⟨k + 1, by omega, by go_num, s, o, K1.out.drewN q, K2.out.drewN q, J3.out⟩
            case measure => simp [intOf]; omega
    · obtain rfl : k = N := by omega
      go_wp2
      go_ret
      exact ⟨rfl, hJ.out.bel⟩
end Go.Proofs.Ythcgeigijnbpkaa
