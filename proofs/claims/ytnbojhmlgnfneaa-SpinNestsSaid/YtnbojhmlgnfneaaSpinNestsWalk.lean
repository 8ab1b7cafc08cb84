/- The walk of the law SpinNests: it returns true and changes nothing that was there. No condition. -/
import Derived.Test.YtnbojhmlgnfneaaOff
import Derived.Deep.DeepCutAuto
namespace Go.Proofs.Ytnbojhmlgnfneaa
open Go.ChangeShapes Go.WideShapes Go.ChangeAt Go.RowKit
set_option linter.unusedVariables false
/-- What is kept after so many Saves. -/
def stk : Nat → List Bool
  | 0 => []
  | j + 1 => true :: List.replicate j false
theorem stk_len (j : Nat) : (stk j).length = j := by cases j <;> simp [stk]
theorem stk_succ (j : Nat) : stk (j + 1) = stk j ++ [decide (j = 0)] := by
  cases j with
  | zero => rfl
  | succ j =>
    simp only [stk, List.cons_append]
    rw [show decide (j + 1 = 0) = false by simp, ← List.replicate_succ']
/-- The interrupts after some calls, beside the law's own list of what came. -/
def NestInv (w0 : World) (p : Nat) (stack : List Bool) (on : Bool) (came want : List Int) (a : Option Addr) (c : Nat) (w : World) : Prop :=
  ∃ F G, OffAt w F p stack on came ∧ Sl w 3 1 a want.length c (ints .i64 want) G ∧ Below w0.heap.size w0 w ∧ Sep w0.heap.size w.heap.size [F, Opt G]
set_option maxRecDepth 100000 in
set_option maxHeartbeats 1000000 in
theorem spinNests_walk (a0 : Int) (a1 : Option Addr) (len1 cap1 : Nat) (z1 : List Int) (w : World) (w0 : (Lit.int .i64 a0).wf = true) (w1 : IsRow .i64 w a1 len1 cap1 z1) :
    Calls Try.prog 4 #[.int .i64 a0, .slice a1 len1 cap1] w fun e w' => e = .returned (.bool true) ∧ Below w.heap.size w w' := by
  have r1 := rest_nonneg a0 16 (by omega)
  have r2 := rest_lt a0 16 (by omega)
  obtain ⟨n, hn⟩ : ∃ n : Nat, 1 + rest a0 16 = (n : Int) := Int.eq_ofNat_of_zero_le (by omega)
  have n1 : 1 ≤ n := by omega
  have n2 : n ≤ 16 := by omega
  have HN := hid hn
  clear hn
  have hl1 := w1.1.1
  have hl2 := w1.1.2.1
  unfold maxLen at hl2
  have W1 := hid w1
  clear w1
  go_enter Try.func4, Try.ntmps4
  go_wp2_with fail
  refine (newOff_ok _).mono ?_
  rintro e w1 ⟨F1, p1, rfl, s1, c1, g1⟩
  go_wp2_with fail
  refine (save_ok _ F1 p1 [] true [] s1 (by simp)).mono ?_
  rintro e w2 ⟨F2, rfl, s2, c2, g2⟩
  go_wp2_with fail
  refine (on_any _ F2 p1 _ _ _ s2).mono ?_
  rintro e w3 ⟨rfl, kd, rfl⟩
  go_wp2_with fail
  refine (newOff_ok _).mono ?_
  rintro e w4 ⟨F, p, rfl, s4, c4, g4⟩
  have hI : NestInv w p (stk 0) true [] [] none 0 w4 := by
    have f1 : ∀ k, F1 k → w.heap.size ≤ k := grew_ge g1 (fun _ h => h.elim) (Nat.le_refl _)
    have x1 := below_nil (Below.refl _ w) c1
    have x2 := below_chg x1 c2 f1
    have x3 := below_nil x2 ((Chg.refl Nil w2).drewN kd)
    have x4 := below_nil x3 c4
    refine ⟨F, none, s4, Sl.empty _ _ _ _, x4, ?_⟩
    refine ((Sep.empty _ _).cons_none x3.size).cons (N' := w4.heap.size) (fun k hk => ⟨?_, s4.lt k hk⟩) c4.size x3.size
    rcases g4 k hk with h | h
    · exact h.elim
    · exact h
  clear s1 c1 g1 s2 c2 g2 s4 c4 g4
  replace hI := hid hI
  go_wp2_with (go_at_call 13; refine (rest_any _ _ _ (by omega) (by omega)).mono ?_; rintro e w' ⟨rfl, rfl⟩)
  rw [HN.out]
  go_loopw [45] (fun s45 wr => ∃ j : Nat, j ≤ n ∧ s45 = .int .i64 j ∧ Hid (NestInv w p (stk j) (decide (j = 0)) [] [] none 0 wr)) (fun s45 _ => n - (intOf s45).toNat)
  case atStart => exact ⟨0, by omega, rfl, hI⟩
  case round =>
    obtain ⟨j, hj, rfl, hJ⟩ := hrel
    clear hI
    by_cases hlt : j < n
    · obtain ⟨F, G, i1, i2, i3, i4⟩ := id hJ.out
      go_wp2_with (go_at_call 20; refine (save_ok _ F p _ _ _ i1 (by rw [stk_len]; omega)).mono ?_; rintro e w5 ⟨F5, rfl, q1, q2, q3⟩)
      go_roundw
      case rel =>
        refine ⟨j + 1, by omega, by go_num, F5, G, ?_, i2.chg q2 (fun g hg hF => i4.dj 0 1 rfl rfl (by decide) g hF hg), below_chg i3 q2 (i4.ge 0 rfl), i4.upd 0 rfl q3 q1.lt q2.size i3.size⟩
        rw [stk_succ]
        simpa using q1
      case measure => simp [intOf]; omega
    · obtain rfl : j = n := by omega
      have hon : decide (j = 0) = false := by simp; omega
      rw [hon] at hJ
      go_upto_region 15 with fail
      go_cut [55, 56, 57] (fun s55 s56 s57 wx => wx = wr ∧ ∃ N : Nat, N ≤ 100 ∧ N ≤ len1 ∧ s55 = .slice a1 N cap1 ∧ s56 = .int .i64 N ∧ s57 = .int .i64 0)
      case first =>
        go_wp2
        · go_meet
          exact ⟨rfl, 100, by omega, by omega, rfl, rfl, rfl⟩
        · go_meet
          exact ⟨rfl, len1, by omega, by omega, by simp, by simp, rfl⟩
      case rest =>
        obtain ⟨rfl, N, hN1, hN2, rfl, rfl, rfl⟩ := hcut
        go_wp2
        go_loopw [8, 57] (fun s8 s57 w6 => ∃ (k : Nat) (want : List Int) (a : Option Addr) (c : Nat), k ≤ N ∧ want.length ≤ k ∧ s57 = .int .i64 k ∧ s8 = .slice a want.length c ∧ Hid (NestInv w p (stk j) false want want a c w6)) (fun _ s57 _ => N - (intOf s57).toNat)
        case atStart => exact ⟨0, [], none, 0, by omega, by simp, rfl, rfl, hJ⟩
        case round =>
          clear hJ
          obtain ⟨k, want, a, c, hk, hwk, rfl, rfl, hJ⟩ := hrel
          obtain ⟨F, G, i1, i2, i3, i4⟩ := id hJ.out
          by_cases hlt2 : k < N
          · have hz : k < z1.length := by have := W1.out.1.ilen; omega
            have HA : Rd wr (Upto w.heap.size) 1 a1 len1 cap1 (ints .i64 z1) := W1.out.1.chg (Chg.of_below i3 Nil) (fun _ _ _ h => h)
            obtain ⟨g, off, rfl, _, _, hc⟩ := HA.at hz
            have hc1 := hc k hz
            clear hc HA
            have t1 := rest_nonneg z1[k] 32 (by omega)
            have t2 := rest_lt z1[k] 32 (by omega)
            replace i4 := hid i4
            by_cases hm : rest z1[k] 32 ∈ want
            · have hh := hasI_true hm
              replace hm := hid hm
              go_wp2_with (first | (go_at_call 13; refine (rest_any _ _ _ (by omega) (by omega)).mono ?_; rintro e w' ⟨rfl, rfl⟩) | (go_at_call 22; refine (come_has _ F p _ _ _ i1 (by omega) (by omega) (by omega) hm.out).mono ?_; rintro e w' ⟨rfl, rfl⟩) | (go_at_call 23; refine (contains_int _ _ _ _ _ _ _ i2.rd (by omega)).mono ?_; rintro e w' ⟨rfl, rfl⟩))
              go_roundw
              case rel => exact ⟨k + 1, want, a, c, by omega, by omega, by go_num, rfl, hJ⟩
              case measure => simp [intOf]; omega
            · have hh := hasI_false hm
              replace hm := hid hm
              go_wp2_with (first | (go_at_call 13; refine (rest_any _ _ _ (by omega) (by omega)).mono ?_; rintro e w' ⟨rfl, rfl⟩) | (go_at_call 22; refine (come_new _ F p _ _ _ i1 (by omega) (by omega) (by omega) hm.out).mono ?_; rintro e w7 ⟨F7, rfl, q1, q2, q3⟩; have i2' := i2.chg q2 (fun g hg hF => i4.out.dj 0 1 rfl rfl (by decide) g hF hg); have HS := hid (i2'.alloc (.cells #[.int .i64 (rest z1[k] 32)] 3)); have HNW := hid (Rd.of_blk (n := 1) (s := 1) (Blk.new w7 3 (ints .i64 [rest z1[k] 32])) rfl (by decide))) | (go_at_call 23; refine (contains_int _ _ _ _ _ _ _ i2'.rd (by omega)).mono ?_; rintro e w' ⟨rfl, rfl⟩) | (at_builtin; refine wpList_append_sl rfl _ _ eInt rfl rfl rfl HS.out HNW.out (ints_one _ _) (by omega) (by omega) ?_; intro a' c' w8 G' y1 y2 y3; replace y3 := hid y3))
              go_roundw
              case rel =>
                have hs0 := i4.out.upd 0 (F' := F7) rfl q3 (N' := w7.heap.size) q1.lt q2.size i3.size
                have hB : w.heap.size ≤ w7.heap.size := Nat.le_trans i3.size q2.size
                refine ⟨k + 1, want ++ [rest z1[k] 32], a', c', by omega, by simp; omega, by go_num, by simp, F7, G', q1.chg (push_chg y2) (hs0.dj 0 1 rfl rfl (by decide)), sl_push rfl y1, below_chg (below_chg i3 q2 (i4.out.ge 0 rfl)) (push_chg y2) (i4.out.ge 1 rfl), push_sep (i := 1) hs0 rfl y2 y3.out y1.lt hB⟩
              case measure => simp [intOf]; omega
          · have hw100 : want.length ≤ 100 := by omega
            clear i1 i2 i3 i4
            go_wp2
            go_loopw [84] (fun s84 w9 => ∃ b : Nat, b ≤ j ∧ s84 = .int .i64 b ∧ Hid (NestInv w p (stk (j - b)) (decide (b = j)) (if b = j then [] else want) want a c w9)) (fun s84 _ => j - (intOf s84).toNat)
            case atStart =>
              refine ⟨0, by omega, rfl, ?_⟩
              have e1 : decide (0 = j) = false := by simp; omega
              rw [e1, if_neg (by omega)]
              exact hJ
            case round =>
              clear hJ
              obtain ⟨b, hb, rfl, hJ⟩ := hrel
              obtain ⟨F, G, i1, i2, i3, i4⟩ := id hJ.out
              have he : eqI want want = true := eqI_true rfl
              by_cases hbl : b < j
              · have e1 : decide (b = j) = false := by simp; omega
                rw [e1, if_neg (by omega)] at i1
                replace i4 := hid i4
                by_cases hb2 : b + 1 < j
                · have e2 : stk (j - b) = stk (j - (b + 1)) ++ [false] := by
                    obtain ⟨m, hm⟩ : ∃ m, j - b = m + 1 := ⟨j - b - 1, by omega⟩
                    rw [hm, stk_succ, show j - (b + 1) = m by omega]
                    simp; omega
                  rw [e2] at i1
                  replace e2 := hid e2
                  have l1 : ((b : Int) == (j : Int) - 1) = false := by rw [beq_eq_false_iff_ne]; omega
                  go_wp2_with (go_at_call 24; refine (back_off _ F p _ _ _ i1 (by rw [stk_len]; omega)).mono ?_; rintro e w5 ⟨rfl, q1, q2⟩)
                  go_roundw
                  case rel =>
                    refine ⟨b + 1, by omega, by go_num, F, G, ?_, i2.chg q2 (fun g hg hF => i4.out.dj 0 1 rfl rfl (by decide) g hF hg), below_chg i3 q2 (i4.out.ge 0 rfl), i4.out.grow q2.size⟩
                    rw [show decide (b + 1 = j) = false by simp; omega, if_neg (by omega)]
                    exact q1
                  case measure => simp [intOf]; omega
                · have hbj : b + 1 = j := by omega
                  rw [show stk (j - b) = [true] by rw [show j - b = 1 by omega]; rfl] at i1
                  have l1 : ((b : Int) == (j : Int) - 1) = true := by rw [beq_iff_eq]; omega
                  replace hbj := hid hbj
                  go_wp2_with (first | (go_at_call 24; refine (back_on _ F p _ _ i1).mono ?_; rintro e w5 ⟨a5, c5, G5, rfl, q1, y1, y2, q2⟩; have i2' := i2.chg q2 (fun g hg hF => i4.out.dj 0 1 rfl rfl (by decide) g hF hg)) | (go_at_call 16; refine (equal_int _ _ _ _ _ _ _ _ _ _ _ y1.rd i2'.rd (by omega) (by omega)).mono ?_; rw [he]; rintro e w7 ⟨rfl, kq, rfl⟩))
                  go_roundw
                  case rel =>
                    refine ⟨b + 1, by omega, by go_num, F, G, ?_, i2'.drewN kq, below_nil (below_chg i3 q2 (i4.out.ge 0 rfl)) ((Chg.refl Nil w5).drewN kq), i4.out.grow q2.size⟩
                    rw [show decide (b + 1 = j) = true by have := hbj.out; simp; omega, if_pos hbj.out, show j - (b + 1) = 0 by have := hbj.out; omega]
                    exact q1.chg ((Chg.refl Nil w5).drewN kq) (fun _ _ h => h)
                  case measure => simp [intOf]; omega
              · obtain rfl : b = j := by omega
                rw [show decide (b = b) = true by simp, if_pos rfl, Nat.sub_self] at i1
                have i1' : OffAt wr F p [] true [] := i1
                go_wp2_with (first | (go_at_call 24; refine (back_none _ F p _ _ i1').mono ?_; rintro e w5 ⟨rfl, rfl⟩) | (go_at_call 22; refine (come_on _ F p _ _ _ i1' (by omega) (by omega)).mono ?_; rintro e w5 ⟨rfl, rfl⟩) | (go_at_call 21; refine (on_any _ F p _ _ _ i1').mono ?_; rintro e w5 ⟨rfl, kd, rfl⟩))
                go_ret
                exact ⟨rfl, below_nil i3 ((Chg.refl Nil wr).drewN kd)⟩
end Go.Proofs.Ytnbojhmlgnfneaa
