/- The walk of the law SemAlone: it returns true and changes nothing that was there. No condition. -/
import Derived.Test.YtnbojhmlgnfneaaSem
import Derived.Deep.DeepCutAuto
namespace Go.Proofs.Ytnbojhmlgnfneaa
open Go.ChangeShapes Go.WideShapes Go.ChangeAt Go.RowKit
set_option linter.unusedVariables false
def cntOf (order : List Int) (j : Nat) : Int := if j < order.length then 0 else 1
/-- What holds ahead of each round: 'j' of those that came have been let go on. -/
def AloneInv (w0 : World) (p : Nat) (order been : List Int) (j : Nat) (a5 a6 : Option Addr) (c5 c6 : Nat) (w : World) : Prop :=
  ∃ F G5 G6, SemAt w F p (cntOf order j) (order.drop (j + 1)) ∧ Sl w 3 1 a5 order.length c5 (ints .i64 order) G5 ∧ Sl w 3 1 a6 been.length c6 (ints .i64 been) G6 ∧
    been = order.take (j + 1) ∧ Below w0.heap.size w0 w ∧ Sep w0.heap.size w.heap.size [F, Opt G5, Opt G6] ∧ ∀ x ∈ order, 1 ≤ x
set_option maxRecDepth 100000 in
set_option maxHeartbeats 1000000 in
theorem semAlone_walk (a0 : Option Addr) (len0 cap0 : Nat) (z0 : List Int) (w : World) (w0 : IsRow .i64 w a0 len0 cap0 z0) :
    Calls Try.prog 6 #[.slice a0 len0 cap0] w fun e w' => e = .returned (.bool true) ∧ Below w.heap.size w w' := by
  have hl1 := w0.1.1
  have hl2 := w0.1.2.1
  unfold maxLen at hl2
  have W0 := hid w0
  clear w0
  go_enter Try.func6, Try.ntmps6
  go_wp2_with fail
  refine (newSem_ok 1 _ (by omega) (by omega)).mono ?_
  rintro e w1 ⟨F1, p1, rfl, s1, c1, g1⟩
  go_wp2_with fail
  refine (down_ok _ F1 p1 1 1 [] s1 (by simp) (by omega) (by omega) (by simp) (by omega) (by omega)).mono ?_
  rintro e w2 ⟨rfl, s2, c2⟩
  go_wp2_with fail
  refine (down_wait _ F1 p1 2 [] s2 (by simp) (by omega) (by omega) (by simp)).mono ?_
  rintro e w3 ⟨F3, rfl, s3, c3, g3⟩
  go_upto_region 6 with (first | (go_at_call 25; refine (newSem_ok _ _ (by omega) (by omega)).mono ?_; rintro e w4 ⟨F, p, rfl, s4, c4, g4⟩))
  have hI : AloneInv w p [] [] 0 none none 0 0 w4 := by
    have f1 : ∀ k, F1 k → w.heap.size ≤ k := grew_ge g1 (fun _ h => h.elim) (Nat.le_refl _)
    have x1 := below_nil (Below.refl _ w) c1
    have x2 := below_chg x1 c2 f1
    have x3 := below_chg x2 c3 f1
    have x4 := below_nil x3 c4
    refine ⟨F, none, none, s4, Sl.empty _ _ _ _, Sl.empty _ _ _ _, rfl, x4, ?_, by simp⟩
    refine (((Sep.empty _ _).cons_none x3.size).cons_none x3.size).cons (N' := w4.heap.size) (fun k hk => ⟨?_, s4.lt k hk⟩) c4.size x3.size
    rcases g4 k hk with h | h
    · exact h.elim
    · exact h
  clear s1 c1 g1 s2 c2 s3 c3 g3 s4 c4 g4
  replace hI := hid hI
  go_cut [43, 44, 45] (fun s43 s44 s45 wx => wx = w4 ∧ ∃ N : Nat, N ≤ 60 ∧ N ≤ len0 ∧ s43 = .slice a0 N cap0 ∧ s44 = .int .i64 N ∧ s45 = .int .i64 0)
  case first =>
    go_wp2
    · go_meet
      exact ⟨rfl, 60, by omega, by omega, rfl, rfl, rfl⟩
    · go_meet
      exact ⟨rfl, len0, by omega, by omega, by simp, by simp, rfl⟩
  case rest =>
    obtain ⟨rfl, N, hN1, hN2, rfl, rfl, rfl⟩ := hcut
    go_wp2
    go_loopw [5, 6, 45] (fun s5 s6 s45 wr => ∃ (k : Nat) (order been : List Int) (a5 a6 : Option Addr) (c5 c6 : Nat), k ≤ N ∧ order.length ≤ k ∧ been.length ≤ 1 ∧ s45 = .int .i64 k ∧ s5 = .slice a5 order.length c5 ∧ s6 = .slice a6 been.length c6 ∧
      Hid (AloneInv w p order been 0 a5 a6 c5 c6 wr)) (fun _ _ s45 _ => N - (intOf s45).toNat)
    case atStart => exact ⟨0, [], [], none, none, 0, 0, Nat.zero_le _, by simp, by simp, rfl, rfl, rfl, hI⟩
    case round =>
      obtain ⟨k, order, been, a5, a6, c5, c6, hk, hok, hbk, rfl, rfl, rfl, hJ⟩ := hrel
      clear hI
      obtain ⟨F, G5, G6, i1, i2, i3, i4, i5, i6, i7⟩ := id hJ.out
      by_cases hlt : k < N
      · have hz : k < z0.length := by have := W0.out.1.ilen; omega
        have HA : Rd wr (Upto w.heap.size) 1 a0 len0 cap0 (ints .i64 z0) := W0.out.1.chg (Chg.of_below i5 Nil) (fun _ _ _ h => h)
        obtain ⟨g, off, rfl, _, _, hc⟩ := HA.at hz
        have hc1 := hc k hz
        clear hc HA
        have r3 := rest_nonneg z0[k] 16 (by omega)
        have r4 := rest_lt z0[k] 16 (by omega)
        have d1 := i6.dj 0 1 rfl rfl (by decide)
        have d2 := i6.dj 0 2 rfl rfl (by decide)
        have d3 := i6.dj 1 2 rfl rfl (by decide)
        replace i4 := hid i4
        replace i7 := hid i7
        replace i6 := hid i6
        cases order with
        | nil =>
          have hb0 : been = [] := i4.out
          subst hb0
          go_wp2_with (first | (go_at_call 13; refine (rest_any _ _ _ (by omega) (by omega)).mono ?_; rintro e w' ⟨rfl, rfl⟩) | (go_at_call 26; refine (down_ok _ F p 1 _ [] i1 (by simp) (by omega) (by omega) (by simp) (by omega) (by omega)).mono ?_; rintro e w2 ⟨rfl, q1, q2⟩; have HS := hid ((i2.chg q2 (fun g hg hF => d1 g hF hg)).alloc (.cells #[.int .i64 (1 + rest z0[k] 16)] 3)); have HN := hid (Rd.of_blk (n := 1) (s := 1) (Blk.new w2 3 (ints .i64 [1 + rest z0[k] 16])) rfl (by decide)); have HS2 := hid ((i3.chg q2 (fun g hg hF => d2 g hF hg)).alloc (.cells #[.int .i64 (1 + rest z0[k] 16)] 3))) | (at_builtin; refine wpList_append_sl (o := ⟨some 64, _, _, _, _, _⟩) rfl _ _ eInt rfl rfl rfl HS.out HN.out (ints_one _ _) (by simp) (by omega) ?_; intro a' c' w3 G' y1 y2 y3; replace y3 := hid y3; have HS3 := hid ((HS2.out.chg y2 (fun g hg hF => d3 g hF hg)).alloc (.cells #[.int .i64 (1 + rest z0[k] 16)] 3)); have HN3 := hid (Rd.of_blk (n := 1) (s := 1) (Blk.new w3 3 (ints .i64 [1 + rest z0[k] 16])) rfl (by decide))) | (at_builtin; refine wpList_append_sl (o := ⟨some 68, _, _, _, _, _⟩) rfl _ _ eInt rfl rfl rfl HS3.out HN3.out (ints_one _ _) (by simp) (by omega) ?_; intro a'' c'' w5 G'' v1 v2 v3; replace v3 := hid v3))
          go_roundw
          case rel =>
            have i5s := i5.size
            have q4 := q2.size
            have n3 := (push_chg y2).size
            have hs1 := push_sep (i := 1) (i6.out.grow q4) rfl y2 y3.out y1.lt (by omega)
            have hs2 := push_sep (i := 2) hs1 rfl v2 v3.out v1.lt (by omega)
            refine ⟨k + 1, [1 + rest z0[k] 16], [1 + rest z0[k] 16], a', a'', c', c'', by omega, by simp, by simp, by go_num, by simp, by simp, F, G', G'', ?_, ?_, ?_, rfl, ?_, hs2, ?_⟩
            · exact (q1.chg (push_chg y2) d1).chg (push_chg v2) d2
            · exact (sl_push (l := []) rfl y1).chg (push_chg v2) (fun g hg hF => hs1.dj 1 2 rfl rfl (by decide) g hg hF)
            · exact sl_push (l := []) rfl v1
            · exact below_chg (below_chg (below_chg i5 q2 (i6.out.ge 0 rfl)) (push_chg y2) (i6.out.ge 1 rfl)) (push_chg v2) (i6.out.ge 2 rfl)
            · intro y hy
              have : y = 1 + rest z0[k] 16 := by simpa using hy
              omega
          case measure => simp [intOf]; omega
        | cons x r =>
          simp only [List.length_cons] at hok
          have hbx : been = [x] := i4.out
          subst hbx
          have i1' : SemAt wr F p 0 r := i1
          by_cases hm : (1 + rest z0[k] 16) ∈ r
          · have hh := hasI_true hm
            have hcl := i2.1
            have hrl := List.length_pos_of_mem hm
            simp only [List.length_cons] at hcl
            obtain ⟨g', off', rfl, _, _, hc'⟩ := i2.rd.at (i := 0) (by simp)
            have HT := hid (i2.rd.tail)
            have hc51 : ¬ (c5 = 1) := by omega
            replace hm := hid hm
            clear hc'
            go_wp2_with (first | (go_at_call 13; refine (rest_any _ _ _ (by omega) (by omega)).mono ?_; rintro e w' ⟨rfl, rfl⟩) | (go_at_call 26; refine (down_has _ F p _ _ r i1' (by omega) (by omega) (by omega) hm.out).mono ?_; rintro e w' ⟨rfl, rfl⟩) | (go_at_call 23; refine (contains_int _ _ _ _ _ _ _ HT.out (by omega)).mono ?_; rintro e w' ⟨rfl, rfl⟩))
            go_roundw
            case rel => exact ⟨k + 1, x :: r, [x], _, a6, c5, c6, by omega, by simp; omega, by simp, by go_num, rfl, rfl, hJ⟩
            case measure => simp [intOf]; omega
          · replace hm := hid hm
            go_wp2_with (first | (go_at_call 13; refine (rest_any _ _ _ (by omega) (by omega)).mono ?_; rintro e w' ⟨rfl, rfl⟩) | (go_at_call 26; refine (down_wait _ F p _ r i1' (by omega) (by omega) (by omega) hm.out).mono ?_; rintro e w2 ⟨F2, rfl, q1, q2, q3⟩; have HS := hid ((i2.chg q2 (fun g hg hF => d1 g hF hg)).alloc (.cells #[.int .i64 (1 + rest z0[k] 16)] 3)); have HN := hid (Rd.of_blk (n := 1) (s := 1) (Blk.new w2 3 (ints .i64 [1 + rest z0[k] 16])) rfl (by decide))) | (at_builtin; refine wpList_append_sl (o := ⟨some 77, _, _, _, _, _⟩) rfl _ _ eInt rfl rfl rfl HS.out HN.out (ints_one _ _) (by simp; omega) (by omega) ?_; intro a' c' w3 G' y1 y2 y3; replace y3 := hid y3))
            go_roundw
            case rel =>
              have i5s := i5.size
              have q4 := q2.size
              have hs0 := i6.out.upd 0 (F' := F2) rfl q3 (N' := w2.heap.size) q1.lt q4 i5s
              have hs1 := push_sep (i := 1) hs0 rfl y2 y3.out y1.lt (by omega)
              refine ⟨k + 1, x :: r ++ [1 + rest z0[k] 16], [x], a', a6, c', c6, by omega, by simp; omega, by simp, by go_num, by simp, by simp, F2, G', G6, ?_, ?_, ?_, rfl, ?_, hs1, ?_⟩
              · have := q1.chg (push_chg y2) (hs0.dj 0 1 rfl rfl (by decide))
                simpa [cntOf] using this
              · exact sl_push (l := x :: r) rfl y1
              · exact (i3.chg q2 (fun g hg hF => d2 g hF hg)).chg (push_chg y2) (fun g hg hF => d3 g hF hg)
              · exact below_chg (below_chg i5 q2 (i6.out.ge 0 rfl)) (push_chg y2) (i6.out.ge 1 rfl)
              · intro y hy
                rcases List.mem_append.1 hy with hy | hy
                · exact i7.out y hy
                · have : y = 1 + rest z0[k] 16 := by simpa using hy
                  omega
            case measure => simp [intOf]; omega
      · have hord : order.length ≤ 60 := by omega
        have hbl : been.length ≤ order.length := by rw [i4, List.length_take]; omega
        clear hok hbk i1 i2 i3 i4 i5 i6 i7
        go_wp2
        go_loopw [6, 93] (fun s6 s93 w7 => ∃ (j : Nat) (been : List Int) (a6 : Option Addr) (c6 : Nat), j ≤ order.length ∧ been.length ≤ order.length ∧ s93 = .int .i64 j ∧ s6 = .slice a6 been.length c6 ∧
          Hid (AloneInv w p order been j a5 a6 c5 c6 w7)) (fun _ s93 _ => order.length - (intOf s93).toNat)
        case atStart => exact ⟨0, been, a6, c6, Nat.zero_le _, hbl, rfl, rfl, hJ⟩
        case round =>
          clear hJ hbl
          obtain ⟨j, been, a6, c6, hj, hbl, rfl, rfl, hJ⟩ := hrel
          rename_i w7
          obtain ⟨F, G5, G6, i1, i2, i3, i4, i5, i6, i7⟩ := id hJ.out
          have d1 := i6.dj 0 1 rfl rfl (by decide)
          have d2 := i6.dj 0 2 rfl rfl (by decide)
          have d3 := i6.dj 1 2 rfl rfl (by decide)
          replace i4 := hid i4
          replace i7 := hid i7
          replace i6 := hid i6
          by_cases hjl : j < order.length
          · rw [show cntOf order j = 0 from if_pos hjl] at i1
            by_cases hj2 : j + 1 < order.length
            · rw [List.drop_eq_getElem_cons hj2] at i1
              have hx := i7.out order[j + 1] (List.getElem_mem hj2)
              have hl2 : (order.drop (j + 1 + 1)).length ≤ 60 := by simp; omega
              go_wp2_with (first | (go_at_call 27; refine (up_row _ F p _ _ _ i1 (by omega)).mono ?_; rintro e w2 ⟨F2, rfl, q1, q2, q3⟩; have HS := hid ((i3.chg q2 (fun g hg hF => d2 g hF hg)).alloc (.cells #[.int .i64 order[j + 1]] 3)); have HN := hid (Rd.of_blk (n := 1) (s := 1) (Blk.new w2 3 (ints .i64 [order[j + 1]])) rfl (by decide))) | (at_builtin; refine wpList_append_sl rfl _ _ eInt rfl rfl rfl HS.out HN.out (ints_one _ _) (by omega) (by omega) ?_; intro a' c' w3 G' y1 y2 y3; replace y3 := hid y3))
              go_roundw
              case rel =>
                have i5s := i5.size
                have q4 := q2.size
                have hs0 := i6.out.upd 0 (F' := F2) rfl q3 (N' := w2.heap.size) q1.lt q4 i5s
                have hs1 := push_sep (i := 2) hs0 rfl y2 y3.out y1.lt (by omega)
                have hbe : been ++ [order[j + 1]] = order.take (j + 1 + 1) := by rw [i4.out, List.take_succ_eq_append_getElem hj2]
                refine ⟨j + 1, been ++ [order[j + 1]], a', c', by omega, ?_, by go_num, by simp, F2, G5, G', ?_, ?_, ?_, hbe, ?_, hs1, i7.out⟩
                · rw [hbe, List.length_take]; omega
                · have := q1.chg (push_chg y2) (hs0.dj 0 2 rfl rfl (by decide))
                  rw [show cntOf order (j + 1) = 0 from if_pos hj2]
                  exact this
                · exact (i2.chg q2 (fun g hg hF => d1 g hF hg)).chg (push_chg y2) (fun g hg hF => d3 g hg hF)
                · exact sl_push (l := been) rfl y1
                · exact below_chg (below_chg i5 q2 (i6.out.ge 0 rfl)) (push_chg y2) (i6.out.ge 2 rfl)
              case measure => simp [intOf]; omega
            · rw [List.drop_of_length_le (by omega)] at i1
              go_wp2_with (first | (go_at_call 27; refine (up_none _ F p _ i1 (by omega) (by omega)).mono ?_; rintro e w2 ⟨rfl, q1, q2⟩))
              go_roundw
              case rel =>
                have hbe : been = order.take (j + 1 + 1) := by rw [i4.out, List.take_of_length_le (by omega), List.take_of_length_le (by omega)]
                refine ⟨j + 1, been, a6, c6, by omega, hbl, by go_num, rfl, F, G5, G6, ?_, i2.chg q2 (fun g hg hF => d1 g hF hg), i3.chg q2 (fun g hg hF => d2 g hF hg), hbe, below_chg i5 q2 (i6.out.ge 0 rfl), i6.out.grow q2.size, i7.out⟩
                rw [show cntOf order (j + 1) = 1 from if_neg (by omega), List.drop_of_length_le (by omega)]
                exact q1
              case measure => simp [intOf]; omega
          · rw [show cntOf order j = 1 from if_neg hjl, List.drop_of_length_le (by omega)] at i1
            have hbe : been = order := by rw [i4.out, List.take_of_length_le (by omega)]
            subst hbe
            have he : eqI been been = true := eqI_true rfl
            go_wp2_with (first | (go_at_call 28; refine (count_ok _ F p _ _ i1 (by simp)).mono ?_; rintro e w2 ⟨a2, c2, G2, rfl, q1, q2, q3⟩; have i2' := i2.chg q2 (fun g hg hF => hF.elim); have i3' := i3.chg q2 (fun g hg hF => hF.elim)) | (go_at_call 16; refine (equal_int _ _ _ _ _ _ _ _ _ _ _ i2'.rd i3'.rd (by omega) (by omega)).mono ?_; rintro e w3 ⟨rfl, kq, rfl⟩))
            go_ret
            exact ⟨rfl, below_nil (below_nil i5 q2) ((Chg.refl Nil w2).drewN kq)⟩
end Go.Proofs.Ytnbojhmlgnfneaa
