/- Contracts of package span: Ahead. Conditions: a tree in memory, of few things, with small weights. -/
import Derived.Test.YtnibhkeleogjcaaTree12
namespace Go.Proofs.Ytnibhkeleogjcaa
open Go.ChangeShapes Go.WideShapes Go.ChangeAt Go.RowKit
set_option linter.unusedVariables false
/-- The sum of all weights ahead of a place. -/
def aheadW (k i : Int) (l : List TE) : Int := sumW (l.filter (fun x => decide (x.before k i)))
theorem ahead_left {k i : Int} {x : TE} {l r : List TE} (hx : ¬ x.before k i) (hr : ∀ y ∈ r, ¬ y.before k i) : aheadW k i (l ++ x :: r) = aheadW k i l := by
  unfold aheadW
  have h : r.filter (fun x => decide (x.before k i)) = [] := List.filter_eq_nil_iff.2 (by simpa using hr)
  rw [List.filter_append, List.filter_cons, h]
  simp [hx]
theorem ahead_right {k i : Int} {x : TE} {l r : List TE} (hx : x.before k i) (hl : ∀ y ∈ l, y.before k i) : aheadW k i (l ++ x :: r) = sumW l + x.w + aheadW k i r := by
  unfold aheadW
  have h : l.filter (fun x => decide (x.before k i)) = l := List.filter_eq_self.2 (by simpa using hl)
  rw [List.filter_append, List.filter_cons, h]
  simp only [hx, decide_true, if_true, sumW_append, sumW_cons]
  omega
theorem ahead_ok (w : World) (F : Nat → Prop) (p : Nat) (l : List TE) (h : SpAt w F p l) (hsm : Sm l) (k i : Int) :
    Calls Try.prog 17 #[.pointer (some ⟨p, 0, none⟩), .int .i64 k, .int .i64 i] w fun v w' => v = .returned (.int .i64 (aheadW k i l)) ∧ ∃ q, w' = w.drewN q := by
  obtain ⟨t, h, rfl⟩ := h
  have c0 := h.blk.cell 0
  simp only [List.getElem?_cons_zero] at c0
  have T := hid h.tr
  have SO := hid h.srt
  have SM := hid hsm
  obtain ⟨q0, hq0⟩ := t.ptr_is
  rw [hq0] at c0
  have Q0 := hid hq0
  clear h hq0 hsm
  go_enter Try.func17, Try.ntmps17
  go_wp2
  go_loopg [7, 8] t.deep (fun g s7 s8 wr => ∃ (s : Tr) (n : Int), s7 = .int .i64 n ∧ s8 = s.ptr ∧ g = s.deep ∧ Hid (∃ q, wr = w.drewN q) ∧ 0 ≤ n ∧ n + sumW s.els ≤ 2000000000 ∧ Hid (TrAt wr s) ∧ Hid (Srt s.els) ∧ Hid (Sm s.els) ∧ Hid (n + aheadW k i s.els = aheadW k i t.els))
  case atStart => exact ⟨t, 0, rfl, Q0.out.symm, rfl, ⟨0, rfl⟩, by omega, by have := sumW_bd SM.out.2; have := SM.out.1; omega, T, SO, SM, Int.zero_add _⟩
  case round =>
    obtain ⟨s, n, rfl, rfl, rfl, HW, n0, n1, S, HS, HM, HL⟩ := hrel
    cases s with
    | nil =>
      have hs : (Tr.nil).ptr = .pointer none := rfl
      rw [hs]
      clear hs
      go_wp2
      go_ret
      have e := HL.out
      rw [show aheadW k i (Tr.nil).els = 0 from rfl, Int.add_zero] at e
      rw [← e]
      exact ⟨rfl, HW.out⟩
    | node b x l r =>
      obtain ⟨hb, hl, hr⟩ := S.out
      obtain ⟨o1, o2, o3, o4⟩ := HS.out.mid
      have ml := HM.out.left
      have mr := HM.out.right
      have mx := HM.out.mid
      have bl := sumW_bd ml.2
      have br := sumW_bd mr.2
      have hsum : sumW (Tr.node b x l r).els = sumW l.els + (x.w + sumW r.els) := by simp only [Tr.els, sumW_append, sumW_cons]
      rw [hsum] at n1
      have hs : (Tr.node b x l r).ptr = .pointer (some ⟨b, 0, none⟩) := rfl
      rw [hs]
      have SIDE := hid (side_ok wr b x l.ptr r.ptr _ _ _ hb k i)
      have c2 := hb.cell 2
      have c3 := hb.cell 3
      have c4 := hb.cell 4
      simp only [nodeC, List.getElem?_cons_succ, List.getElem?_cons_zero] at c2 c3 c4
      have d1 : Hid (l.deep < (Tr.node b x l r).deep ∧ r.deep < (Tr.node b x l r).deep) := hid (by simp only [Tr.deep]; omega)
      have SUM := hid (fun q => sum_ok (wr.drewN q) l (hl.drewN q))
      have HLT := hid hl
      have HRT := hid hr
      have ML := hid ml
      have MR := hid mr
      obtain ⟨m1, m2⟩ := mx
      have b1 := bl.1
      have b2 := br.1
      obtain ⟨q, hq⟩ := l.ptr_is
      obtain ⟨q', hq'⟩ := r.ptr_is
      rw [hq] at c3 SUM
      rw [hq'] at c4
      rw [l.sum_els] at SUM
      obtain ⟨u, hu⟩ : ∃ u, u = sumW l.els := ⟨_, rfl⟩
      rw [← hu] at SUM n1 b1
      replace hu := hid hu
      replace hq := hid hq
      replace hq' := hid hq'
      by_cases hbe : x.before k i
      · have hside := sideI_pos.2 hbe
        have hside2 : ¬ sideI k i x ≤ 0 := by omega
        have hn : Hid (n + (u + x.w) + aheadW k i r.els = aheadW k i t.els) := hid (by
          rw [← HL.out]
          show _ = n + aheadW k i (l.els ++ x :: r.els)
          rw [ahead_right hbe (fun y hy => by have := o3 y hy; unfold TE.before at *; omega), hu.out]
          omega)
        have O2 := hid o2
        clear hs hb hl hr o1 o2 o3 o4 hbe S HS HL HM ml mr bl br hsum
        go_wp2_with fail
        refine SIDE.out.mono ?_
        rintro v w1 ⟨rfl, hw⟩
        subst hw
        go_wp2
        go_quiet ((go_at_call 25; with_reducible exact Calls.quiet_of_same (SUM.out _)))
        go_wp2
        go_roundg r.deep
        case measure => exact d1.out.2
        case rel =>
          obtain ⟨q1, rfl⟩ := HW.out
          exact ⟨r, n + (u + x.w), by go_num, hq'.out.symm, rfl, ⟨_, World.drewN_drewN _ _ _⟩, by omega, by omega, HRT.out.drewN nq, O2, MR, hn⟩
      · have hside : sideI k i x ≤ 0 := by
          refine Int.not_lt.1 (fun h => hbe (sideI_pos.1 h))
        have hn : Hid (n + aheadW k i l.els = aheadW k i t.els) := hid (by
          rw [← HL.out]
          show _ = n + aheadW k i (l.els ++ x :: r.els)
          rw [ahead_left hbe (fun y hy hh => by
            have := o4 y hy
            unfold TE.before at *
            omega)])
        have O1 := hid o1
        clear hs hb hl hr o1 o2 o3 o4 hbe S HS HL HM ml mr bl br hsum
        go_wp2_with fail
        refine SIDE.out.mono ?_
        rintro v w1 ⟨rfl, hw⟩
        subst hw
        go_wp2
        go_roundg l.deep
        case measure => exact d1.out.1
        case rel => exact ⟨l, n, rfl, hq.out.symm, rfl, HW, n0, by rw [← hu.out]; omega, HLT, O1, ML, hn⟩
end Go.Proofs.Ytnibhkeleogjcaa
