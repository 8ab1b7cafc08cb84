/- Contracts of package span: At, in range. Conditions: a tree in memory, of few things, with small weights. -/
import Derived.Test.YtnibhkeleogjcaaTree15
namespace Go.Proofs.Ytnibhkeleogjcaa
open Go.ChangeShapes Go.WideShapes Go.ChangeAt Go.RowKit
set_option linter.unusedVariables false
set_option maxRecDepth 100000 in
set_option maxHeartbeats 1000000 in
theorem at_in (w : World) (F : Nat → Prop) (p : Nat) (l : List TE) (h : SpAt w F p l) (hsm : Sm l) (n : Int) (n0 : 0 ≤ n) (n1 : n < sumW l) :
    Calls Try.prog 19 #[.pointer (some ⟨p, 0, none⟩), .int .i64 n] w fun v w' => v = .returned (tup (inE n l)) ∧ ∃ q, w' = w.drewN q := by
  obtain ⟨t, h, rfl⟩ := h
  have c0 := h.blk.cell 0
  simp only [List.getElem?_cons_zero] at c0
  have SUM := hid (sum_ok w t h.tr)
  rw [t.sum_els] at SUM
  have bt := sumW_bd hsm.2
  have bc := hsm.1
  have T := hid h.tr
  have SM := hid hsm
  have N1 := hid n1
  obtain ⟨q0, hq0⟩ := t.ptr_is
  rw [hq0] at c0 SUM
  have Q0 := hid hq0
  clear h hq0 hsm
  obtain ⟨u, hu⟩ : ∃ u, u = sumW t.els := ⟨_, rfl⟩
  rw [← hu] at SUM n1 bt
  have h0 : ¬ n < 0 := by omega
  have h1 : ¬ u ≤ n := by omega
  have hb : u ≤ 2000000000 := by omega
  have HB := hid hb
  replace hu := hid hu
  clear bt bc hb
  go_enter Try.func19, Try.ntmps19
  go_wp2_with fail
  refine SUM.out.mono ?_
  rintro v w1 ⟨rfl, hw⟩
  subst hw
  go_wp2
  clear h0 h1 n1
  go_loopg [1, 9] t.deep (fun g s1 s9 wr => wr = w1 ∧ ∃ (s : Tr) (m : Int), s1 = .int .i64 m ∧ s9 = s.ptr ∧ g = s.deep ∧ 0 ≤ m ∧ m < sumW s.els ∧ sumW s.els ≤ 2000000000 ∧ Hid (TrAt w1 s) ∧ Hid (Sm s.els) ∧ Hid (inE m s.els = inE n t.els))
  case atStart => exact ⟨rfl, t, n, rfl, Q0.out.symm, rfl, n0, N1.out, by rw [← hu.out]; exact HB.out, T, SM, rfl⟩
  case round =>
    obtain ⟨hwr, s, m, rfl, rfl, rfl, m0, m1, m2, S, HM, HL⟩ := hrel
    subst hwr
    cases s with
    | nil => exfalso; simp only [Tr.els, sumW, List.map_nil, List.sum_nil] at m1; omega
    | node b x l r =>
      obtain ⟨hb, hl, hr⟩ := S.out
      have ml := HM.out.left
      have mr := HM.out.right
      have mx := HM.out.mid
      have bl := sumW_bd ml.2
      have br := sumW_bd mr.2
      have hsum : sumW (Tr.node b x l r).els = sumW l.els + (x.w + sumW r.els) := by simp only [Tr.els, sumW_append, sumW_cons]
      rw [hsum] at m1 m2
      have hs : (Tr.node b x l r).ptr = .pointer (some ⟨b, 0, none⟩) := rfl
      rw [hs]
      have c2 := hb.cell 2
      have c3 := hb.cell 3
      have c4 := hb.cell 4
      simp only [nodeC, List.getElem?_cons_succ, List.getElem?_cons_zero] at c2 c3 c4
      have d1 : Hid (l.deep < (Tr.node b x l r).deep ∧ r.deep < (Tr.node b x l r).deep) := hid (by simp only [Tr.deep]; omega)
      have SUML := hid (sum_ok wr l hl)
      have TOLD := hid (told_ok wr b x _ _ _ _ _ hb)
      have E1 : Hid (m < sumW l.els → inE m l.els = inE n t.els) := hid (fun h => by rw [← HL.out]; exact (inE_left m0 h).symm)
      have E2 : Hid (sumW l.els ≤ m → inE (m - sumW l.els) (x :: r.els) = inE n t.els) := hid (fun h => by rw [← HL.out]; exact (inE_right (fun y hy => (ml.2 y hy).1) h).symm)
      have HLT := hid hl
      have HRT := hid hr
      have ML := hid ml
      have MR := hid mr
      obtain ⟨x1, x2⟩ := mx
      have b1 := bl.1
      have b2 := br.1
      obtain ⟨q, hq⟩ := l.ptr_is
      obtain ⟨q', hq'⟩ := r.ptr_is
      rw [hq] at c3 SUML
      rw [hq'] at c4
      rw [l.sum_els] at SUML
      obtain ⟨u, hu⟩ : ∃ u, u = sumW l.els := ⟨_, rfl⟩
      obtain ⟨v, hv⟩ : ∃ v, v = sumW r.els := ⟨_, rfl⟩
      rw [← hu] at SUML m1 m2 b1 E1 E2
      rw [← hv] at m1 m2 b2
      replace hu := hid hu
      replace hv := hid hv
      replace hq := hid hq
      replace hq' := hid hq'
      clear hs hb hl hr S HL HM ml mr bl br hsum
      by_cases k1 : m < u
      · go_wp2_with fail
        refine SUML.out.mono ?_
        rintro v w9 ⟨rfl, hw⟩
        subst hw
        go_wp2
        go_roundg l.deep
        case measure => exact d1.out.1
        case rel => exact ⟨rfl, l, m, rfl, hq.out.symm, rfl, m0, by rw [← hu.out]; exact k1, by rw [← hu.out]; omega, HLT, ML, E1.out k1⟩
      · by_cases k2 : m < u + x.w
        · go_wp2_with fail
          refine SUML.out.mono ?_
          rintro v w9 ⟨rfl, hw⟩
          subst hw
          go_wp2_with fail
          refine TOLD.out.mono ?_
          rintro v w9 ⟨rfl, q, rfl⟩
          go_wp2
          try simp only [Exit.inBlock, Exit.then]
          refine bodyPost_ret (ret_four rfl _ _ _) rfl ?_
          have e := E2.out (by omega)
          rw [← e, show inE (m - u) (x :: r.els) = if m - u < x.w then some x else inE (m - u - x.w) r.els from rfl, if_pos (by omega)]
          exact ⟨rfl, _, rfl⟩
        · go_wp2_with fail
          refine SUML.out.mono ?_
          rintro v w9 ⟨rfl, hw⟩
          subst hw
          go_wp2
          go_roundg r.deep
          case measure => exact d1.out.2
          case rel =>
            have e := E2.out (by omega)
            rw [show inE (m - u) (x :: r.els) = if m - u < x.w then some x else inE (m - u - x.w) r.els from rfl, if_neg (by omega)] at e
            exact ⟨rfl, r, m - (u + x.w), by go_num, hq'.out.symm, rfl, by omega, by rw [← hv.out]; omega, by rw [← hv.out]; omega, HRT, MR, by rw [← e]; congr 1; omega⟩
end Go.Proofs.Ytnibhkeleogjcaa
