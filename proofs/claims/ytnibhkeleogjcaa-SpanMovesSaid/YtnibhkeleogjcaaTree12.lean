/- Contracts of package span: Next. Conditions: a tree in memory. -/
import Derived.Test.YtnibhkeleogjcaaTree11
namespace Go.Proofs.Ytnibhkeleogjcaa
open Go.ChangeShapes Go.WideShapes Go.ChangeAt Go.RowKit
set_option linter.unusedVariables false
theorem tup_is (o : Option TE) : ∃ a b c d : Int, tup o = .tuple #[.int .i64 a, .int .i64 b, .int .i64 c, .int .i64 d] := by
  cases o with
  | none => exact ⟨_, _, _, _, rfl⟩
  | some e => exact ⟨_, _, _, _, rfl⟩
theorem tnext_ok (w : World) (F : Nat → Prop) (p : Nat) (l : List TE) (h : SpAt w F p l) (k i : Int) :
    Calls Try.prog 18 #[.pointer (some ⟨p, 0, none⟩), .int .i64 k, .int .i64 i] w fun v w' => v = .returned (tup (nextE k i l)) ∧ ∃ q, w' = w.drewN q := by
  obtain ⟨t, h, rfl⟩ := h
  have c0 := h.blk.cell 0
  simp only [List.getElem?_cons_zero] at c0
  have T := hid h.tr
  have SO := hid h.srt
  obtain ⟨q0, hq0⟩ := t.ptr_is
  rw [hq0] at c0
  have Q0 := hid hq0
  clear h hq0
  go_enter Try.func18, Try.ntmps18
  go_wp2
  go_loopg [10, 11] t.deep (fun g s10 s11 wr => ∃ (s : Tr) (o : Option TE), s11 = s.ptr ∧ g = s.deep ∧ Hid (∃ q, wr = w.drewN q) ∧ Hid (BestAt wr s10 o) ∧ Hid (TrAt wr s) ∧ Hid (Srt s.els) ∧ Hid ((nextE k i s.els).or o = nextE k i t.els))
  case atStart => exact ⟨t, none, Q0.out.symm, rfl, ⟨0, rfl⟩, .inl ⟨rfl, rfl⟩, T, SO, by show Option.or _ _ = _; simp⟩
  case round =>
    obtain ⟨s, o, rfl, rfl, HW, HB, S, HS, HL⟩ := hrel
    obtain ⟨qb, rfl⟩ := HB.out.is
    cases s with
    | nil =>
      have hs : (Tr.nil).ptr = .pointer none := rfl
      rw [hs]
      have TOLD := hid (told_best wr _ o HB.out)
      obtain ⟨x1, x2, x3, x4, hx⟩ := tup_is o
      rw [hx] at TOLD
      have HX := hid hx
      clear hs hx
      go_wp2_with (go_at_call 26; refine TOLD.out.mono ?_; rintro v w1 ⟨rfl, q, rfl⟩)
      try simp only [Exit.inBlock, Exit.then]
      refine bodyPost_ret (ret_four rfl _ _ _) rfl ?_
      have e : nextE k i t.els = o := by rw [← HL.out]; rfl
      rw [e, HX.out]
      obtain ⟨q1, rfl⟩ := HW.out
      exact ⟨rfl, _, World.drewN_drewN _ _ _⟩
    | node b x l r =>
      obtain ⟨hb, hl, hr⟩ := S.out
      obtain ⟨o1, o2, o3, o4⟩ := HS.out.mid
      have hs : (Tr.node b x l r).ptr = .pointer (some ⟨b, 0, none⟩) := rfl
      rw [hs]
      have SIDE := hid (side_ok wr b x l.ptr r.ptr _ _ _ hb k i)
      have c3 := hb.cell 3
      have c4 := hb.cell 4
      simp only [nodeC, List.getElem?_cons_succ, List.getElem?_cons_zero] at c3 c4
      have d1 : Hid (l.deep < (Tr.node b x l r).deep ∧ r.deep < (Tr.node b x l r).deep) := hid (by simp only [Tr.deep]; omega)
      have HBK := hid hb
      have HLT := hid hl
      have HRT := hid hr
      by_cases hbe : x.behind k i
      · have hside := sideI_neg.2 hbe
        have hn : Hid ((nextE k i l.els).or (some x) = nextE k i t.els) := hid (by rw [← HL.out]; exact (nextE_left hbe o).symm)
        have O1 := hid o1
        obtain ⟨q, hq⟩ := l.ptr_is
        rw [hq] at c3
        replace hq := hid hq
        clear hs hb hl hr o1 o2 o3 o4 hbe S HS HL
        go_wp2_with fail
        refine SIDE.out.mono ?_
        rintro v w1 ⟨rfl, hw⟩
        subst hw
        go_wp2
        go_quiet (fail)
        go_wp2
        go_roundg l.deep
        case measure => exact d1.out.1
        case rel =>
          obtain ⟨q1, rfl⟩ := HW.out
          exact ⟨l, some x, hq.out.symm, rfl, ⟨_, World.drewN_drewN _ _ _⟩, .inr ⟨b, x, _, _, _, _, _, rfl, rfl, HBK.out.drewN nq⟩, HLT.out.drewN nq, O1, hn⟩
      · have hside : ¬ sideI k i x < 0 := fun h => hbe (sideI_neg.1 h)
        have hn : Hid ((nextE k i r.els).or o = nextE k i t.els) := hid (by
          rw [← HL.out]
          show _ = (nextE k i (l.els ++ x :: r.els)).or o
          rw [nextE_right hbe (fun y hy hh => by
            have := o3 y hy
            unfold TE.before TE.behind at *
            omega)])
        have O2 := hid o2
        obtain ⟨q, hq⟩ := r.ptr_is
        rw [hq] at c4
        replace hq := hid hq
        clear hs hb hl hr o1 o2 o3 o4 hbe S HS HL
        go_wp2_with fail
        refine SIDE.out.mono ?_
        rintro v w1 ⟨rfl, hw⟩
        subst hw
        go_wp2
        go_roundg r.deep
        case measure => exact d1.out.2
        case rel => exact ⟨r, o, hq.out.symm, rfl, HW, HB, HRT, O2, hn⟩
end Go.Proofs.Ytnibhkeleogjcaa
