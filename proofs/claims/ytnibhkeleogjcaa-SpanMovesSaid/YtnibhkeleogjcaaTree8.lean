/- Contracts of package span: New, Put, Out. Conditions: few nodes, small weights. -/
import Derived.Test.YtnibhkeleogjcaaTree7
namespace Go.Proofs.Ytnibhkeleogjcaa
open Go.ChangeShapes Go.WideShapes Go.ChangeAt Go.RowKit
set_option linter.unusedVariables false
/-- A tree of things lies in memory. -/
structure SpA (w : World) (F : Nat → Prop) (p : Nat) (t : Tr) : Prop where
  blk : Blk w p 43 [t.ptr]
  tr : TrAt w t
  ev : t.even
  srt : Srt t.els
  nd : (p :: t.ads).Nodup
  fp : F p
  fa : ∀ x ∈ t.ads, F x
  lt : ∀ x, F x → x < w.heap.size
def SpAt (w : World) (F : Nat → Prop) (p : Nat) (l : List TE) : Prop := ∃ t, SpA w F p t ∧ t.els = l
theorem SpA.chg {w w' : World} {F H : Nat → Prop} {p : Nat} {t : Tr} (h : SpA w F p t) (hc : Chg H w w') (hd : Dj F H) : SpA w' F p t :=
  ⟨h.blk.chg hc (hd p h.fp), h.tr.chg hc (fun x hx => hd x (h.fa x hx)), h.ev, h.srt, h.nd, h.fp, h.fa, fun x hx => Nat.lt_of_lt_of_le (h.lt x hx) hc.size⟩
theorem SpAt.chg {w w' : World} {F H : Nat → Prop} {p : Nat} {l : List TE} (h : SpAt w F p l) (hc : Chg H w w') (hd : Dj F H) : SpAt w' F p l := by
  obtain ⟨t, h, e⟩ := h
  exact ⟨t, h.chg hc hd, e⟩
theorem SpAt.srt {w : World} {F : Nat → Prop} {p : Nat} {l : List TE} (h : SpAt w F p l) : Srt l := by
  obtain ⟨t, h, rfl⟩ := h
  exact h.srt
theorem spnew_ok (w : World) : Calls Try.prog 8 #[] w fun e w' => e = .returned (.pointer (some ⟨w.heap.size, 0, none⟩)) ∧ SpAt w' (One w.heap.size) w.heap.size [] ∧ Chg Nil w w' := by
  go_enter Try.func8, Try.ntmps8
  go_wp2
  go_ret
  refine ⟨rfl, ⟨.nil, ⟨Blk.new w _ [.pointer none], trivial, trivial, List.Pairwise.nil, by simp [Tr.ads], rfl, (fun x hx => by cases hx), (fun x hx => ?_)⟩, rfl⟩, (Chg.refl _ _).alloc _⟩
  rw [show x = w.heap.size from hx]
  simp
theorem put_bad (w : World) (p : Nat) (k i z : Int) (hz : z < 0 ∨ 1000000 < z) :
    Calls Try.prog 9 #[.pointer (some ⟨p, 0, none⟩), .int .i64 k, .int .i64 i, .int .i64 z] w fun v w' => v = .returned (.int .i64 1) ∧ w' = w := by
  by_cases h : z < 0
  · clear hz
    go_enter Try.func9, Try.ntmps9
    go_wp2
    go_ret
    exact ⟨rfl, rfl⟩
  · have h2 : 1000000 < z := by omega
    clear hz
    go_enter Try.func9, Try.ntmps9
    go_wp2
    go_ret
    exact ⟨rfl, rfl⟩
theorem put_there (w : World) (F : Nat → Prop) (p : Nat) (l : List TE) (h : SpAt w F p l) (k i z : Int) (h0 : 0 ≤ z) (h1 : z ≤ 1000000) (hin : ∃ x ∈ l, x.at k i) :
    Calls Try.prog 9 #[.pointer (some ⟨p, 0, none⟩), .int .i64 k, .int .i64 i, .int .i64 z] w fun v w' => v = .returned (.int .i64 5) ∧ w' = w := by
  obtain ⟨t, h, rfl⟩ := h
  have FIND := hid (find_ok w p t k i h.blk h.tr)
  have hz1 : ¬ z < 0 := by omega
  have hz2 : ¬ 1000000 < z := by omega
  cases hl : t.look k i with
  | none =>
    exfalso
    obtain ⟨x, hx, hx2⟩ := hin
    exact Tr.look_none h.srt hl x hx hx2
  | some bx =>
    obtain ⟨b, x⟩ := bx
    rw [hl] at FIND
    clear h hin hl
    go_enter Try.func9, Try.ntmps9
    unfold lookP at FIND
    go_wp2_with (go_at_call 20; refine FIND.out.mono ?_; rintro v w1 ⟨rfl, rfl⟩)
    go_ret
    exact ⟨rfl, rfl⟩
set_option maxRecDepth 100000 in
set_option maxHeartbeats 1000000 in
theorem put_new (w : World) (F : Nat → Prop) (p : Nat) (l : List TE) (h : SpAt w F p l) (k i z : Int) (h0 : 0 ≤ z) (h1 : z ≤ 1000000) (hin : ∀ x ∈ l, ¬ x.at k i) (hs : Sm (⟨k, i, z⟩ :: l)) :
    Calls Try.prog 9 #[.pointer (some ⟨p, 0, none⟩), .int .i64 k, .int .i64 i, .int .i64 z] w fun v w' => v = .returned (.int .i64 0) ∧ ∃ F', SpAt w' F' p (insE ⟨k, i, z⟩ l) ∧ Chg F w w' ∧ (∀ x, F x → F' x) ∧ ∀ x, F' x → F x ∨ w.heap.size ≤ x := by
  obtain ⟨t, h, rfl⟩ := h
  have FIND := hid (find_ok w p t k i h.blk h.tr)
  have hz1 : ¬ z < 0 := by omega
  have hz2 : ¬ 1000000 < z := by omega
  have hl : t.look k i = none := by
    cases hl : t.look k i with
    | none => rfl
    | some bx =>
      obtain ⟨a1, a2, _⟩ := Tr.look_some h.tr hl
      exact absurd a2 (hin _ a1)
  rw [hl] at FIND
  have PUT := hid (put_ok ⟨k, i, z⟩ t w h.tr h.ev (List.nodup_cons.1 h.nd).2 h.srt hs)
  have c0 := h.blk.cell 0
  simp only [List.getElem?_cons_zero] at c0
  have HI := hid (insE_srt (e := ⟨k, i, z⟩) h.srt hin)
  obtain ⟨q0, hq0⟩ := t.ptr_is
  rw [hq0] at c0 PUT
  have H := hid h
  clear h hin hs hl hq0
  go_enter Try.func9, Try.ntmps9
  unfold lookP at FIND
  go_wp2_with fail
  refine FIND.out.mono ?_
  rintro v w1 ⟨rfl, hw⟩
  subst hw
  clear FIND
  go_wp2_with fail
  refine PUT.out.mono ?_
  rintro v w2 ⟨t1, rfl, p1, p2, p3, p4, p5, p6, p7⟩
  have np : p ∉ t.ads := (List.nodup_cons.1 H.out.nd).1
  have np1 : p ∉ t1.ads := fun hh => (p5 p hh).elim np (fun h => by have := H.out.blk.lt; omega)
  have B1 := H.out.blk.chg p7 np
  have f0 := B1.frozen 0
  have x0 := B1.cell 0
  simp only [List.getElem?_cons_zero] at x0
  have ch2 : Chg (One p) w2 (w2.setCell ⟨p, 0, none⟩ t1.ptr) := (Chg.refl (One p) w2).setCell (p := ⟨p, 0, none⟩) (.inl (show One p p from rfl)) _
  have SP : Hid (SpA (w2.setCell ⟨p, 0, none⟩ t1.ptr) (Or2 F (fun x => x ∈ t1.ads)) p t1) := hid ⟨B1.set 0 _, p1.chg ch2 (fun y hy hh => np1 (by rw [← show y = p from hh]; exact hy)), p2, by rw [p3]; exact HI.out, List.nodup_cons.2 ⟨np1, p6⟩, .inl H.out.fp, fun x hx => .inr hx, fun x hx => by
    refine Nat.lt_of_lt_of_le ?_ ch2.size
    rcases hx with hx | hx
    · exact Nat.lt_of_lt_of_le (H.out.lt x hx) p7.size
    · exact p1.lt x hx⟩
  have C := hid ((p7.mono (G := F) (fun x _ hx => H.out.fa x hx)).trans ch2 (fun x _ hx => by rw [show x = p from hx]; exact H.out.fp))
  have P3 := hid p3
  have P5 := hid p5
  obtain ⟨q1, hq1⟩ := t1.ptr_is
  rw [hq1] at SP C ⊢
  clear p1 p2 p3 p4 p5 p6 p7 B1 ch2 np np1 PUT hq1
  go_wp2
  go_ret
  exact ⟨rfl, _, ⟨t1, SP.out, P3.out⟩, C.out, fun x hx => .inl hx, fun x hx => hx.elim .inl (fun hx => (P5.out x hx).elim (fun h => .inl (H.out.fa x h)) .inr)⟩
theorem out_none (w : World) (F : Nat → Prop) (p : Nat) (l : List TE) (h : SpAt w F p l) (k i : Int) (hin : ∀ x ∈ l, ¬ x.at k i) :
    Calls Try.prog 12 #[.pointer (some ⟨p, 0, none⟩), .int .i64 k, .int .i64 i] w fun v w' => v = .returned (.tuple #[.int .i64 0, .int .i64 4]) ∧ w' = w := by
  obtain ⟨t, h, rfl⟩ := h
  have FIND := hid (find_ok w p t k i h.blk h.tr)
  have hl : t.look k i = none := by
    cases hl : t.look k i with
    | none => rfl
    | some bx =>
      obtain ⟨a1, a2, _⟩ := Tr.look_some h.tr hl
      exact absurd a2 (hin _ a1)
  rw [hl] at FIND
  clear h hin hl
  unfold lookP at FIND
  go_enter Try.func12, Try.ntmps12
  go_wp2_with (go_at_call 20; refine FIND.out.mono ?_; rintro v w1 ⟨rfl, rfl⟩)
  go_ret2
  exact ⟨rfl, rfl⟩
set_option maxRecDepth 100000 in
set_option maxHeartbeats 1000000 in
theorem out_there (w : World) (F : Nat → Prop) (p : Nat) (l : List TE) (h : SpAt w F p l) (e : TE) (hin : e ∈ l) (hs : Sm l) :
    Calls Try.prog 12 #[.pointer (some ⟨p, 0, none⟩), .int .i64 e.key, .int .i64 e.id] w fun v w' => v = .returned (.tuple #[.int .i64 e.w, .int .i64 0]) ∧ SpAt w' F p (outE e.key e.id l) ∧ Chg F w w' := by
  obtain ⟨t, h, rfl⟩ := h
  have FIND := hid (find_ok w p t e.key e.id h.blk h.tr)
  cases hl : t.look e.key e.id with
  | none => exact absurd ⟨rfl, rfl⟩ (Tr.look_none h.srt hl e hin)
  | some bx =>
    obtain ⟨b, x⟩ := bx
    obtain ⟨a1, a2, pl, pr, d, n, s, a3⟩ := Tr.look_some h.tr hl
    rw [hl] at FIND
    have hx : x = e := by
      rcases List.getElem_of_mem a1 with ⟨m, hm, rfl⟩
      rcases List.getElem_of_mem hin with ⟨m', hm', rfl⟩
      have hp := List.pairwise_iff_getElem.1 h.srt
      rcases Nat.lt_trichotomy m m' with hlt | rfl | hlt
      · have := hp m m' hm hm' hlt
        unfold TE.before TE.at at *; omega
      · rfl
      · have := hp m' m hm' hm hlt
        unfold TE.before TE.at at *; omega
    subst hx
    have c2 := a3.cell 2
    simp only [nodeC, List.getElem?_cons_succ, List.getElem?_cons_zero] at c2
    have OUT := hid (out_ok x.key x.id t w h.tr h.ev (List.nodup_cons.1 h.nd).2 h.srt hs ⟨x, hin, rfl, rfl⟩)
    have c0 := h.blk.cell 0
    simp only [List.getElem?_cons_zero] at c0
    obtain ⟨q0, hq0⟩ := t.ptr_is
    rw [hq0] at c0 OUT
    have H := hid h
    clear h hin hs hl hq0 a1 a2 a3
    unfold lookP at FIND
    go_enter Try.func12, Try.ntmps12
    go_wp2_with fail
    refine FIND.out.mono ?_
    rintro v w1 ⟨rfl, hw⟩
    subst hw
    clear FIND
    go_wp2_with fail
    refine OUT.out.mono ?_
    rintro v w2 ⟨t1, rfl, p1, p2, p3, p4, p5, p6, p7⟩
    have np : p ∉ t.ads := (List.nodup_cons.1 H.out.nd).1
    have np1 : p ∉ t1.ads := fun hh => np (p5 p hh)
    have B1 := H.out.blk.chg p7 np
    have f0 := B1.frozen 0
    have x0 := B1.cell 0
    simp only [List.getElem?_cons_zero] at x0
    have ch2 : Chg (One p) w2 (w2.setCell ⟨p, 0, none⟩ t1.ptr) := (Chg.refl (One p) w2).setCell (p := ⟨p, 0, none⟩) (.inl (show One p p from rfl)) _
    have SP : Hid (SpA (w2.setCell ⟨p, 0, none⟩ t1.ptr) F p t1) := hid ⟨B1.set 0 _, p1.chg ch2 (fun y hy hh => np1 (by rw [← show y = p from hh]; exact hy)), p2, by rw [p3]; exact outE_srt H.out.srt, List.nodup_cons.2 ⟨np1, p6⟩, H.out.fp, fun x hx => H.out.fa x (p5 x hx), fun x hx => Nat.lt_of_lt_of_le (Nat.lt_of_lt_of_le (H.out.lt x hx) p7.size) ch2.size⟩
    have C := hid ((p7.mono (G := F) (fun x _ hx => H.out.fa x hx)).trans ch2 (fun x _ hx => by rw [show x = p from hx]; exact H.out.fp))
    have P3 := hid p3
    obtain ⟨q1, hq1⟩ := t1.ptr_is
    rw [hq1] at SP C ⊢
    clear p1 p2 p3 p4 p5 p6 p7 B1 ch2 np np1 OUT hq1
    go_wp2
    go_ret2
    exact ⟨rfl, ⟨t1, SP.out, P3.out⟩, C.out⟩
end Go.Proofs.Ytnibhkeleogjcaa
