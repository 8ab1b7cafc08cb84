/- Contracts of package span: side, put. Conditions: few nodes, small weights, in order. -/
import Derived.Test.YtnibhkeleogjcaaTree3
namespace Go.Proofs.Ytnibhkeleogjcaa
open Go.ChangeShapes Go.WideShapes Go.ChangeAt Go.RowKit
set_option linter.unusedVariables false
theorem isNaN_int (x : Int) (w : World) : Calls Try.prog 34 #[.int .i64 x] w fun e w' => e = .returned (.bool false) ∧ w = w' := by
  go_enter Try.func34, Try.ntmps34
  go_wp2
  go_ret
  exact ⟨by simp, rfl⟩
/-- Which of two numbers is less. -/
def cmpI (x y : Int) : Int := if x < y then -1 else if y < x then 1 else 0
theorem compare_int (x y : Int) (w : World) : Calls Try.prog 31 #[.int .i64 x, .int .i64 y] w fun e w' => e = .returned (.int .i64 (cmpI x y)) ∧ w' = w := by
  by_cases h1 : x < y
  · have : cmpI x y = -1 := by unfold cmpI; rw [if_pos h1]
    rw [this]
    clear this
    go_enter Try.func31, Try.ntmps31
    go_wp2_with (go_at_call 34; refine (isNaN_int _ _).mono ?_; rintro e w' ⟨rfl, rfl⟩)
    go_ret
    exact ⟨rfl, rfl⟩
  · by_cases h2 : y < x
    · have : cmpI x y = 1 := by unfold cmpI; rw [if_neg h1, if_pos h2]
      rw [this]
      clear this
      go_enter Try.func31, Try.ntmps31
      go_wp2_with (go_at_call 34; refine (isNaN_int _ _).mono ?_; rintro e w' ⟨rfl, rfl⟩)
      go_ret
      exact ⟨rfl, rfl⟩
    · have : cmpI x y = 0 := by unfold cmpI; rw [if_neg h1, if_neg h2]
      rw [this]
      have h3 : y ≤ x := by omega
      have h4 : x ≤ y := by omega
      clear this
      go_enter Try.func31, Try.ntmps31
      go_wp2_with (go_at_call 34; refine (isNaN_int _ _).mono ?_; rintro e w' ⟨rfl, rfl⟩)
      go_ret
      exact ⟨rfl, rfl⟩

theorem side_ok (w : World) (b : Nat) (e : TE) (pl pr : Value) (d n s : Int) (hb : Blk w b 49 (nodeC e pl pr d n s)) (k i : Int) :
    Calls Try.prog 27 #[.pointer (some ⟨b, 0, none⟩), .int .i64 k, .int .i64 i] w fun v w' => v = .returned (.int .i64 (sideI k i e)) ∧ w' = w := by
  have c0 := hb.cell 0
  have c1 := hb.cell 1
  simp only [nodeC, List.getElem?_cons_succ, List.getElem?_cons_zero] at c0 c1
  clear hb
  by_cases hk : k = e.key
  · have e1 : sideI k i e = cmpI i e.id := by unfold sideI cmpI; rw [hk]; simp
    have e2 : cmpI k e.key = 0 := by unfold cmpI; rw [hk]; simp
    rw [e1]
    have CI := hid (compare_int i e.id w)
    have CK := hid (compare_int k e.key w)
    rw [e2] at CK
    clear e1 e2 hk
    go_enter Try.func27, Try.ntmps27
    go_wp2_with fail
    refine CK.out.mono ?_
    rintro v w1 ⟨rfl, rfl⟩
    go_wp2_with fail
    refine CI.out.mono ?_
    rintro v w1 ⟨rfl, rfl⟩
    go_wp2
    go_ret
    exact ⟨rfl, rfl⟩
  · have e1 : sideI k i e = cmpI k e.key := by unfold sideI cmpI; split; · rfl
                                               · split; · rfl
                                                 · omega
    have e2 : cmpI k e.key ≠ 0 := by unfold cmpI; split; · omega
                                     · split <;> omega
    rw [e1]
    have CK := hid (compare_int k e.key w)
    obtain ⟨c, hc⟩ : ∃ c, c = cmpI k e.key := ⟨_, rfl⟩
    rw [← hc] at CK e2 ⊢
    clear e1 hk hc
    go_enter Try.func27, Try.ntmps27
    go_wp2_with fail
    refine CK.out.mono ?_
    rintro v w1 ⟨rfl, rfl⟩
    go_wp2
    go_ret
    exact ⟨rfl, rfl⟩
theorem Sm.perm {l m : List TE} (h : Sm m) (hp : l.Perm m) : Sm l := ⟨by rw [hp.length_eq]; exact h.1, fun x hx => h.2 x (hp.mem_iff.1 hx)⟩
/-- What put does. -/
def PutP (w : World) (e : TE) (t : Tr) (v : Ending) (w' : World) : Prop :=
  ∃ t' : Tr, v = .returned t'.ptr ∧ TrAt w' t' ∧ t'.even ∧ t'.els = insE e t.els ∧ (t'.deep ≤ t.deep + 1 ∧ t.deep ≤ t'.deep) ∧ (∀ x ∈ t'.ads, x ∈ t.ads ∨ w.heap.size ≤ x) ∧ t'.ads.Nodup ∧ Chg (Ins t.ads) w w'
theorem Blk.at_new (w : World) (t : TypeId) (cs : List Value) (g : Nat) (h : g = w.heap.size) : Blk (w.alloc (.cells cs.toArray t)) g t cs := by subst h; exact Blk.new _ _ _
set_option maxRecDepth 100000 in
set_option maxHeartbeats 2000000 in
theorem put_ok (e : TE) (t : Tr) : ∀ (w : World), TrAt w t → t.even → t.ads.Nodup → Srt t.els → Sm (e :: t.els) →
    Calls Try.prog 21 #[t.ptr, .int .i64 e.key, .int .i64 e.id, .int .i64 e.w] w (PutP w e t) := by
  induction t with
  | nil =>
    intro w _ _ _ _ hs
    have hw := hs.2 e (by simp)
    have SET := hid (set_ok (w.alloc (.cells (nodeC e (.pointer none) (.pointer none) 0 0 0).toArray 49)) w.heap.size e .nil .nil 0 0 0 (Blk.new _ _ _) trivial trivial (by simp [Tr.ads]) (by simp [Tr.ads]) ⟨by simp [Tr.cnt], by simp [Tr.sum], by simp [Tr.sum]⟩ ⟨by simp [Tr.cnt], by simp [Tr.sum], by simp [Tr.sum]⟩ hw.1 hw.2)
    clear hs hw
    show Calls Try.prog 21 #[.pointer none, .int .i64 e.key, .int .i64 e.id, .int .i64 e.w] w _
    go_enter Try.func21, Try.ntmps21
    go_wp2_with fail
    refine SET.out.mono ?_
    rintro v w1 ⟨rfl, t1, ch1⟩
    replace t1 := hid t1
    replace ch1 := hid ch1
    clear SET
    go_wp2
    go_ret
    refine ⟨.node w.heap.size e .nil .nil, rfl, t1.out, ⟨trivial, trivial, by simp [Tr.deep], by simp [Tr.deep]⟩, rfl, ⟨by simp [Tr.deep], by simp [Tr.deep]⟩, ?_, by simp [Tr.ads], ((Chg.refl (Ins (Tr.nil).ads) w).alloc _).trans ch1.out (fun x hx hh => ?_)⟩
    · intro x hx
      simp only [Tr.ads, List.append_nil, List.mem_singleton] at hx
      exact .inr (Nat.le_of_eq hx.symm)
    · rw [show x = w.heap.size from hh] at hx
      omega
  | node b x l r ihl ihr =>
    intro w ht he hn ho hs
    obtain ⟨hb, hl, hr⟩ := ht
    obtain ⟨e1, e2, e3, e4⟩ := he
    have hn2 := hn
    simp only [Tr.ads, List.nodup_cons, List.mem_append, not_or, List.nodup_append] at hn2
    obtain ⟨⟨n1, n2⟩, n3, n4, n5⟩ := hn2
    obtain ⟨o1, o2, o3, o4⟩ := ho.mid
    have SIDE := hid (side_ok w b x l.ptr r.ptr _ _ _ hb e.key e.id)
    have c3 := hb.cell 3
    have c4 := hb.cell 4
    simp only [nodeC, List.getElem?_cons_succ, List.getElem?_cons_zero] at c3 c4
    have hbl := hb.lt
    by_cases hbe : x.behind e.key e.id
    · have hside := sideI_neg.2 hbe
      have PUT := hid (ihl w hl e1 n3 o1 (hs.sub ((List.sublist_append_left _ _).cons_cons _)))
      have HN := hid (And.intro (And.intro n1 n2) (And.intro n4 n5))
      have HS : Hid (Sm (insE e l.els ++ x :: r.els)) := hid (by
        rw [← insE_left l.els hbe]
        exact hs.perm (insE_perm _ _))
      have HI : Hid (insE e (Tr.node b x l r).els = insE e l.els ++ x :: r.els) := hid (insE_left l.els hbe)
      have HB := hid hb
      have HR := hid hr
      have E2 := hid e2
      have E34 := hid (And.intro e3 e4)
      clear hb hl hr e1 e2 e3 e4 hn n1 n2 n3 n4 n5 o1 o2 o3 o4 ho hs ihl ihr hbe
      show Calls Try.prog 21 #[.pointer (some ⟨b, 0, none⟩), .int .i64 e.key, .int .i64 e.id, .int .i64 e.w] w _
      obtain ⟨ql, hql⟩ := l.ptr_is
      rw [hql] at c3 PUT
      clear hql
      go_enter Try.func21, Try.ntmps21
      go_wp2_with fail
      refine SIDE.out.mono ?_
      rintro v w0 ⟨rfl, hw0⟩
      subst hw0
      go_wp2_with fail
      refine PUT.out.mono ?_
      rintro v w1 ⟨l1, rfl, p1, p2, p3, p4, p5, p6, p7⟩
      have B1 := HB.out.chg p7 HN.out.1.1
      have R1 := HR.out.chg p7 (fun y hy hh => HN.out.2.2 y hh y hy rfl)
      have f3 := B1.frozen 3
      have x3 := B1.cell 3
      simp only [nodeC, List.getElem?_cons_succ, List.getElem?_cons_zero] at x3
      have nb : b ∉ l1.ads := fun hh => (p5 b hh).elim HN.out.1.1 (fun h => by omega)
      have ch2 : Chg (One b) w1 (w1.setCell ⟨b, 3, none⟩ l1.ptr) := (Chg.refl (One b) w1).setCell (p := ⟨b, 3, none⟩) (.inl (show One b b from rfl)) _
      have ND : Hid ((b :: (l1.ads ++ r.ads)).Nodup) := hid (by
        rw [List.nodup_cons, List.mem_append, List.nodup_append, not_or]
        refine ⟨⟨nb, HN.out.1.2⟩, p6, HN.out.2.1, fun y hy z hz hyz => ?_⟩
        rcases p5 y hy with h | h
        · exact HN.out.2.2 y h z hz hyz
        · have := HR.out.lt z hz
          omega)
      have EV := hid (even_ok (w1.setCell ⟨b, 3, none⟩ l1.ptr) b x _ _ _ l1 r (B1.set 3 _) (p1.chg ch2 (fun y hy hh => nb (by rw [← show y = b from hh]; exact hy))) (R1.chg ch2 (fun y hy hh => HN.out.1.2 (by rw [← show y = b from hh]; exact hy))) p2 E2.out ND.out (by rw [p3]; exact HS.out) (by have := E34.out; omega) (by have := E34.out; omega))
      have C1 := hid p7
      have C2 := hid ch2
      have P3 := hid p3
      have P4 := hid p4
      have P5 := hid p5
      obtain ⟨ql, hql⟩ := l1.ptr_is
      rw [hql] at EV C2 ⊢
      clear p1 p2 p3 p4 p5 p6 p7 B1 R1 ch2 nb SIDE PUT hql
      go_wp2_with fail
      refine EV.out.mono ?_
      rintro v w3 ⟨t3, rfl, g1, g2, g3, g4, g5, g6⟩
      have G := hid (And.intro g1 (And.intro g2 (And.intro g3 (And.intro g4 (And.intro g5 g6)))))
      clear g1 g2 g3 g4 g5 g6 EV
      obtain ⟨q3, hq3⟩ := t3.ptr_is
      have Q3 := hid hq3
      rw [hq3]
      clear hq3
      go_wp2
      go_ret
      obtain ⟨g1, g2, g3, g4, g5, g6⟩ := G.out
      have d1 := E34.out
      have d2 := P4.out
      refine ⟨t3, by rw [Q3.out]; rfl, g1, g2, by rw [g3, P3.out, HI.out], ?_, ?_, ?_, ?_⟩
      · simp only [Tr.deep]
        obtain ⟨a1, a2, a3, a4⟩ := g5
        by_cases hh : l1.deep ≤ r.deep + 1
        · have := a4 hh (by omega)
          omega
        · omega
      · intro y hy
        rw [g4.mem_iff] at hy
        simp only [Tr.ads, List.mem_cons, List.mem_append] at hy ⊢
        rcases hy with h | h | h
        · exact .inl (.inl h)
        · exact (P5.out y h).elim (fun h => .inl (.inr (.inl h))) .inr
        · exact .inl (.inr (.inr h))
      · exact g4.nodup_iff.2 ND.out
      · refine ((C1.out.mono (G := Ins (Tr.node b x l r).ads) (fun y _ hy => ?_)).trans C2.out (fun y _ hy => ?_)).trans g6 (fun y hy0 hy => ?_)
        · simp only [Ins, Tr.ads, List.mem_cons, List.mem_append] at hy ⊢
          exact .inr (.inl hy)
        · rw [show y = b from hy]; simp [Ins, Tr.ads]
        · simp only [Ins, Tr.ads, List.mem_cons, List.mem_append] at hy ⊢
          rcases hy with h | h | h
          · exact .inl h
          · exact (P5.out y h).elim (fun h => .inr (.inl h)) (fun h => by omega)
          · exact .inr (.inr h)
    · have hside : ¬ sideI e.key e.id x < 0 := fun h => hbe (sideI_neg.1 h)
      have hbl2 : ∀ y ∈ l.els, ¬ y.behind e.key e.id := by
        intro y hy hh
        have := o3 y hy
        unfold TE.behind TE.before at *
        omega
      have PUT := hid (ihr w hr e2 n4 o2 (hs.sub (((List.sublist_cons_self _ _).trans (List.sublist_append_right _ _)).cons_cons _)))
      have HN := hid (And.intro (And.intro n1 n2) (And.intro n3 n5))
      have HI : Hid (insE e (Tr.node b x l r).els = l.els ++ x :: insE e r.els) := hid (insE_right l.els hbl2 hbe)
      have HS : Hid (Sm (l.els ++ x :: insE e r.els)) := hid (by
        rw [← HI.out]
        exact hs.perm (insE_perm _ _))
      have HB := hid hb
      have HL := hid hl
      have E1 := hid e1
      have E34 := hid (And.intro e3 e4)
      clear hb hl hr e1 e2 e3 e4 hn n1 n2 n3 n4 n5 o1 o2 o3 o4 ho hs ihl ihr hbe hbl2
      show Calls Try.prog 21 #[.pointer (some ⟨b, 0, none⟩), .int .i64 e.key, .int .i64 e.id, .int .i64 e.w] w _
      obtain ⟨qr, hqr⟩ := r.ptr_is
      rw [hqr] at c4 PUT
      clear hqr
      go_enter Try.func21, Try.ntmps21
      go_wp2_with fail
      refine SIDE.out.mono ?_
      rintro v w0 ⟨rfl, hw0⟩
      subst hw0
      go_wp2_with fail
      refine PUT.out.mono ?_
      rintro v w1 ⟨r1, rfl, p1, p2, p3, p4, p5, p6, p7⟩
      have B1 := HB.out.chg p7 HN.out.1.2
      have L1 := HL.out.chg p7 (fun y hy hh => HN.out.2.2 y hy y hh rfl)
      have f4 := B1.frozen 4
      have x4 := B1.cell 4
      simp only [nodeC, List.getElem?_cons_succ, List.getElem?_cons_zero] at x4
      have nb : b ∉ r1.ads := fun hh => (p5 b hh).elim HN.out.1.2 (fun h => by omega)
      have ch2 : Chg (One b) w1 (w1.setCell ⟨b, 4, none⟩ r1.ptr) := (Chg.refl (One b) w1).setCell (p := ⟨b, 4, none⟩) (.inl (show One b b from rfl)) _
      have ND : Hid ((b :: (l.ads ++ r1.ads)).Nodup) := hid (by
        rw [List.nodup_cons, List.mem_append, List.nodup_append, not_or]
        refine ⟨⟨HN.out.1.1, nb⟩, HN.out.2.1, p6, fun y hy z hz hyz => ?_⟩
        rcases p5 z hz with h | h
        · exact HN.out.2.2 y hy z h hyz
        · have := HL.out.lt y hy
          omega)
      have EV := hid (even_ok (w1.setCell ⟨b, 4, none⟩ r1.ptr) b x _ _ _ l r1 (B1.set 4 _) (L1.chg ch2 (fun y hy hh => HN.out.1.1 (by rw [← show y = b from hh]; exact hy))) (p1.chg ch2 (fun y hy hh => nb (by rw [← show y = b from hh]; exact hy))) E1.out p2 ND.out (by rw [p3]; exact HS.out) (by have := E34.out; omega) (by have := E34.out; omega))
      have C1 := hid p7
      have C2 := hid ch2
      have P3 := hid p3
      have P4 := hid p4
      have P5 := hid p5
      obtain ⟨qr, hqr⟩ := r1.ptr_is
      rw [hqr] at EV C2 ⊢
      clear p1 p2 p3 p4 p5 p6 p7 B1 L1 ch2 nb SIDE PUT hqr
      go_wp2_with fail
      refine EV.out.mono ?_
      rintro v w3 ⟨t3, rfl, g1, g2, g3, g4, g5, g6⟩
      have G := hid (And.intro g1 (And.intro g2 (And.intro g3 (And.intro g4 (And.intro g5 g6)))))
      clear g1 g2 g3 g4 g5 g6 EV
      obtain ⟨q3, hq3⟩ := t3.ptr_is
      have Q3 := hid hq3
      rw [hq3]
      clear hq3
      go_wp2
      go_ret
      obtain ⟨g1, g2, g3, g4, g5, g6⟩ := G.out
      have d1 := E34.out
      have d2 := P4.out
      refine ⟨t3, by rw [Q3.out]; rfl, g1, g2, by rw [g3, P3.out, HI.out], ?_, ?_, ?_, ?_⟩
      · simp only [Tr.deep]
        obtain ⟨a1, a2, a3, a4⟩ := g5
        by_cases hh : r1.deep ≤ l.deep + 1
        · have := a4 (by omega) hh
          omega
        · omega
      · intro y hy
        rw [g4.mem_iff] at hy
        simp only [Tr.ads, List.mem_cons, List.mem_append] at hy ⊢
        rcases hy with h | h | h
        · exact .inl (.inl h)
        · exact .inl (.inr (.inl h))
        · exact (P5.out y h).elim (fun h => .inl (.inr (.inr h))) .inr
      · exact g4.nodup_iff.2 ND.out
      · refine ((C1.out.mono (G := Ins (Tr.node b x l r).ads) (fun y _ hy => ?_)).trans C2.out (fun y _ hy => ?_)).trans g6 (fun y hy0 hy => ?_)
        · simp only [Ins, Tr.ads, List.mem_cons, List.mem_append] at hy ⊢
          exact .inr (.inr hy)
        · rw [show y = b from hy]; simp [Ins, Tr.ads]
        · simp only [Ins, Tr.ads, List.mem_cons, List.mem_append] at hy ⊢
          rcases hy with h | h | h
          · exact .inl h
          · exact .inr (.inl h)
          · exact (P5.out y h).elim (fun h => .inr (.inr h)) (fun h => by omega)
end Go.Proofs.Ytnibhkeleogjcaa
