/- Contracts of package span: out. Conditions: few nodes, small weights, in order; the thing is there. -/
import Derived.Test.YtnibhkeleogjcaaTree5
namespace Go.Proofs.Ytnibhkeleogjcaa
open Go.ChangeShapes Go.WideShapes Go.ChangeAt Go.RowKit
set_option linter.unusedVariables false
/-- What out does. -/
def OutP (w : World) (k i : Int) (t : Tr) (v : Ending) (w' : World) : Prop :=
  ∃ t' : Tr, v = .returned t'.ptr ∧ TrAt w' t' ∧ t'.even ∧ t'.els = outE k i t.els ∧ (t'.deep ≤ t.deep ∧ t.deep ≤ t'.deep + 1) ∧ (∀ x ∈ t'.ads, x ∈ t.ads) ∧ t'.ads.Nodup ∧ Chg (Ins t.ads) w w'
theorem not_at_left {k i : Int} {x y : TE} (h : y.before x.key x.id) (hx : x.at k i) : ¬ y.at k i := by
  unfold TE.before TE.at at *; omega
theorem not_at_right {k i : Int} {x y : TE} (h : x.before y.key y.id) (hx : x.at k i) : ¬ y.at k i := by
  unfold TE.before TE.at at *; omega
set_option maxRecDepth 100000 in
set_option maxHeartbeats 4000000 in
theorem out_ok (k i : Int) (t : Tr) : ∀ (w : World), TrAt w t → t.even → t.ads.Nodup → Srt t.els → Sm t.els → (∃ z ∈ t.els, z.at k i) →
    Calls Try.prog 23 #[t.ptr, .int .i64 k, .int .i64 i] w (OutP w k i t) := by
  induction t with
  | nil => intro w _ _ _ _ _ h; obtain ⟨z, hz, _⟩ := h; cases hz
  | node b x l r ihl ihr =>
    intro w ht he hn ho hs hin
    obtain ⟨hb, hl, hr⟩ := ht
    obtain ⟨e1, e2, e3, e4⟩ := he
    have hn2 := hn
    simp only [Tr.ads, List.nodup_cons, List.mem_append, not_or, List.nodup_append] at hn2
    obtain ⟨⟨n1, n2⟩, n3, n4, n5⟩ := hn2
    obtain ⟨o1, o2, o3, o4⟩ := ho.mid
    have SIDE := hid (side_ok w b x l.ptr r.ptr _ _ _ hb k i)
    have c3 := hb.cell 3
    have c4 := hb.cell 4
    simp only [nodeC, List.getElem?_cons_succ, List.getElem?_cons_zero] at c3 c4
    show Calls Try.prog 23 #[.pointer (some ⟨b, 0, none⟩), .int .i64 k, .int .i64 i] w _
    rcases x.three k i with hbe | hbe | hbe
    · -- behind the node: to the right
      have hside : 0 < sideI k i x := sideI_pos.2 hbe
      have hside2 : ¬ sideI k i x < 0 := by omega
      have hnb : ¬ x.behind k i := fun h => by have := sideI_neg.2 h; omega
      have hna : ¬ x.at k i := fun h => by have := sideI_zero.2 h; omega
      have hno : ∀ y ∈ l.els, ¬ y.at k i := fun y hy h => by
        have := o3 y hy
        unfold TE.before TE.at at *
        omega
      have hin2 : ∃ z ∈ r.els, z.at k i := by
        obtain ⟨z, hz, hz2⟩ := hin
        simp only [Tr.els, List.mem_append, List.mem_cons] at hz
        rcases hz with h | h | h
        · exact absurd hz2 (hno z h)
        · exact absurd (h ▸ hz2) hna
        · exact ⟨z, h, hz2⟩
      have OUT := hid (ihr w hr e2 n4 o2 hs.right hin2)
      have HN := hid (And.intro (And.intro n1 n2) (And.intro n3 n5))
      have HI : Hid (outE k i (Tr.node b x l r).els = l.els ++ x :: outE k i r.els) := hid (by
        simp only [Tr.els]
        rw [outE_append, outE_not hna, outE_none hno])
      have HS : Hid (Sm (l.els ++ x :: outE k i r.els)) := hid (by
        rw [← HI.out]
        exact hs.sub List.filter_sublist)
      have HB := hid hb
      have HL := hid hl
      have E1 := hid e1
      have E34 := hid (And.intro e3 e4)
      clear hb hl hr e1 e2 e3 e4 hn n1 n2 n3 n4 n5 o1 o2 o3 o4 ho hs ihl ihr hbe hno hin hin2 hna hnb
      obtain ⟨qr, hqr⟩ := r.ptr_is
      rw [hqr] at c4 OUT
      clear hqr
      go_enter Try.func23, Try.ntmps23
      go_wp2_with fail
      refine SIDE.out.mono ?_
      rintro v w0 ⟨rfl, hw0⟩
      subst hw0
      go_wp2_with fail
      refine OUT.out.mono ?_
      rintro v w1 ⟨r1, rfl, p1, p2, p3, p4, p5, p6, p7⟩
      have B1 := HB.out.chg p7 HN.out.1.2
      have L1 := HL.out.chg p7 (fun y hy hh => HN.out.2.2 y hy y hh rfl)
      have f4 := B1.frozen 4
      have x4 := B1.cell 4
      simp only [nodeC, List.getElem?_cons_succ, List.getElem?_cons_zero] at x4
      have nb : b ∉ r1.ads := fun hh => HN.out.1.2 (p5 b hh)
      have ch2 : Chg (One b) w1 (w1.setCell ⟨b, 4, none⟩ r1.ptr) := (Chg.refl (One b) w1).setCell (p := ⟨b, 4, none⟩) (.inl (show One b b from rfl)) _
      have ND : Hid ((b :: (l.ads ++ r1.ads)).Nodup) := hid (by
        rw [List.nodup_cons, List.mem_append, List.nodup_append, not_or]
        exact ⟨⟨HN.out.1.1, nb⟩, HN.out.2.1, p6, fun y hy z hz hyz => HN.out.2.2 y hy z (p5 z hz) hyz⟩)
      have EV := hid (even_ok (w1.setCell ⟨b, 4, none⟩ r1.ptr) b x _ _ _ l r1 (B1.set 4 _) (L1.chg ch2 (fun y hy hh => HN.out.1.1 (by rw [← show y = b from hh]; exact hy))) (p1.chg ch2 (fun y hy hh => nb (by rw [← show y = b from hh]; exact hy))) E1.out p2 ND.out (by rw [p3]; exact HS.out) (by have := E34.out; omega) (by have := E34.out; omega))
      have C1 := hid p7
      have C2 := hid ch2
      have P3 := hid p3
      have P4 := hid p4
      have P5 := hid p5
      obtain ⟨qr, hqr⟩ := r1.ptr_is
      rw [hqr] at EV C2 ⊢
      clear p1 p2 p3 p4 p5 p6 p7 B1 L1 ch2 nb SIDE OUT hqr
      go_wp2_with fail
      refine EV.out.mono ?_
      rintro v w3 ⟨t3, rfl, g1, g2, g3, g4, g5, g6⟩
      have G := hid (And.intro g1 (And.intro g2 (And.intro g3 (And.intro g4 (And.intro g5 g6)))))
      clear g1 g2 g3 g4 g5 g6 EV
      obtain ⟨q3, hq3⟩ := t3.ptr_is
      have Q3 := hid hq3
      rw [hq3]
      clear hq3
      go_wp2
      go_ret
      obtain ⟨g1, g2, g3, g4, g5, g6⟩ := G.out
      have d1 := E34.out
      have d2 := P4.out
      refine ⟨t3, by rw [Q3.out]; rfl, g1, g2, by rw [g3, P3.out, HI.out], ?_, ?_, ?_, ?_⟩
      · simp only [Tr.deep]
        obtain ⟨a1, a2, a3, a4⟩ := g5
        by_cases hh : l.deep ≤ r1.deep + 1
        · have := a4 hh (by omega)
          omega
        · omega
      · intro y hy
        rw [g4.mem_iff] at hy
        simp only [Tr.ads, List.mem_cons, List.mem_append] at hy ⊢
        rcases hy with h | h | h
        · exact .inl h
        · exact .inr (.inl h)
        · exact .inr (.inr (P5.out y h))
      · exact g4.nodup_iff.2 ND.out
      · refine ((C1.out.mono (G := Ins (Tr.node b x l r).ads) (fun y _ hy => ?_)).trans C2.out (fun y _ hy => ?_)).trans g6 (fun y hy0 hy => ?_)
        · simp only [Ins, Tr.ads, List.mem_cons, List.mem_append] at hy ⊢
          exact .inr (.inr hy)
        · rw [show y = b from hy]; simp [Ins, Tr.ads]
        · simp only [Ins, Tr.ads, List.mem_cons, List.mem_append] at hy ⊢
          rcases hy with h | h | h
          · exact .inl h
          · exact .inr (.inl h)
          · exact .inr (.inr (P5.out y h))
    · -- the node itself
      have hside : sideI k i x = 0 := sideI_zero.2 hbe
      rw [hside] at SIDE
      have hnl : ∀ y ∈ l.els, ¬ y.at k i := fun y hy => not_at_left (o3 y hy) hbe
      have hnr : ∀ y ∈ r.els, ¬ y.at k i := fun y hy => not_at_right (o4 y hy) hbe
      have HI : Hid (outE k i (Tr.node b x l r).els = l.els ++ r.els) := hid (by
        simp only [Tr.els]
        rw [outE_append, outE_at hbe, outE_none hnl, outE_none hnr])
      have HN := hid (And.intro (And.intro n1 n2) (And.intro n3 (And.intro n4 n5)))
      have HB := hid hb
      have HL := hid hl
      have HR := hid hr
      have HS := hid hs
      have E1 := hid e1
      have E2 := hid e2
      have E34 := hid (And.intro e3 e4)
      clear hb hl hr e1 e2 e3 e4 hn n1 n2 n3 n4 n5 o1 o2 o3 o4 ho hs ihl ihr hbe hin hnl hnr hside
      cases l with
      | nil =>
        replace c3 : w.cell? ⟨b, 3, none⟩ = some (.pointer none) := c3
        obtain ⟨qr, hqr⟩ := r.ptr_is
        rw [hqr] at c4
        have QR := hid hqr
        clear hqr
        go_enter Try.func23, Try.ntmps23
        go_wp2_with fail
        refine SIDE.out.mono ?_
        rintro v w0 ⟨rfl, hw0⟩
        subst hw0
        go_wp2
        go_ret
        have d := E34.out
        simp only [Tr.deep] at d
        exact ⟨r, by rw [QR.out]; rfl, HR.out, E2.out, HI.out.symm, ⟨by simp only [Tr.deep]; omega, by simp only [Tr.deep]; omega⟩, fun y hy => by simp [Tr.ads, hy], HN.out.2.2.1, Chg.refl _ _⟩
      | node bl xl ll lr =>
        cases r with
        | nil =>
          replace c3 : w.cell? ⟨b, 3, none⟩ = some (.pointer (some ⟨bl, 0, none⟩)) := c3
          replace c4 : w.cell? ⟨b, 4, none⟩ = some (.pointer none) := c4
          go_enter Try.func23, Try.ntmps23
          go_wp2_with fail
          refine SIDE.out.mono ?_
          rintro v w0 ⟨rfl, hw0⟩
          subst hw0
          go_wp2
          go_ret
          have d := E34.out
          refine ⟨.node bl xl ll lr, rfl, HL.out, E1.out, ?_, ⟨?_, ?_⟩, ?_, HN.out.2.1, Chg.refl _ _⟩
          · rw [HI.out]; simp [Tr.els]
          · simp only [Tr.deep] at d ⊢; omega
          · simp only [Tr.deep] at d ⊢; omega
          · intro y hy
            simp only [Tr.ads, List.mem_cons, List.mem_append] at hy ⊢
            exact .inr (.inl hy)
        | node br xr rl rr =>
          obtain ⟨l, hl0⟩ : ∃ l, l = Tr.node bl xl ll lr := ⟨_, rfl⟩
          have hp : l.ptr = .pointer (some ⟨bl, 0, none⟩) := by rw [hl0]; rfl
          rw [← hl0] at c3 HI HN HB HL HS E1 E34 ⊢
          clear hl0
          obtain ⟨r, hr0⟩ : ∃ r, r = Tr.node br xr rl rr := ⟨_, rfl⟩
          have hpr : r.ptr = .pointer (some ⟨br, 0, none⟩) := by rw [hr0]; rfl
          have hne : r ≠ .nil := by rw [hr0]; exact fun h => by cases h
          rw [← hr0] at c4 HI HN HB HR HS E2 E34 ⊢
          clear hr0
          have LE := hid (least_ok r w hne HR.out E2.out HN.out.2.2.1 HS.out.right)
          rw [hp] at c3
          rw [hpr] at c4 LE
          have HP := hid hp
          clear hp hpr hne
          go_enter Try.func23, Try.ntmps23
          go_wp2_with fail
          refine SIDE.out.mono ?_
          rintro v w0 ⟨rfl, hw0⟩
          subst hw0
          go_wp2_with fail
          refine LE.out.mono ?_
          rintro v w1 ⟨f, y, pl, pr, dd, nn, ss, r1, rfl, g1, g2, g3, g4, g5, g6, g7⟩
          have hf : f ∈ r.ads := g6.mem_iff.2 List.mem_cons_self
          have hr1 : ∀ z ∈ r1.ads, z ∈ r.ads := fun z hz => g6.mem_iff.2 (List.mem_cons_of_mem _ hz)
          have hnd := (g6.nodup_iff.1 HN.out.2.2.1)
          have B1 := HB.out.chg g7 HN.out.1.2
          have L1 := HL.out.chg g7 (fun y hy hh => HN.out.2.2.2 y hy y hh rfl)
          have x3 := B1.cell 3
          have f3 := g1.frozen 3
          have f4 := g1.frozen 4
          have y3 := g1.cell 3
          have y4 := g1.cell 4
          simp only [nodeC, List.getElem?_cons_succ, List.getElem?_cons_zero] at x3 y3 y4
          rw [HP.out] at x3
          have nfl : f ∉ l.ads := fun hh => HN.out.2.2.2 f hh f hf rfl
          have nfr : f ∉ r1.ads := (List.nodup_cons.1 hnd).1
          have ch2 : Chg (One f) w1 ((w1.setCell ⟨f, 3, none⟩ (.pointer (some ⟨bl, 0, none⟩))).setCell ⟨f, 4, none⟩ r1.ptr) := ((Chg.refl (One f) w1).setCell (p := ⟨f, 3, none⟩) (.inl (show One f f from rfl)) _).setCell (p := ⟨f, 4, none⟩) (.inl (show One f f from rfl)) _
          have ND : Hid ((f :: (l.ads ++ r1.ads)).Nodup) := hid (by
            rw [List.nodup_cons, List.mem_append, List.nodup_append, not_or]
            exact ⟨⟨nfl, nfr⟩, HN.out.2.1, (List.nodup_cons.1 hnd).2, fun y hy z hz hyz => HN.out.2.2.2 y hy z (hr1 z hz) hyz⟩)
          have hbf : Blk ((w1.setCell ⟨f, 3, none⟩ (.pointer (some ⟨bl, 0, none⟩))).setCell ⟨f, 4, none⟩ r1.ptr) f 49 (nodeC y l.ptr r1.ptr dd nn ss) := by
            rw [HP.out]
            exact (g1.set 3 _).set 4 _
          have EV := hid (even_ok ((w1.setCell ⟨f, 3, none⟩ (.pointer (some ⟨bl, 0, none⟩))).setCell ⟨f, 4, none⟩ r1.ptr) f y _ _ _ l r1 hbf (L1.chg ch2 (fun y hy hh => nfl (by rw [← show y = f from hh]; exact hy))) (g2.chg ch2 (fun y hy hh => nfr (by rw [← show y = f from hh]; exact hy))) E1.out g3 ND.out (HS.out.sub (by
            show (l.els ++ y :: r1.els).Sublist (l.els ++ x :: r.els)
            rw [g4]
            exact (List.Sublist.refl _).append (List.sublist_cons_self _ _))) (by have := E34.out; omega) (by have := E34.out; omega))
          have C1 := hid g7
          have C2 := hid ch2
          have G4 := hid g4
          have G5 := hid g5
          have HF := hid hf
          have R1 := hid hr1
          obtain ⟨ql, hql⟩ := r1.ptr_is
          rw [hql] at EV C2 ⊢
          clear g1 g2 g3 g4 g5 g6 g7 B1 L1 ch2 LE hql hf hr1 hnd nfl nfr hbf SIDE
          go_wp2_with fail
          refine EV.out.mono ?_
          rintro v w3 ⟨t3, rfl, g1, g2, g3, g4, g5, g6⟩
          have G := hid (And.intro g1 (And.intro g2 (And.intro g3 (And.intro g4 (And.intro g5 g6)))))
          clear g1 g2 g3 g4 g5 g6 EV
          obtain ⟨q3, hq3⟩ := t3.ptr_is
          have Q3 := hid hq3
          rw [hq3]
          clear hq3
          go_wp2
          go_ret
          obtain ⟨g1, g2, g3, g4, g5, g6⟩ := G.out
          have d1 := E34.out
          have d2 := G5.out
          refine ⟨t3, by rw [Q3.out]; rfl, g1, g2, by rw [g3, HI.out, G4.out], ?_, ?_, g4.nodup_iff.2 ND.out, ?_⟩
          · simp only [Tr.deep]
            obtain ⟨a1, a2, a3, a4⟩ := g5
            by_cases hh : l.deep ≤ r1.deep + 1
            · have := a4 hh (by omega)
              omega
            · omega
          · intro z hz
            rw [g4.mem_iff] at hz
            simp only [Tr.ads, List.mem_cons, List.mem_append] at hz ⊢
            rcases hz with h | h | h
            · exact .inr (.inr (h ▸ HF.out))
            · exact .inr (.inl h)
            · exact .inr (.inr (R1.out z h))
          · refine ((C1.out.mono (G := Ins (Tr.node b x l r).ads) (fun z _ hz => ?_)).trans C2.out (fun z _ hz => ?_)).trans g6 (fun z _ hz => ?_)
            · simp only [Ins, Tr.ads, List.mem_cons, List.mem_append] at hz ⊢
              exact .inr (.inr hz)
            · rw [show z = f from hz]
              simp only [Ins, Tr.ads, List.mem_cons, List.mem_append]
              exact .inr (.inr HF.out)
            · simp only [Ins, Tr.ads, List.mem_cons, List.mem_append] at hz ⊢
              rcases hz with h | h | h
              · exact .inr (.inr (h ▸ HF.out))
              · exact .inr (.inl h)
              · exact .inr (.inr (R1.out z h))
    · -- ahead of the node: to the left
      have hside : sideI k i x < 0 := sideI_neg.2 hbe
      have hna : ¬ x.at k i := fun h => by have := sideI_zero.2 h; omega
      have hno : ∀ y ∈ r.els, ¬ y.at k i := fun y hy h => by
        have := o4 y hy
        unfold TE.before TE.behind TE.at at *
        omega
      have hin2 : ∃ z ∈ l.els, z.at k i := by
        obtain ⟨z, hz, hz2⟩ := hin
        simp only [Tr.els, List.mem_append, List.mem_cons] at hz
        rcases hz with h | h | h
        · exact ⟨z, h, hz2⟩
        · exact absurd (h ▸ hz2) hna
        · exact absurd hz2 (hno z h)
      have OUT := hid (ihl w hl e1 n3 o1 hs.left hin2)
      have HN := hid (And.intro (And.intro n1 n2) (And.intro n4 n5))
      have HI : Hid (outE k i (Tr.node b x l r).els = outE k i l.els ++ x :: r.els) := hid (by
        simp only [Tr.els]
        rw [outE_append, outE_not hna, outE_none hno])
      have HS : Hid (Sm (outE k i l.els ++ x :: r.els)) := hid (by
        rw [← HI.out]
        exact hs.sub List.filter_sublist)
      have HB := hid hb
      have HR := hid hr
      have E2 := hid e2
      have E34 := hid (And.intro e3 e4)
      clear hb hl hr e1 e2 e3 e4 hn n1 n2 n3 n4 n5 o1 o2 o3 o4 ho hs ihl ihr hbe hno hin hin2 hna
      obtain ⟨ql, hql⟩ := l.ptr_is
      rw [hql] at c3 OUT
      clear hql
      go_enter Try.func23, Try.ntmps23
      go_wp2_with fail
      refine SIDE.out.mono ?_
      rintro v w0 ⟨rfl, hw0⟩
      subst hw0
      go_wp2_with fail
      refine OUT.out.mono ?_
      rintro v w1 ⟨l1, rfl, p1, p2, p3, p4, p5, p6, p7⟩
      have B1 := HB.out.chg p7 HN.out.1.1
      have R1 := HR.out.chg p7 (fun y hy hh => HN.out.2.2 y hh y hy rfl)
      have f3 := B1.frozen 3
      have x3 := B1.cell 3
      simp only [nodeC, List.getElem?_cons_succ, List.getElem?_cons_zero] at x3
      have nb : b ∉ l1.ads := fun hh => HN.out.1.1 (p5 b hh)
      have ch2 : Chg (One b) w1 (w1.setCell ⟨b, 3, none⟩ l1.ptr) := (Chg.refl (One b) w1).setCell (p := ⟨b, 3, none⟩) (.inl (show One b b from rfl)) _
      have ND : Hid ((b :: (l1.ads ++ r.ads)).Nodup) := hid (by
        rw [List.nodup_cons, List.mem_append, List.nodup_append, not_or]
        exact ⟨⟨nb, HN.out.1.2⟩, p6, HN.out.2.1, fun y hy z hz hyz => HN.out.2.2 y (p5 y hy) z hz hyz⟩)
      have EV := hid (even_ok (w1.setCell ⟨b, 3, none⟩ l1.ptr) b x _ _ _ l1 r (B1.set 3 _) (p1.chg ch2 (fun y hy hh => nb (by rw [← show y = b from hh]; exact hy))) (R1.chg ch2 (fun y hy hh => HN.out.1.2 (by rw [← show y = b from hh]; exact hy))) p2 E2.out ND.out (by rw [p3]; exact HS.out) (by have := E34.out; omega) (by have := E34.out; omega))
      have C1 := hid p7
      have C2 := hid ch2
      have P3 := hid p3
      have P4 := hid p4
      have P5 := hid p5
      obtain ⟨ql, hql⟩ := l1.ptr_is
      rw [hql] at EV C2 ⊢
      clear p1 p2 p3 p4 p5 p6 p7 B1 R1 ch2 nb SIDE OUT hql
      go_wp2_with fail
      refine EV.out.mono ?_
      rintro v w3 ⟨t3, rfl, g1, g2, g3, g4, g5, g6⟩
      have G := hid (And.intro g1 (And.intro g2 (And.intro g3 (And.intro g4 (And.intro g5 g6)))))
      clear g1 g2 g3 g4 g5 g6 EV
      obtain ⟨q3, hq3⟩ := t3.ptr_is
      have Q3 := hid hq3
      rw [hq3]
      clear hq3
      go_wp2
      go_ret
      obtain ⟨g1, g2, g3, g4, g5, g6⟩ := G.out
      have d1 := E34.out
      have d2 := P4.out
      refine ⟨t3, by rw [Q3.out]; rfl, g1, g2, by rw [g3, P3.out, HI.out], ?_, ?_, ?_, ?_⟩
      · simp only [Tr.deep]
        obtain ⟨a1, a2, a3, a4⟩ := g5
        by_cases hh : r.deep ≤ l1.deep + 1
        · have := a4 (by omega) hh
          omega
        · omega
      · intro y hy
        rw [g4.mem_iff] at hy
        simp only [Tr.ads, List.mem_cons, List.mem_append] at hy ⊢
        rcases hy with h | h | h
        · exact .inl h
        · exact .inr (.inl (P5.out y h))
        · exact .inr (.inr h)
      · exact g4.nodup_iff.2 ND.out
      · refine ((C1.out.mono (G := Ins (Tr.node b x l r).ads) (fun y _ hy => ?_)).trans C2.out (fun y _ hy => ?_)).trans g6 (fun y hy0 hy => ?_)
        · simp only [Ins, Tr.ads, List.mem_cons, List.mem_append] at hy ⊢
          exact .inr (.inl hy)
        · rw [show y = b from hy]; simp [Ins, Tr.ads]
        · simp only [Ins, Tr.ads, List.mem_cons, List.mem_append] at hy ⊢
          rcases hy with h | h | h
          · exact .inl h
          · exact .inr (.inl (P5.out y h))
          · exact .inr (.inr h)
end Go.Proofs.Ytnibhkeleogjcaa
