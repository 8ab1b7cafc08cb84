/- Contracts of package span: least. Conditions: few nodes, small weights, in order. -/
import Derived.Test.YtnibhkeleogjcaaTree4
namespace Go.Proofs.Ytnibhkeleogjcaa
open Go.ChangeShapes Go.WideShapes Go.ChangeAt Go.RowKit
set_option linter.unusedVariables false
/-- What least does. -/
def LeastP (w : World) (t : Tr) (v : Ending) (w' : World) : Prop :=
  ∃ (f : Nat) (x : TE) (pl pr : Value) (d n s : Int) (t' : Tr), v = .returned (.tuple #[.pointer (some ⟨f, 0, none⟩), t'.ptr]) ∧ Blk w' f 49 (nodeC x pl pr d n s) ∧ TrAt w' t' ∧ t'.even ∧ t.els = x :: t'.els ∧ (t'.deep ≤ t.deep ∧ t.deep ≤ t'.deep + 1) ∧ t.ads.Perm (f :: t'.ads) ∧ Chg (Ins t.ads) w w'
set_option maxRecDepth 100000 in
set_option maxHeartbeats 2000000 in
theorem least_ok (t : Tr) : ∀ (w : World), t ≠ .nil → TrAt w t → t.even → t.ads.Nodup → Sm t.els →
    Calls Try.prog 30 #[t.ptr] w (LeastP w t) := by
  induction t with
  | nil => intro w h; exact absurd rfl h
  | node b x l r ihl ihr =>
    intro w _ ht he hn hs
    obtain ⟨hb, hl, hr⟩ := ht
    obtain ⟨e1, e2, e3, e4⟩ := he
    have c3 := hb.cell 3
    have c4 := hb.cell 4
    simp only [nodeC, List.getElem?_cons_succ, List.getElem?_cons_zero] at c3 c4
    show Calls Try.prog 30 #[.pointer (some ⟨b, 0, none⟩)] w _
    cases l with
    | nil =>
      have HB := hid hb
      have HR := hid hr
      have E2 := hid e2
      have E34 := hid (And.intro e3 e4)
      replace c3 : w.cell? ⟨b, 3, none⟩ = some (.pointer none) := c3
      obtain ⟨qr, hqr⟩ := r.ptr_is
      rw [hqr] at c4
      have QR := hid hqr
      clear hb hl hr e1 e2 e3 e4 hn hs ihl ihr hqr
      go_enter Try.func30, Try.ntmps30
      go_wp2
      go_quiet (fail)
      go_wp2
      go_ret2
      have d := E34.out
      simp only [Tr.deep] at d
      exact ⟨b, x, _, _, _, _, _, r, by rw [QR.out]; rfl, HB.out.drewN nq, HR.out.drewN nq, E2.out, rfl, ⟨by simp only [Tr.deep]; omega, by simp only [Tr.deep]; omega⟩, by simp [Tr.ads], (Chg.refl _ _).drewN nq⟩
    | node bl xl ll lr =>
      obtain ⟨l, hl0⟩ : ∃ l, l = Tr.node bl xl ll lr := ⟨_, rfl⟩
      have hp : l.ptr = .pointer (some ⟨bl, 0, none⟩) := by rw [hl0]; rfl
      have hne : l ≠ .nil := by rw [hl0]; exact fun h => by cases h
      rw [← hl0] at hl e1 e3 e4 hn hs ihl c3 hb ⊢
      clear hl0
      have hn2 := hn
      simp only [Tr.ads, List.nodup_cons, List.mem_append, not_or, List.nodup_append] at hn2
      obtain ⟨⟨n1, n2⟩, n3, n4, n5⟩ := hn2
      have LE := hid (ihl w hne hl e1 n3 hs.left)
      have HN := hid (And.intro (And.intro n1 n2) (And.intro n3 (And.intro n4 n5)))
      have HS := hid hs
      have HB := hid hb
      have HR := hid hr
      have E2 := hid e2
      have E34 := hid (And.intro e3 e4)
      rw [hp] at c3 LE
      clear hb hl hr e1 e2 e3 e4 hn hs ihl ihr n1 n2 n3 n4 n5 hp hne
      go_enter Try.func30, Try.ntmps30
      go_wp2_with fail
      refine LE.out.mono ?_
      rintro v w1 ⟨f, y, pl, pr, dd, nn, ss, l1, rfl, g1, g2, g3, g4, g5, g6, g7⟩
      have hf : f ∈ l.ads := g6.mem_iff.2 List.mem_cons_self
      have hl1 : ∀ z ∈ l1.ads, z ∈ l.ads := fun z hz => g6.mem_iff.2 (List.mem_cons_of_mem _ hz)
      have hnd := (g6.nodup_iff.1 HN.out.2.1)
      have B1 := HB.out.chg g7 HN.out.1.1
      have R1 := HR.out.chg g7 (fun y hy hh => HN.out.2.2.2 y hh y hy rfl)
      have f3 := B1.frozen 3
      have x3 := B1.cell 3
      simp only [nodeC, List.getElem?_cons_succ, List.getElem?_cons_zero] at x3
      have nb : b ∉ l1.ads := fun hh => HN.out.1.1 (hl1 b hh)
      have ch2 : Chg (One b) w1 (w1.setCell ⟨b, 3, none⟩ l1.ptr) := (Chg.refl (One b) w1).setCell (p := ⟨b, 3, none⟩) (.inl (show One b b from rfl)) _
      have ND : Hid ((b :: (l1.ads ++ r.ads)).Nodup) := hid (by
        rw [List.nodup_cons, List.mem_append, List.nodup_append, not_or]
        exact ⟨⟨nb, HN.out.1.2⟩, (List.nodup_cons.1 hnd).2, HN.out.2.2.1, fun y hy z hz hyz => HN.out.2.2.2 y (hl1 y hy) z hz hyz⟩)
      have NF : Hid (¬ Ins (b :: (l1.ads ++ r.ads)) f) := hid (by
        intro hh
        simp only [Ins, List.mem_cons, List.mem_append] at hh
        rcases hh with h | h | h
        · exact HN.out.1.1 (h ▸ hf)
        · exact (List.nodup_cons.1 hnd).1 h
        · exact HN.out.2.2.2 f hf f h rfl)
      have EV := hid (even_ok (w1.setCell ⟨b, 3, none⟩ l1.ptr) b x _ _ _ l1 r (B1.set 3 _) (g2.chg ch2 (fun y hy hh => nb (by rw [← show y = b from hh]; exact hy))) (R1.chg ch2 (fun y hy hh => HN.out.1.2 (by rw [← show y = b from hh]; exact hy))) g3 E2.out ND.out (HS.out.sub (by
        show (l1.els ++ x :: r.els).Sublist (l.els ++ x :: r.els)
        rw [g4]
        exact List.sublist_cons_self _ _)) (by have := E34.out; omega) (by have := E34.out; omega))
      have C1 := hid g7
      have C2 := hid ch2
      have G1 := hid (g1.chg ch2 (fun hh => NF.out (by rw [show f = b from hh]; exact List.mem_cons_self)))
      have G4 := hid g4
      have G5 := hid g5
      have G6 := hid g6
      have L1 := hid hl1
      obtain ⟨ql, hql⟩ := l1.ptr_is
      rw [hql] at EV C2 G1 ⊢
      clear g1 g2 g3 g4 g5 g6 g7 B1 R1 ch2 nb LE hql hf hl1 hnd
      go_wp2_with fail
      refine EV.out.mono ?_
      rintro v w3 ⟨t3, rfl, g1, g2, g3, g4, g5, g6⟩
      have G := hid (And.intro g1 (And.intro g2 (And.intro g3 (And.intro g4 (And.intro g5 g6)))))
      clear g1 g2 g3 g4 g5 g6 EV
      obtain ⟨q3, hq3⟩ := t3.ptr_is
      have Q3 := hid hq3
      rw [hq3]
      clear hq3
      go_wp2
      go_ret2
      obtain ⟨g1, g2, g3, g4, g5, g6⟩ := G.out
      have d1 := E34.out
      have d2 := G5.out
      refine ⟨f, y, pl, pr, dd, nn, ss, t3, by rw [Q3.out]; rfl, G1.out.chg g6 NF.out, g1, g2, ?_, ?_, ?_, ?_⟩
      · simp only [Tr.els]
        rw [g3, G4.out]
        rfl
      · simp only [Tr.deep]
        obtain ⟨a1, a2, a3, a4⟩ := g5
        by_cases hh : r.deep ≤ l1.deep + 1
        · have := a4 (by omega) hh
          omega
        · omega
      · refine List.Perm.trans ?_ (g4.symm.cons f)
        refine List.Perm.trans ?_ (List.Perm.swap _ _ _)
        exact (G6.out.append_right r.ads).cons b
      · refine ((C1.out.mono (G := Ins (Tr.node b x l r).ads) (fun y _ hy => ?_)).trans C2.out (fun y _ hy => ?_)).trans g6 (fun y hy0 hy => ?_)
        · simp only [Ins, Tr.ads, List.mem_cons, List.mem_append] at hy ⊢
          exact .inr (.inl hy)
        · rw [show y = b from hy]; simp [Ins, Tr.ads]
        · simp only [Ins, Tr.ads, List.mem_cons, List.mem_append] at hy ⊢
          rcases hy with h | h | h
          · exact .inl h
          · exact .inr (.inl (L1.out y h))
          · exact .inr (.inr h)
end Go.Proofs.Ytnibhkeleogjcaa
