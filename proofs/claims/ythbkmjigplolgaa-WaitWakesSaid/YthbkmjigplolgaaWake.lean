/- The contract of wait's Wake. Conditions: at most 1000 wait; it happened a few times. -/
import Derived.Test.YthbkmjigplolgaaWait2
namespace Go.Proofs.Ythbkmjigplolgaa
open Go.ChangeShapes Go.WideShapes Go.ChangeAt Go.RowKit
set_option linter.unusedVariables false
/-- Who is woken, and who is left, where m may be woken alone. -/
def wkOut : Nat → List WT → List Int
  | _, [] => []
  | m, x :: l => if x.al then (if m = 0 then wkOut m l else x.t :: wkOut (m - 1) l) else x.t :: wkOut m l
def wkLeft : Nat → List WT → List WT
  | _, [] => []
  | m, x :: l => if x.al then (if m = 0 then x :: wkLeft m l else wkLeft (m - 1) l) else wkLeft m l
theorem wk_no (m : Nat) (x : WT) (l : List WT) (h : x.al = false) : wkOut m (x :: l) = x.t :: wkOut m l ∧ wkLeft m (x :: l) = wkLeft m l := by simp [wkOut, wkLeft, h]
theorem wk_zero (x : WT) (l : List WT) (h : x.al = true) : wkOut 0 (x :: l) = wkOut 0 l ∧ wkLeft 0 (x :: l) = x :: wkLeft 0 l := by simp [wkOut, wkLeft, h]
theorem wk_succ (k : Nat) (x : WT) (l : List WT) (h : x.al = true) : wkOut (k + 1) (x :: l) = x.t :: wkOut k l ∧ wkLeft (k + 1) (x :: l) = wkLeft k l := by simp [wkOut, wkLeft, h]
theorem wkLeft_eq : ∀ (m : Nat) (l : List WT), wkLeft m l = (l.filter WT.al).drop m
  | _, [] => by simp [wkLeft]
  | m, x :: l => by
    cases hx : x.al
    · rw [(wk_no m x l hx).2, List.filter_cons_of_neg (by rw [hx]; simp)]
      exact wkLeft_eq m l
    · rw [List.filter_cons_of_pos hx]
      cases m with
      | zero => rw [(wk_zero x l hx).2, wkLeft_eq 0 l]; rfl
      | succ k => rw [(wk_succ k x l hx).2, wkLeft_eq k l]; rfl
theorem wk_perm : ∀ (m : Nat) (l : List WT), (wkOut m l ++ (wkLeft m l).map WT.t).Perm (l.map WT.t)
  | _, [] => by simp [wkOut, wkLeft]
  | m, x :: l => by
    cases hx : x.al
    · rw [(wk_no m x l hx).1, (wk_no m x l hx).2]
      exact (wk_perm m l).cons _
    · cases m with
      | zero =>
        rw [(wk_zero x l hx).1, (wk_zero x l hx).2]
        exact List.perm_middle.trans ((wk_perm 0 l).cons _)
      | succ k =>
        rw [(wk_succ k x l hx).1, (wk_succ k x l hx).2]
        exact (wk_perm k l).cons _
theorem wk_len (m : Nat) (l : List WT) : (wkOut m l).length + (wkLeft m l).length = l.length := by
  have := (wk_perm m l).length_eq
  simpa using this
theorem Sl.apart {w : World} {e e' : TypeId} {s s' n n' c c' g : Nat} {a a' : Option Addr} {xs xs' : List Value} (h : Sl w e s a n c xs (some g)) (h' : Sl w e' s' a' n' c' xs' (some g)) (hne : e ≠ e') : False := by
  obtain ⟨_, _, _, ⟨_, hb⟩ | ⟨g1, o1, cur1, _, r2, r3, _⟩⟩ := h
  · cases hb
  obtain ⟨_, _, _, ⟨_, hb⟩ | ⟨g2, o2, cur2, _, t2, t3, _⟩⟩ := h'
  · cases hb
  injection r2 with r2
  injection t2 with t2
  subst r2; subst t2
  rw [r3] at t3
  injection t3 with t3
  injection t3 with _ t4
  exact hne t4
/-- Who is woken so far, and who is left so far. -/
structure WJ2 (w0 : World) (O : List Int) (L : List WT) (a2 : Option Addr) (c2 : Nat) (G2 : Option Nat) (a3 : Option Addr) (c3 : Nat) (G3 : Option Nat) (w : World) : Prop where
  o : Sl w 3 1 a2 O.length c2 (ints .i64 O) G2
  l : Sl w 83 2 a3 L.length c3 (L.flatMap wtCells) G3
  ch : Chg Nil w0 w
  n2 : ∀ g, G2 = some g → w0.heap.size ≤ g
  n3 : ∀ g, G3 = some g → w0.heap.size ≤ g
section
variable {w0 w w1 : World} {O : List Int} {L : List WT} {a2 a3 a' : Option Addr} {c2 c3 c' : Nat} {G2 G3 G' : Option Nat}
theorem WJ2.nil (h : WJ2 w0 O L a2 c2 G2 a3 c3 G3 w) (hc : Chg Nil w w1) : WJ2 w0 O L a2 c2 G2 a3 c3 G3 w1 :=
  ⟨h.o.chg hc (fun _ _ h => h), h.l.chg hc (fun _ _ h => h), h.ch.trans hc (fun _ _ h => h), h.n2, h.n3⟩
theorem WJ2.putO {x : Int} (h : WJ2 w0 O L a2 c2 G2 a3 c3 G3 w) (hs : Sl w1 3 1 a' (O.length + 1) c' (ints .i64 O ++ ints .i64 [x]) G') (hc : Chg (Opt G2) w w1) (hG : G' = G2 ∨ G' = some w.heap.size) : WJ2 w0 (O ++ [x]) L a' c' G' a3 c3 G3 w1 := by
  refine ⟨by rw [ints_append] at hs; simpa using hs, h.l.chg hc (fun g hg hh => ?_), h.ch.trans hc (fun k hk hh => by have := h.n2 k hh; omega), fun g hg => ?_, h.n3⟩
  · have e1 := h.l
    have e2 := h.o
    rw [hg] at e1
    rw [show G2 = some g from hh] at e2
    exact e2.apart e1 (by decide)
  · rcases hG with h1 | h1 <;> rw [h1] at hg
    · exact h.n2 g hg
    · injection hg with hg; have := h.ch.size; omega
theorem WJ2.putL {x : WT} (h : WJ2 w0 O L a2 c2 G2 a3 c3 G3 w) (hs : Sl w1 83 2 a' (L.length + 1) c' (L.flatMap wtCells ++ wtCells x) G') (hc : Chg (Opt G3) w w1) (hG : G' = G3 ∨ G' = some w.heap.size) : WJ2 w0 O (L ++ [x]) a2 c2 G2 a' c' G' w1 := by
  refine ⟨h.o.chg hc (fun g hg hh => ?_), by simpa using hs, h.ch.trans hc (fun k hk hh => by have := h.n3 k hh; omega), h.n2, fun g hg => ?_⟩
  · have e1 := h.o
    have e2 := h.l
    rw [hg] at e1
    rw [show G3 = some g from hh] at e2
    exact e1.apart e2 (by decide)
  · rcases hG with h1 | h1 <;> rw [h1] at hg
    · exact h.n3 g hg
    · injection hg with hg; have := h.ch.size; omega
end
def PWake (F : Nat → Prop) (p : Nat) (l : List WT) (m : Nat) (n : Int) (nm : Nat) (f : Int → Option Value) (w : World) (e : Ending) (w' : World) : Prop := ∃ F' a c G, e = .returned (.tuple #[.slice a (wkOut m l).length c, .int .i64 0]) ∧ Sl w' 3 1 a (wkOut m l).length c (ints .i64 (wkOut m l)) G ∧ QAt w' F' p (wkLeft m l) (n + 1) nm f ∧ Chg F w w' ∧ Grew w.heap.size F F' ∧ ∀ g, G = some g → w.heap.size ≤ g ∧ ¬ F' g
set_option maxHeartbeats 2000000 in
theorem qwake_ok (w : World) (F : Nat → Prop) (p : Nat) (l : List WT) (n : Int) (nm : Nat) (f : Int → Option Value) (m : Nat) (h : QAt w F p l n nm f) (hl : l.length ≤ 1000) (hm2 : m ≤ 1000000) (hn0 : 0 ≤ n) (hn1 : n ≤ 1000000) :
    Calls Try.prog 37 #[.pointer (some ⟨p, 0, none⟩), .int .i64 (m : Int)] w (PWake F p l m n nm f w) := by
  obtain ⟨a, c, G, mb, h⟩ := h
  have d2 := h.c2
  have f2 : w.frozen? ⟨p, 2, none⟩ = false := h.blk.frozen 2
  have hb1 : Blk (w.setCell ⟨p, 2, none⟩ (.int .i64 (n + 1))) p 81 [.slice a l.length c, .map (some mb), .int .i64 (n + 1)] := h.blk.set 2 _
  have hC1 : Chg F w (w.setCell ⟨p, 2, none⟩ (.int .i64 (n + 1))) := (Chg.refl F w).setCell (p := ⟨p, 2, none⟩) (.inl h.fp) _
  have hsl1 := h.sl.set_far (p := ⟨p, 2, none⟩) h.ne (.int .i64 (n + 1))
  have hmp1 := h.mp.chg ((Chg.refl (One p) w).setCell (p := ⟨p, 2, none⟩) (.inl (show One p p from rfl)) (.int .i64 (n + 1))) (fun hh => h.pm hh)
  have d0 := hb1.cell 0
  simp only [List.getElem?_cons_zero] at d0
  have H := hid h
  have HB := hid hb1
  have HC := hid hC1
  have HS := hid hsl1
  have HM := hid hmp1
  clear h hb1 hC1 hsl1 hmp1
  go_enter Try.func37, Try.ntmps37
  go_wp2
  obtain ⟨wa, hwa⟩ : ∃ wa, wa = w.setCell ⟨p, 2, none⟩ (.int .i64 (n + 1)) := ⟨_, rfl⟩
  rw [← hwa] at HB HC HS HM d0 ⊢
  have hsz : wa.heap.size = w.heap.size := by rw [hwa]; simp [World.setCell]
  replace hwa := hid hwa
  have HSZ := hid hsz
  clear hsz
  go_loopw [1, 6, 7, 24] (fun s1 s6 s7 s24 wr => ∃ (k mm no nl c2 c3 : Nat) (a2 a3 : Option Addr) (O : List Int) (L : List WT) (G2 G3 : Option Nat), k ≤ l.length ∧ no ≤ 1000 ∧ nl ≤ 1000 ∧ mm ≤ 1000000 ∧ s24 = .int .i64 k ∧ s1 = .int .i64 mm ∧ s6 = .slice a2 no c2 ∧ s7 = .slice a3 nl c3 ∧ no ≤ k ∧ nl ≤ k ∧ Hid (no = O.length ∧ nl = L.length) ∧ Hid (O ++ wkOut mm (l.drop k) = wkOut m l ∧ L ++ wkLeft mm (l.drop k) = wkLeft m l) ∧ Hid (WJ2 wa O L a2 c2 G2 a3 c3 G3 wr)) (fun _ _ _ s24 _ => l.length - (intOf s24).toNat)
  case atStart => exact ⟨0, m, 0, 0, 0, 0, none, none, [], [], none, none, by omega, by omega, by omega, hm2, rfl, rfl, rfl, rfl, by omega, by omega, ⟨rfl, rfl⟩, ⟨rfl, rfl⟩, Sl.empty _ _ _ _, Sl.empty _ _ _ _, Chg.refl _ _, (fun g h => by cases h), fun g h => by cases h⟩
  case round =>
    obtain ⟨k, mm, no, nl, c2, c3, a2, a3, O, L, G2, G3, hk, hno, hnl, hmm, rfl, rfl, rfl, rfl, hnk, hlk, HL, HE, HJ⟩ := hrel
    by_cases hlt : k < l.length
    · obtain ⟨g, off, rfl, hg1, hg2, hc⟩ := ((HS.out.chg HJ.out.ch (fun _ _ h => h)).rd).elem wt_len rfl (by omega)
      have e0 := hc k hlt 0 (by omega)
      have e1 := hc k hlt 1 (by omega)
      clear hc
      simp only [wtCells, List.getElem?_cons_succ, List.getElem?_cons_zero, Nat.add_zero] at e0 e1
      have HDR := hid (List.drop_eq_getElem_cons hlt)
      generalize l[k] = x at e0 e1 HDR
      have HJ1 := hid (HJ.out.nil ((Chg.refl Nil wr).alloc (.cells #[.int .i64 x.t, .bool x.al] 83)))
      obtain ⟨hno2, hnl2⟩ := HL.out
      obtain ⟨E1, E2⟩ := HE.out
      rw [HDR.out] at E1 E2
      cases hxa : x.al with
      | false =>
        have HE2 : Hid ((O ++ [x.t]) ++ wkOut mm (l.drop (k + 1)) = wkOut m l ∧ L ++ wkLeft mm (l.drop (k + 1)) = wkLeft m l) := hid (by
          rw [(wk_no mm x _ hxa).1] at E1
          rw [(wk_no mm x _ hxa).2] at E2
          exact ⟨by rw [List.append_assoc]; exact E1, E2⟩)
        have S2 := (HJ1.out.nil ((Chg.refl Nil _).alloc (.cells #[.int .i64 x.t] 3))).o
        have N2 := Rd.of_blk (n := 1) (s := 1) (Blk.new (wr.alloc (.cells #[.int .i64 x.t, .bool x.al] 83)) 3 (ints .i64 [x.t])) rfl (by decide)
        rw [show (wr.alloc (.cells #[.int .i64 x.t, .bool x.al] 83)).heap.size = wr.heap.size + 1 by simp] at N2
        have HJ2 := hid (HJ1.out.nil ((Chg.refl Nil _).alloc (.cells #[.int .i64 x.t] 3)))
        rw [← hno2] at S2
        rw [hxa] at e1 S2 N2 HJ2
        replace S2 := hid S2
        replace N2 := hid N2
        have HNO := hid hno2
        have HNL := hid hnl2
        clear E1 E2 hxa hno2 hnl2
        go_wp2_with (at_builtin; refine wpList_append_sl rfl _ _ eInt rfl rfl rfl S2.out N2.out (ints_one _ _) (by omega) (by omega) ?_; intro a' c' w2 G' y1 y2 y3; replace y1 := hid y1; replace y2 := hid y2; replace y3 := hid y3)
        go_roundw
        case rel =>
          have y4 := y1.out
          rw [HNO.out] at y4
          exact ⟨k + 1, mm, no + 1, nl, c', c3, a', a3, O ++ [x.t], L, G', G3, by omega, by omega, by omega, hmm, by go_num, rfl, rfl, rfl, by omega, by omega, ⟨by rw [HNO.out]; simp, HNL.out⟩, HE2, HJ2.out.putO y4 y2.out y3.out⟩
        case measure => simp [intOf]; omega
      | true =>
        by_cases hm0 : mm = 0
        · subst hm0
          have HE2 : Hid (O ++ wkOut 0 (l.drop (k + 1)) = wkOut m l ∧ (L ++ [x]) ++ wkLeft 0 (l.drop (k + 1)) = wkLeft m l) := hid (by
            rw [(wk_zero x _ hxa).1] at E1
            rw [(wk_zero x _ hxa).2] at E2
            exact ⟨E1, by rw [List.append_assoc]; exact E2⟩)
          have S2 := (HJ1.out.nil ((Chg.refl Nil _).alloc (.cells #[.int .i64 x.t, .bool x.al] 83))).l
          have N2 := Rd.of_blk (n := 1) (s := 2) (Blk.new (wr.alloc (.cells #[.int .i64 x.t, .bool x.al] 83)) 83 (wtCells x)) rfl (by decide)
          rw [show (wr.alloc (.cells #[.int .i64 x.t, .bool x.al] 83)).heap.size = wr.heap.size + 1 by simp] at N2
          have HJ2 := hid (HJ1.out.nil ((Chg.refl Nil _).alloc (.cells #[.int .i64 x.t, .bool x.al] 83)))
          have HW1 := hid (wt_one x)
          rw [← hnl2] at S2
          unfold wtCells at N2 HW1
          rw [hxa] at e1 S2 N2 HJ2 HW1
          replace S2 := hid S2
          replace N2 := hid N2
          have HNO := hid hno2
          have HNL := hid hnl2
          have HXA := hid hxa
          clear E1 E2 hxa hno2 hnl2
          go_wp2_with (at_builtin; refine wpList_append_sl rfl _ _ eWaiter rfl rfl rfl S2.out N2.out HW1.out (by omega) (by omega) ?_; intro a' c' w2 G' y1 y2 y3; replace y1 := hid y1; replace y2 := hid y2; replace y3 := hid y3)
          go_roundw
          case rel =>
            have y4 := y1.out
            rw [HNL.out] at y4
            exact ⟨k + 1, 0, no, nl + 1, c2, c', a2, a', O, L ++ [x], G2, G', by omega, by omega, by omega, hmm, by go_num, rfl, rfl, rfl, by omega, by omega, ⟨HNO.out, by rw [HNL.out]; simp⟩, HE2, HJ2.out.putL (x := x) (by unfold wtCells; rw [HXA.out]; exact y4) y2.out y3.out⟩
          case measure => simp [intOf]; omega
        · obtain ⟨m1, rfl⟩ : ∃ m1, mm = m1 + 1 := ⟨mm - 1, by omega⟩
          have HE2 : Hid ((O ++ [x.t]) ++ wkOut m1 (l.drop (k + 1)) = wkOut m l ∧ L ++ wkLeft m1 (l.drop (k + 1)) = wkLeft m l) := hid (by
            rw [(wk_succ m1 x _ hxa).1] at E1
            rw [(wk_succ m1 x _ hxa).2] at E2
            exact ⟨by rw [List.append_assoc]; exact E1, E2⟩)
          have S2 := (HJ1.out.nil ((Chg.refl Nil _).alloc (.cells #[.int .i64 x.t] 3))).o
          have N2 := Rd.of_blk (n := 1) (s := 1) (Blk.new (wr.alloc (.cells #[.int .i64 x.t, .bool x.al] 83)) 3 (ints .i64 [x.t])) rfl (by decide)
          rw [show (wr.alloc (.cells #[.int .i64 x.t, .bool x.al] 83)).heap.size = wr.heap.size + 1 by simp] at N2
          have HJ2 := hid (HJ1.out.nil ((Chg.refl Nil _).alloc (.cells #[.int .i64 x.t] 3)))
          rw [← hno2] at S2
          rw [hxa] at e1 S2 N2 HJ2
          replace S2 := hid S2
          replace N2 := hid N2
          have HNO := hid hno2
          have HNL := hid hnl2
          have hpos : (0 : Int) < (m1 : Int) + 1 := by omega
          clear E1 E2 hxa hno2 hnl2 hm0
          go_wp2_with (at_builtin; refine wpList_append_sl rfl _ _ eInt rfl rfl rfl S2.out N2.out (ints_one _ _) (by omega) (by omega) ?_; intro a' c' w2 G' y1 y2 y3; replace y1 := hid y1; replace y2 := hid y2; replace y3 := hid y3)
          go_roundw
          case rel =>
            have y4 := y1.out
            rw [HNO.out] at y4
            exact ⟨k + 1, m1, no + 1, nl, c', c3, a', a3, O ++ [x.t], L, G', G3, by omega, by omega, by omega, by omega, by go_num, by go_num, rfl, rfl, by omega, by omega, ⟨by rw [HNO.out]; simp, HNL.out⟩, HE2, HJ2.out.putO y4 y2.out y3.out⟩
          case measure => simp [intOf]; omega
    · have hkl : k = l.length := by omega
      obtain ⟨hno2, hnl2⟩ := HL.out
      obtain ⟨E1, E2⟩ := HE.out
      rw [List.drop_eq_nil_of_le (by omega), show wkOut mm [] = [] by simp [wkOut], List.append_nil] at E1
      rw [List.drop_eq_nil_of_le (by omega), show wkLeft mm [] = [] by simp [wkLeft], List.append_nil] at E2
      subst E1
      subst E2
      have HJ0 := HJ.out
      have hb2 := HB.out.chg HJ0.ch (fun h => h)
      have e0 := hb2.cell 0
      have g0 := hb2.frozen 0
      simp only [List.getElem?_cons_zero] at e0
      have HB2 := hid hb2
      have HNO := hid hno2
      have HNL := hid hnl2
      clear hb2 HJ0 hno2 hnl2 hkl
      go_wp2
      go_ret2
      have hj := HJ.out
      have hpl := H.out.lt p H.out.fp
      have hsz := HSZ.out
      have hnp2 := hj.o.ne_blk HB2.out (by decide)
      have hnp3 := hj.l.ne_blk HB2.out (by decide)
      have hsz2 := hj.ch.size
      have o2 := hj.o.set_far (p := ⟨p, 0, none⟩) hnp2 (.slice a3 nl c3)
      have l2 := hj.l.set_far (p := ⟨p, 0, none⟩) hnp3 (.slice a3 nl c3)
      have b2 := HB2.out.set 0 (.slice a3 nl c3)
      rw [HNL.out] at b2 o2 l2 ⊢
      rw [HNO.out]
      refine ⟨Or2 F (Opt G3), a2, c2, G2, rfl, o2, ⟨a3, c3, G3, mb, b2, l2, ?_, .inl H.out.fp, .inl H.out.fm, (fun g hg => .inr hg), ?_, H.out.pm, ?_⟩, ?_, ?_, ?_⟩
      · exact (HM.out.chg hj.ch (fun h => h)).chg ((Chg.refl (One p) _).setCell (p := ⟨p, 0, none⟩) (.inl (show One p p from rfl)) _) (fun hh => H.out.pm hh)
      · intro hh
        have h1 := hj.n3 mb hh
        have h2 := H.out.lt mb H.out.fm
        omega
      · rintro q (hq | hq)
        · have h1 := H.out.lt q hq
          simp [World.setCell]; omega
        · have h1 := hj.l.lt q hq
          simpa [World.setCell] using h1
      · exact (HC.out.trans hj.ch (fun _ _ h => h.elim)).setCell (p := ⟨p, 0, none⟩) (.inl H.out.fp) _
      · rintro q (hq | hq)
        · exact .inl hq
        · have := hj.n3 q hq; exact .inr (by omega)
      · intro g hg
        have h1 := hj.n2 g hg
        refine ⟨by omega, ?_⟩
        rintro (hq | hq)
        · have := H.out.lt g hq; omega
        · have t1 := hj.o
          have t2 := hj.l
          rw [hg] at t1
          rw [show G3 = some g from hq] at t2
          exact t1.apart t2 (by decide)
end Go.Proofs.Ythbkmjigplolgaa
