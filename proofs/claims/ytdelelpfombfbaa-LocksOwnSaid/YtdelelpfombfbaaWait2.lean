/- More contracts of package wait: Add, Wake, Look, Sleep, List. Conditions: at most 1000 wait; marks are few. -/
import Derived.Test.YtdelelpfombfbaaWait
namespace Go.Proofs.Ytdelelpfombfbaa
open Go.ChangeShapes Go.WideShapes Go.ChangeAt Go.RowKit
set_option linter.unusedVariables false
def PQ (F : Nat → Prop) (p : Nat) (l : List WT) (n : Int) (nm : Nat) (f : Int → Option Value) (v : Value) (w : World) (e : Ending) (w' : World) : Prop := ∃ F', e = .returned v ∧ QAt w' F' p l n nm f ∧ Chg F w w' ∧ Grew w.heap.size F F'
theorem PQ.of_nil {F : Nat → Prop} {p : Nat} {l : List WT} {n : Int} {nm : Nat} {f : Int → Option Value} {v : Value} {w w' : World} (h : QAt w F p l n nm f) (hc : Chg Nil w w') : PQ F p l n nm f v w (.returned v) w' := ⟨F, rfl, h.chg hc (fun _ _ h => h), hc.mono (fun _ _ h => h.elim), Grew.refl _ _⟩
theorem qadd_has (w : World) (F : Nat → Prop) (p : Nat) (l : List WT) (n : Int) (nm : Nat) (f : Int → Option Value) (t : Int) (al : Bool) (h : QAt w F p l n nm f) (hl : l.length ≤ 1000) (t1 : 1 ≤ t) (t2 : t ≤ 16) (ht : waits l t = true) :
    Calls Try.prog 18 #[.pointer (some ⟨p, 0, none⟩), .int .i64 t, .bool al] w (PQ F p l n nm f (.int .i64 5) w) := by
  have H := hid h
  obtain ⟨a, c, G, mb, h⟩ := h
  have HH := hid (has_any w F p l n nm f a c G mb t h hl)
  rw [ht] at HH
  clear h ht
  go_enter Try.func18, Try.ntmps18
  go_wp2_with (go_at_call 41; refine HH.out.mono ?_; rintro e w1 ⟨rfl, c1⟩; replace c1 := hid c1)
  go_ret
  exact PQ.of_nil H.out c1.out
set_option maxHeartbeats 1000000 in
theorem qadd_ok (w : World) (F : Nat → Prop) (p : Nat) (l : List WT) (n : Int) (nm : Nat) (f : Int → Option Value) (t : Int) (al : Bool) (h : QAt w F p l n nm f) (hl : l.length ≤ 999) (t1 : 1 ≤ t) (t2 : t ≤ 16) (ht : waits l t = false) :
    Calls Try.prog 18 #[.pointer (some ⟨p, 0, none⟩), .int .i64 t, .bool al] w (PQ F p (l ++ [WT.mk t al]) n nm f (.int .i64 0) w) := by
  obtain ⟨a, c, G, mb, h⟩ := h
  have HH := hid (has_any w F p l n nm f a c G mb t h (by omega))
  rw [ht] at HH
  have H := hid h
  clear h ht
  go_enter Try.func18, Try.ntmps18
  go_wp2_with fail
  refine HH.out.mono ?_
  rintro e w1 ⟨rfl, c1⟩
  have H1 := H.out.nil c1
  have d0 := H1.c0
  have HS := hid (H1.sl.alloc (.cells #[.int .i64 t, .bool al] 95))
  have HN := hid (Rd.of_blk (n := 1) (s := 2) (Blk.new w1 95 (wtCells (WT.mk t al))) rfl (by decide))
  have HNE := hid H1.ne
  have C1 := hid c1
  replace H1 := hid H1
  clear c1
  go_wp2_with (at_builtin; refine wpList_append_sl rfl _ _ eWaiter rfl rfl rfl HS.out HN.out (wt_one _) (by omega) (by omega) ?_; intro a' c' w2 G' q1 q2 q3; have HB1 := (H1.out.blk.alloc (.cells #[.int .i64 t, .bool al] 95)).chg q2 HNE.out; have e0 := HB1.cell 0; have g0 := HB1.frozen 0; simp only [List.getElem?_cons_zero] at e0; replace HB1 := hid HB1; replace q1 := hid q1; replace q2 := hid q2; replace q3 := hid q3)
  go_ret
  have hs : Sl w2 95 2 a' (l ++ [WT.mk t al]).length c' ((l ++ [WT.mk t al]).flatMap wtCells) G' := by
    have h1 := q1.out
    have h2 : l.flatMap wtCells ++ wtCells (WT.mk t al) = (l ++ [WT.mk t al]).flatMap wtCells := by simp
    rw [h2] at h1
    simpa using h1
  have hG : ∀ g, G' = some g → G = some g ∨ w1.heap.size ≤ g := fun g hg => by
    rcases q3.out with h3 | h3 <;> rw [h3] at hg
    · exact .inl hg
    · injection hg with hg; simp at hg; exact .inr (by omega)
  have hcs := q2.out.size
  have hsz : w1.heap.size ≤ w2.heap.size := by simp at hcs; omega
  have hq := H1.out.lay (u := 0) (l' := l ++ [WT.mk t al]) HB1.out hs ((H1.out.mp.alloc _).chg q2.out (fun hh => H1.out.nmb hh)) hsz hG
  refine ⟨Or2 F (Opt G'), rfl, ⟨a', c', G', mb, ?_⟩, ?_, ?_⟩
  · have e : (l ++ [WT.mk t al]).length = l.length + 1 := by simp
    rw [e] at hq
    exact hq
  · have h0 : Chg F w w2 := (((C1.out.mono (G := F) (fun _ _ h => h.elim)).alloc _)).trans q2.out (fun i _ h => H1.out.fg i h)
    exact h0.setCell (p := ⟨p, 0, none⟩) (.inl H1.out.fp) _
  · rintro k (hF | hG')
    · exact .inl hF
    · rcases hG k hG' with h1 | h1
      · exact .inl (H1.out.fg k h1)
      · exact .inr (Nat.le_trans C1.out.size h1)
/-- What is told of who waits. -/
def PList (l : List WT) (w : World) (e : Ending) (w' : World) : Prop := ∃ a c G, e = .returned (.slice a l.length c) ∧ Sl w' 3 1 a l.length c (ints .i64 (l.map WT.t)) G ∧ Chg Nil w w' ∧ ∀ g, G = some g → w.heap.size ≤ g
def LJ (w0 : World) (l : List WT) (a : Option Addr) (c : Nat) (k : Nat) (w : World) : Prop := ∃ G, Sl w 3 1 a k c (ints .i64 ((l.take k).map WT.t)) G ∧ Chg Nil w0 w ∧ ∀ g, G = some g → w0.heap.size ≤ g
set_option maxHeartbeats 1000000 in
theorem qlist_ok (w : World) (F : Nat → Prop) (p : Nat) (l : List WT) (n : Int) (nm : Nat) (f : Int → Option Value) (h : QAt w F p l n nm f) (hl : l.length ≤ 1000) :
    Calls Try.prog 26 #[.pointer (some ⟨p, 0, none⟩)] w (PList l w) := by
  obtain ⟨a, c, G, mb, h⟩ := h
  have d0 := h.c0
  have H := hid h
  clear h
  go_enter Try.func26, Try.ntmps26
  go_wp2
  go_loopw [3, 11] (fun s3 s11 wr => ∃ (k : Nat) (a2 : Option Addr) (c2 : Nat), k ≤ l.length ∧ s11 = .int .i64 k ∧ s3 = .slice a2 k c2 ∧ Hid (LJ w l a2 c2 k wr)) (fun _ s11 _ => l.length - (intOf s11).toNat)
  case atStart => exact ⟨0, none, 0, by omega, rfl, rfl, none, Sl.empty _ _ _ _, Chg.refl _ _, fun g h => by cases h⟩
  case round =>
    obtain ⟨k, a2, c2, hk, rfl, rfl, hJ⟩ := hrel
    obtain ⟨G2, j1, j2, j3⟩ := id hJ.out
    by_cases hlt : k < l.length
    · obtain ⟨g, off, rfl, hg1, hg2, hc⟩ := ((H.out.nil j2).sl.rd).elem wt_len rfl (by omega)
      have e0 := hc k hlt 0 (by omega)
      have e1 := hc k hlt 1 (by omega)
      clear hc
      simp only [wtCells, List.getElem?_cons_succ, List.getElem?_cons_zero, Nat.add_zero] at e0 e1
      have HTK := hid (show (l.take (k + 1)).map WT.t = (l.take k).map WT.t ++ [l[k].t] by rw [List.take_succ_eq_append_getElem hlt, List.map_append]; rfl)
      generalize l[k] = x at *
      have C0 : Chg Nil wr (wr.alloc (.cells #[.int .i64 x.t, .bool x.al] 95)) := (Chg.refl _ _).alloc _
      have S2 := hid ((j1.chg C0 (fun _ _ h => h)).alloc (.cells #[.int .i64 x.t] 3))
      have N2 := Rd.of_blk (n := 1) (s := 1) (Blk.new (wr.alloc (.cells #[.int .i64 x.t, .bool x.al] 95)) 3 (ints .i64 [x.t])) rfl (by decide)
      rw [show (wr.alloc (.cells #[.int .i64 x.t, .bool x.al] 95)).heap.size = wr.heap.size + 1 by simp] at N2
      replace N2 := hid N2
      replace j1 := hid j1
      replace j2 := hid j2
      replace j3 := hid j3
      replace C0 := hid C0
      go_wp2_with (at_builtin; refine wpList_append_sl rfl _ _ eInt rfl rfl rfl S2.out N2.out (ints_one _ _) (by omega) (by omega) ?_; intro a' c' w2 G' y1 y2 y3; replace y1 := hid y1; replace y2 := hid y2; replace y3 := hid y3)
      go_roundw
      case rel =>
        refine ⟨k + 1, a', c', by omega, by go_num, rfl, G', ?_, ?_, ?_⟩
        · have := y1.out
          rw [ints_append, ← HTK.out] at this
          exact this
        · exact (j2.out.trans C0.out (fun _ _ h => h)).trans (push_chg y2.out) (fun i hi hG => by have := j3.out i hG; omega)
        · intro g' hg
          rcases push_grew y3.out g' hg with h | h
          · exact j3.out g' h
          · have := j2.out.size; simp at h; omega
      case measure => simp [intOf]; omega
    · obtain rfl : k = l.length := by omega
      rw [List.take_length] at j1
      go_wp2
      go_ret
      exact ⟨a2, c2, G2, rfl, j1, j2, j3⟩
end Go.Proofs.Ytdelelpfombfbaa
