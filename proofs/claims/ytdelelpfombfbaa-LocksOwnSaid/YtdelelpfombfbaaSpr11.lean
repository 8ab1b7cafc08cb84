/- Contracts of package spread: Leave, Add. Conditions: a run as it may be, with fewer than a thousand tasks. -/
import Derived.Test.YtdelelpfombfbaaSpr10
namespace Go.Proofs.Ytdelelpfombfbaa
open Go.ChangeShapes Go.WideShapes Go.ChangeAt Go.RowKit
set_option linter.unusedVariables false
theorem Sl.cut {w : World} {e : TypeId} {s n m c : Nat} {a : Option Addr} {xs : List Value} {G : Option Nat} (h : Sl w e s a n c xs G) (hm : m ≤ n) (h0 : 0 < n) : Sl w e s a m m (xs.take (m * s)) G := by
  obtain ⟨h1, h2, h3, h4⟩ := h
  have hms : m * s ≤ n * s := Nat.mul_le_mul_right _ hm
  rcases h4 with ⟨h4, h5⟩ | ⟨g, off, cur, r1, r2, r3, r4, r5⟩
  · omega
  · have hmc : m * s ≤ c * s := Nat.mul_le_mul_right _ (by omega)
    exact ⟨Nat.le_refl _, by omega, by rw [List.length_take]; omega, .inr ⟨g, off, cur, r1, r2, r3, by omega, fun j hj => by rw [r5 j (by omega), List.getElem?_take_of_lt hj]⟩⟩
/-- Behind Leave's append: the run without one task. -/
theorem lea_fin {W w4 : World} {F : Nat → Prop} {p : Nat} {s : SR} {g off i : Nat} {a a' : Option Addr} {c c' : Nat} {G G' : Option Nat} (D : RA W F p s g off a c G) (hi : i < s.ts.length)
    (HB : Blk w4 p 89 [.int .i64 s.n, .int .i64 s.tk, .int .i64 s.st, .slice a s.ts.length c])
    (q1 : Sl w4 105 15 a' (i + (s.ts.length - (i + 1))) c' ((s.ts.take i).flatMap stCells ++ (s.ts.drop (i + 1)).flatMap stCells) G') (q2 : Chg (Opt G) W.drew w4) (q3 : G' = G ∨ G' = some W.drew.heap.size) :
    ∃ g' off', RA (w4.setCell ⟨p, 3, none⟩ (.slice a' (i + (s.ts.length - (i + 1))) c')) (Or2 F (Opt G')) p { s with ts := s.ts.eraseIdx i } g' off' a' c' G' ∧
      Chg F W (w4.setCell ⟨p, 3, none⟩ (.slice a' (i + (s.ts.length - (i + 1))) c')) ∧ Grew W.heap.size F (Or2 F (Opt G')) := by
  have hne := q1.ne_blk HB (by decide)
  have hfl : (s.ts.take i).flatMap stCells ++ (s.ts.drop (i + 1)).flatMap stCells = (s.ts.eraseIdx i).flatMap stCells := by rw [← List.flatMap_append, List.eraseIdx_eq_take_drop_succ]
  have hel : (s.ts.eraseIdx i).length = i + (s.ts.length - (i + 1)) := by rw [List.length_eraseIdx_of_lt hi]; omega
  have hc := q2.size
  have hg : ∀ k, Opt G' k → F k ∨ W.heap.size ≤ k := by
    intro k hk
    rcases q3 with h | h
    · subst h; exact .inl (D.fg k hk)
    · rw [h] at hk
      injection hk with hk
      exact .inr (by have : W.drew.heap.size = W.heap.size := rfl; omega)
  have hst : ∃ g' off', 0 < (s.ts.eraseIdx i).length → a' = some ⟨g', off', none⟩ ∧ G' = some g' := by
    by_cases h0 : 0 < i + (s.ts.length - (i + 1))
    · obtain ⟨g', off', e1, e2, _⟩ := q1.block h0
      exact ⟨g', off', fun _ => ⟨e1, e2⟩⟩
    · exact ⟨0, 0, fun h => absurd h (by rw [hel]; exact h0)⟩
  obtain ⟨g', off', hst⟩ := hst
  refine ⟨g', off', ⟨?_, ?_, hst, .inl D.fp, fun g hg => .inr hg, ?_⟩, ?_, fun k hk => hk.elim .inl (hg k)⟩
  · have := HB.set 3 (.slice a' (i + (s.ts.length - (i + 1))) c')
    show Blk _ p _ [.int .i64 s.n, .int .i64 s.tk, .int .i64 s.st, .slice a' (s.ts.eraseIdx i).length c']
    rw [hel]
    exact this
  · have h1 := q1.set_far (p := ⟨p, 3, none⟩) hne (.slice a' (i + (s.ts.length - (i + 1))) c')
    rw [hfl] at h1
    show Sl _ _ 15 a' (s.ts.eraseIdx i).length c' _ G'
    rw [hel]
    exact h1
  · rintro k (hF | hG)
    · have := D.lt k hF
      have h2 : W.drew.heap.size = W.heap.size := rfl
      simp [World.setCell]; omega
    · have := q1.lt k hG; simpa [World.setCell] using this
  · have h0 : Chg F W w4 := ((Chg.refl F W).drew).trans q2 (fun i _ h => D.fg i h)
    exact h0.setCell (p := ⟨p, 3, none⟩) (.inl D.fp) _
theorem newS_ok {m : Int} {t cl va : Int} (hm : 0 ≤ m) (t1 : 1 ≤ t) (t2 : t ≤ 16) (hv : valB cl va = true) : TOk m (newS t cl va) := by
  obtain ⟨b1, b2, b3, b4, b5⟩ := valB_bd hv
  exact { t1 := t1, t2 := t2, c1 := b1, c2 := by show cl ≤ 3; omega, va1 := b3, va2 := b4, va3 := b5, mo1 := by simp [newS], mo2 := by simp [newS], wi1 := by simp [newS], wi2 := by simp [newS], b1 := by simp [newS], b2 := by simp [newS], b3 := (fun h => by have h' : cl = 3 := h; omega), p1 := by simp [newS], p2 := by simp [newS], l1 := by simp [newS], l2 := by simp [newS], l3 := (fun h => by have h' : cl = 3 := h; omega), d1 := by simp [newS], d2 := by show (0 : Int) ≤ m + 30; omega, v1 := by simp [newS], v2 := by show (0 : Int) ≤ m * 1048576; omega, s1 := by simp [newS], s2 := hm, pi := by simp [newS], q1 := by simp [newS], q2 := by simp [newS], o1 := fun _ => rfl }
set_option maxHeartbeats 1000000 in
theorem sadd_any (w : World) (F : Nat → Prop) (p : Nat) (s : SR) (h : RunAt w F p s) (M : Int) (hok : SOk M s) (hM : M ≤ 1000000) (hl : s.ts.length < 1000) (t cl va : Int) (t1 : 1 ≤ t) (t2 : t ≤ 16) (hv : valB cl va = true) :
    Calls Try.prog 24 #[.pointer (some ⟨p, 0, none⟩), .int .i64 t, .int .i64 cl, .int .i64 va] w (PS F p (s.doAdd t cl va).1 (s.doAdd t cl va).2 w) := by
  have HR := hid h
  have EN := hid (senter_ok w F p s h M hok hM (newS t cl va) (newS_ok (by have := hok.tk1; have := hok.tk2; omega) t1 t2 hv) rfl hl)
  obtain ⟨g, off, a, c, G, h⟩ := h
  have FN := hid (sfind_ok w F p s g off a c G h hok.len t)
  have VL : Hid (∀ w, Calls Try.prog 47 #[.int .i64 cl, .int .i64 va] w fun e w' => e = .returned (.bool true) ∧ w = w') := hid (fun w => by
    have := svalue_ok w cl va
    rwa [hv] at this)
  have H := hid h
  clear h hok hv
  simp only [newS] at EN
  cases hf : fndI s.ts t with
  | none =>
    have E : Hid (s.doAdd t cl va = (s.enter (newS t cl va), 0)) := hid (by unfold SR.doAdd; rw [who_none hf])
    rw [hf] at FN
    unfold elV at FN
    clear hf
    go_enter Try.func24, Try.ntmps24
    go_wp2_with fail
    refine (VL.out _).mono ?_
    rintro e w1 ⟨rfl, hw⟩
    subst hw
    go_wp2_with fail
    refine FN.out.mono ?_
    rintro e w1 ⟨rfl, hw⟩
    subst hw
    go_wp2_with fail
    refine EN.out.mono ?_
    rintro e w2 ⟨rfl, F', h1, h2, h3⟩
    replace h1 := hid h1
    replace h2 := hid h2
    replace h3 := hid h3
    go_wp2
    go_ret
    rw [E.out]
    exact ⟨rfl, F', h1.out, h2.out, h3.out⟩
  | some i =>
    rw [hf] at FN
    obtain ⟨x, hx, _⟩ := fnd_get hf
    have E : Hid (s.doAdd t cl va = (s, 5)) := hid (by unfold SR.doAdd; rw [who_some hf hx])
    unfold elV at FN
    clear hf hx
    go_enter Try.func24, Try.ntmps24
    go_wp2_with fail
    refine (VL.out _).mono ?_
    rintro e w1 ⟨rfl, hw⟩
    subst hw
    go_wp2_with fail
    refine FN.out.mono ?_
    rintro e w1 ⟨rfl, hw⟩
    subst hw
    go_wp2
    go_ret
    rw [E.out]
    exact ps_same (w' := w) HR.out 0
end Go.Proofs.Ytdelelpfombfbaa
