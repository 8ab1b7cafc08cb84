/- What the law SemAll finds: all who came have had it. No program in sight; no condition. -/
import Derived.Test.YteiljmjfhafmfaaAllP
namespace Go.Proofs.Yteiljmjfhafmfaa
set_option linter.unusedVariables false
/-- Who came either holds it or waits. -/
structure CmS (s : MS) (ord : List Int) : Prop where
  ok : MOk s
  tot : s.tot ≤ ord.length
  each : ∀ t ∈ ord, (1 ≤ t ∧ t ≤ 16) ∧ s.in t
theorem cm_new : CmS ⟨[], 0, []⟩ [] := ⟨m_new, Nat.le_refl _, fun t ht => by cases ht⟩
theorem CmS.take {s : MS} {ord : List Int} (h : CmS s ord) {t : Int} (t1 : 1 ≤ t) (t2 : t ≤ 16) (wt : Bool) (hr : (s.take t wt).2 ≠ 8) : CmS (s.take t wt).1 (ord ++ [t]) := by
  obtain ⟨a, b⟩ := take_in h.ok t1 t2 wt
  refine ⟨h.ok.take t1 t2 wt, ?_, fun x hx => ?_⟩
  · have := (take_tot h.ok t1 t2 wt).1
    have := h.tot
    rw [List.length_append]
    simp only [List.length_cons, List.length_nil]
    omega
  · rcases List.mem_append.1 hx with hx | hx
    · have := h.each x hx
      exact ⟨this.1, a x this.1.1 this.2⟩
    · rw [List.mem_singleton.1 hx]
      exact ⟨⟨t1, t2⟩, b hr⟩
/-- Who came had it, or waits. -/
structure HdS (s : MS) (H : Int → Bool) (ord : List Int) (k : Nat) : Prop where
  ok : MOk s
  tot : s.tot + k ≤ ord.length
  each : ∀ t ∈ ord, (1 ≤ t ∧ t ≤ 16) ∧ (H t = true ∨ t ∈ s.row.map WN.t)
theorem CmS.had {s : MS} {ord : List Int} (h : CmS s ord) {H : Int → Bool} (hH : ∀ t, hasI (sortI s.rd ++ [s.wr]) t = true → H t = true) : HdS s H ord 0 := by
  refine ⟨h.ok, h.tot, fun t ht => ?_⟩
  obtain ⟨b, hin⟩ := h.each t ht
  refine ⟨b, ?_⟩
  rcases hin with (h1 | h1) | h1
  · exact .inl (hH t (hasI_true (List.mem_append_left _ ((List.mergeSort_perm s.rd _).mem_iff.2 h1))))
  · exact .inl (hH t (hasI_true (List.mem_append_right _ (by rw [h1]; simp))))
  · exact .inr h1
theorem HdS.free {s : MS} {H H' : Int → Bool} {ord : List Int} {k : Nat} (h : HdS s H ord k) {t : Int} (t1 : 1 ≤ t) (ht : t ∈ s.rd ∨ t = s.wr) (h1 : ∀ x, H x = true → H' x = true) (h2 : ∀ x ∈ (s.free t).2, H' x = true) : HdS (s.free t).1 H' ord (k + 1) := by
  obtain ⟨a, b⟩ := free_tot h.ok t1 ht
  refine ⟨h.ok.free t, by have := h.tot; omega, fun x hx => ?_⟩
  obtain ⟨c, hin⟩ := h.each x hx
  refine ⟨c, ?_⟩
  rcases hin with hin | hin
  · exact .inl (h1 x hin)
  · rw [← b] at hin
    rcases List.mem_append.1 hin with hin | hin
    · exact .inl (h2 x hin)
    · exact .inr hin
/-- At the end all have had it, and nobody is left. -/
theorem HdS.fin {s : MS} {H : Int → Bool} {ord : List Int} (h : HdS s H ord ord.length) : (∀ t ∈ ord, H t = true) ∧ s.rd = [] ∧ s.wr = 0 ∧ s.row = [] := by
  have ht := h.tot
  unfold MS.tot at ht
  have h1 : s.rd = [] := List.eq_nil_of_length_eq_zero (by omega)
  have h2 : s.row = [] := List.eq_nil_of_length_eq_zero (by omega)
  have h3 : s.wr = 0 := by
    by_cases hw : s.wr = 0
    · exact hw
    · rw [if_neg hw] at ht; omega
  refine ⟨fun t hx => ?_, h1, h3, h2⟩
  rcases (h.each t hx).2 with hh | hh
  · exact hh
  · rw [h2] at hh; cases hh
theorem hasI_step {l : List Int} {j : Nat} (h : j < l.length) (x : Int) : hasI (l.take (j + 1)) x = (if x = l[j] then true else hasI (l.take j) x) := by
  rw [List.take_succ_eq_append_getElem h]
  by_cases hx : x = l[j]
  · rw [if_pos hx]; exact hasI_true (List.mem_append_right _ (by rw [hx]; simp))
  · rw [if_neg hx]
    by_cases hm : x ∈ l.take j
    · rw [hasI_true hm]; exact hasI_true (List.mem_append_left _ hm)
    · rw [hasI_false hm]
      refine hasI_false (fun hh => ?_)
      rcases List.mem_append.1 hh with hh | hh
      · exact hm hh
      · exact hx (List.mem_singleton.1 hh)
end Go.Proofs.Yteiljmjfhafmfaa
