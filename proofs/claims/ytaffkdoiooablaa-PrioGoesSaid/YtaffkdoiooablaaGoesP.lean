/- Plain laws of the law PrioGoes: sorting by inserting, and who goes next. No program in sight. -/
import Derived.Test.YtaffkdoiooablaaPlain
namespace Go.Proofs.Ytaffkdoiooablaa
set_option linter.unusedVariables false
def nats (xs : List Nat) : List Int := xs.map (fun (x : Nat) => (x : Int))
theorem nats_get (xs : List Nat) (i : Nat) (h : i < xs.length) : (nats xs)[i]? = some (xs[i] : Int) := by simp [nats, List.getElem?_eq_getElem h]
theorem nats_len (xs : List Nat) : (nats xs).length = xs.length := by simp [nats]
def SameBy (f : Nat → Int) (xs ys : List Nat) : Prop := ys.length = xs.length ∧ ∀ u, ys.filter (fun x => f x == u) = xs.filter (fun x => f x == u)
theorem SameBy.mem {f : Nat → Int} {xs ys : List Nat} (h : SameBy f xs ys) {x : Nat} (hx : x ∈ ys) : x ∈ xs := by
  have h1 : x ∈ ys.filter (fun y => f y == f x) := List.mem_filter.2 ⟨hx, by simp⟩
  rw [h.2] at h1
  exact (List.mem_filter.1 h1).1
/-- Of the first i + 1, all but the one at j stand in order. -/
def OrdBut (f : Nat → Int) (ys : List Nat) (i j : Nat) : Prop := ∀ a b x y, a < b → b ≤ i → b ≠ j → ys[a]? = some x → ys[b]? = some y → f y ≤ f x
def OrdTo (f : Nat → Int) (ys : List Nat) (i : Nat) : Prop := ∀ a b x y, a < b → b < i → ys[a]? = some x → ys[b]? = some y → f y ≤ f x
theorem OrdTo.start {f : Nat → Int} {ys : List Nat} {i : Nat} (h : OrdTo f ys i) : OrdBut f ys i i := fun a b x y hab hb hne => h a b x y hab (by omega)
theorem OrdBut.zero {f : Nat → Int} {ys : List Nat} {i : Nat} (h : OrdBut f ys i 0) : OrdTo f ys (i + 1) := fun a b x y hab hb => h a b x y hab (by omega) (by omega)
theorem OrdBut.stop {f : Nat → Int} {ys : List Nat} {i j x0 y0 : Nat} (h : OrdBut f ys i (j + 1)) (hx : ys[j]? = some x0) (hy : ys[j + 1]? = some y0) (hle : f y0 ≤ f x0) : OrdTo f ys (i + 1) := by
  intro a b x y hab hb ha hb'
  by_cases hbj : b = j + 1
  · subst hbj
    rw [hy] at hb'
    injection hb' with hb'
    subst hb'
    by_cases haj : a = j
    · subst haj
      rw [hx] at ha; injection ha with ha; subst ha; exact hle
    · have := h a j x x0 (by omega) (by omega) (by omega) ha hx
      omega
  · exact h a b x y hab (by omega) hbj ha hb'
/-- Two neighbours changed. -/
def swp (ys : List Nat) (j x y : Nat) : List Nat := (ys.set (j + 1) x).set j y
theorem swp_len (ys : List Nat) (j x y : Nat) : (swp ys j x y).length = ys.length := by simp [swp]
theorem swp_get (ys : List Nat) (j x y : Nat) (hj : j + 1 < ys.length) (k : Nat) : (swp ys j x y)[k]? = if k = j then some y else if k = j + 1 then some x else ys[k]? := by
  unfold swp
  by_cases h1 : k = j
  · subst h1; rw [List.getElem?_set_self (by simp; omega), if_pos rfl]
  · rw [List.getElem?_set_ne (by omega), if_neg h1]
    by_cases h2 : k = j + 1
    · subst h2; rw [List.getElem?_set_self (by omega), if_pos rfl]
    · rw [List.getElem?_set_ne (by omega), if_neg h2]
theorem OrdBut.swap {f : Nat → Int} {ys : List Nat} {i j x0 y0 : Nat} (h : OrdBut f ys i (j + 1)) (hji : j + 1 ≤ i) (hx : ys[j]? = some x0) (hy : ys[j + 1]? = some y0) (hlt : f x0 < f y0) : OrdBut f (swp ys j x0 y0) i j := by
  have hjl : j + 1 < ys.length := (List.getElem?_eq_some_iff.1 hy).1
  intro a b x y hab hb hne ha hb'
  rw [swp_get _ _ _ _ hjl] at ha hb'
  rw [if_neg hne] at hb'
  by_cases hbj : b = j + 1
  · rw [if_pos hbj] at hb'
    injection hb' with hb'
    subst hb'
    by_cases haj : a = j
    · rw [if_pos haj] at ha; injection ha with ha; subst ha; omega
    · rw [if_neg haj, if_neg (by omega)] at ha
      exact h a j x x0 (by omega) (by omega) (by omega) ha hx
  · rw [if_neg hbj] at hb'
    by_cases haj : a = j
    · rw [if_pos haj] at ha; injection ha with ha; subst ha
      exact h (j + 1) b y0 y (by omega) hb hbj hy hb'
    · rw [if_neg haj] at ha
      by_cases haj2 : a = j + 1
      · rw [if_pos haj2] at ha; injection ha with ha; subst ha
        exact h j b x0 y (by omega) hb hbj hx hb'
      · rw [if_neg haj2] at ha
        exact h a b x y hab hb hbj ha hb'
theorem cut2 (ys : List Nat) (j x0 y0 : Nat) (hx : ys[j]? = some x0) (hy : ys[j + 1]? = some y0) : ys = ys.take j ++ x0 :: y0 :: ys.drop (j + 2) := by
  obtain ⟨h1, e1⟩ := List.getElem?_eq_some_iff.1 hx
  obtain ⟨h2, e2⟩ := List.getElem?_eq_some_iff.1 hy
  have d1 := List.drop_eq_getElem_cons h1
  have d2 := List.drop_eq_getElem_cons h2
  rw [e1] at d1
  rw [e2] at d2
  conv => lhs; rw [← List.take_append_drop j ys, d1, d2]
theorem swp_cut (ys : List Nat) (j x0 y0 : Nat) (hx : ys[j]? = some x0) (hy : ys[j + 1]? = some y0) : swp ys j x0 y0 = ys.take j ++ y0 :: x0 :: ys.drop (j + 2) := by
  have hjl : j + 1 < ys.length := (List.getElem?_eq_some_iff.1 hy).1
  apply List.ext_getElem?
  intro k
  rw [swp_get _ _ _ _ hjl]
  have hl : (ys.take j).length = j := by simp; omega
  by_cases h1 : k < j
  · rw [if_neg (by omega), if_neg (by omega), List.getElem?_append_left (by omega), List.getElem?_take, if_pos h1]
  · rw [List.getElem?_append_right (by omega), hl]
    by_cases h2 : k = j
    · subst h2; rw [if_pos rfl, Nat.sub_self]; rfl
    · rw [if_neg h2]
      by_cases h3 : k = j + 1
      · subst h3; rw [if_pos rfl, show j + 1 - j = 1 by omega]; rfl
      · rw [if_neg h3, show k - j = (k - j - 2) + 2 by omega, List.getElem?_cons_succ, List.getElem?_cons_succ, List.getElem?_drop, show j + 2 + (k - j - 2) = k by omega]
theorem SameBy.swap {f : Nat → Int} {xs ys : List Nat} {j x0 y0 : Nat} (h : SameBy f xs ys) (hx : ys[j]? = some x0) (hy : ys[j + 1]? = some y0) (hlt : f x0 < f y0) : SameBy f xs (swp ys j x0 y0) := by
  refine ⟨by rw [swp_len, h.1], fun u => ?_⟩
  rw [← h.2 u, swp_cut ys j x0 y0 hx hy]
  conv => rhs; rw [cut2 ys j x0 y0 hx hy]
  rw [List.filter_append, List.filter_append]
  congr 1
  by_cases h1 : f x0 = u
  · have h2 : ¬ f y0 = u := by omega
    simp [h1, h2]
  · by_cases h2 : f y0 = u
    · simp [h1, h2]
    · simp [h1, h2]
/-- The queue of a priority, where ys wait. -/
def qOf (f : Nat → Int) (ys : List Nat) (u : Nat) : List Int := (ys.filter (fun x => f x == (u : Int))).map (fun (x : Nat) => (x : Int) + 1)
theorem qOf_cons_same (f : Nat → Int) (x : Nat) (ys : List Nat) (u : Nat) (h : f x = (u : Int)) : qOf f (x :: ys) u = ((x : Int) + 1) :: qOf f ys u := by simp [qOf, h]
theorem qOf_cons_ne (f : Nat → Int) (x : Nat) (ys : List Nat) (u : Nat) (h : f x ≠ (u : Int)) : qOf f (x :: ys) u = qOf f ys u := by simp [qOf, h]
theorem qOf_snoc (f : Nat → Int) (x : Nat) (ys : List Nat) (u : Nat) : qOf f (ys ++ [x]) u = if f x = (u : Int) then qOf f ys u ++ [(x : Int) + 1] else qOf f ys u := by
  split
  · rename_i h; simp [qOf, h]
  · rename_i h; simp [qOf, h]
theorem qOf_mem (f : Nat → Int) (ys : List Nat) (u : Nat) (t : Int) : t ∈ qOf f ys u ↔ ∃ x ∈ ys, f x = (u : Int) ∧ t = (x : Int) + 1 := by
  simp only [qOf, List.mem_map, List.mem_filter, beq_iff_eq]
  constructor
  · rintro ⟨x, ⟨h1, h2⟩, h3⟩; exact ⟨x, h1, h2, h3.symm⟩
  · rintro ⟨x, h1, h2, h3⟩; exact ⟨x, ⟨h1, h2⟩, h3.symm⟩
theorem qOf_len (f : Nat → Int) (ys : List Nat) (u : Nat) : (qOf f ys u).length ≤ ys.length := by
  rw [qOf, List.length_map]; exact List.length_filter_le _ _
theorem qOf_same {f : Nat → Int} {xs ys : List Nat} (h : SameBy f xs ys) (u : Nat) : qOf f ys u = qOf f xs u := by rw [qOf, qOf, h.2]
end Go.Proofs.Ytaffkdoiooablaa
