/- Plain laws of heaps: a list of ids with keys, kept so that nobody stands ahead of the one above. No program in sight; no condition. -/
import Derived.Test.YtnehdpjaioljcaaMem
namespace Go.Proofs.Ytnehdpjaioljcaa
set_option linter.unusedVariables false
/-- An id with its key. -/
structure HE where
  id : Int
  key : Int
/-- One comes ahead of another. -/
def HE.lt (x y : HE) : Bool := decide (x.key < y.key) || (decide (x.key = y.key) && decide (x.id < y.id))
/-- One does not come behind another. -/
def HE.le (x y : HE) : Prop := x.key < y.key ∨ (x.key = y.key ∧ x.id ≤ y.id)
theorem HE.le_refl (x : HE) : x.le x := .inr ⟨rfl, Int.le_refl _⟩
theorem HE.le_trans {x y z : HE} (h1 : x.le y) (h2 : y.le z) : x.le z := by unfold HE.le at *; omega
theorem HE.le_of_lt {x y : HE} (h : x.lt y = true) : x.le y := by
  unfold HE.lt at h
  unfold HE.le
  simp only [Bool.or_eq_true, Bool.and_eq_true, decide_eq_true_eq] at h
  omega
theorem HE.le_of_not {x y : HE} (h : x.lt y = false) : y.le x := by
  unfold HE.lt at h
  unfold HE.le
  simp only [Bool.or_eq_false_iff, Bool.and_eq_false_iff, decide_eq_false_iff_not] at h
  omega
theorem HE.not_of_le {x y : HE} (h : y.le x) : x.lt y = false := by
  unfold HE.le at h
  unfold HE.lt
  simp only [Bool.or_eq_false_iff, Bool.and_eq_false_iff, decide_eq_false_iff_not]
  omega
theorem HE.lt_irrefl (x : HE) : x.lt x = false := HE.not_of_le (HE.le_refl x)
theorem HE.le_antisymm {x y : HE} (h1 : x.le y) (h2 : y.le x) : x = y := by
  unfold HE.le at *
  have : x.key = y.key := by omega
  have : x.id = y.id := by omega
  cases x; cases y; simp_all
/-- Places i and j of a list change. -/
def swp (l : List HE) (i j : Nat) : List HE :=
  match l[i]?, l[j]? with
  | some x, some y => (l.set i y).set j x
  | _, _ => l
theorem swp_eq {l : List HE} {i j : Nat} (hi : i < l.length) (hj : j < l.length) : swp l i j = (l.set i l[j]).set j l[i] := by
  unfold swp
  rw [List.getElem?_eq_getElem hi, List.getElem?_eq_getElem hj]
theorem swp_len (l : List HE) (i j : Nat) : (swp l i j).length = l.length := by
  unfold swp
  split <;> simp
theorem swp_same {l : List HE} {i : Nat} (hi : i < l.length) : swp l i i = l := by
  rw [swp_eq hi hi]
  apply List.ext_getElem (by simp)
  intro k h1 h2
  simp only [List.getElem_set]
  split
  · rename_i h; subst h; rfl
  · rfl
theorem swp_get {l : List HE} {i j : Nat} (hi : i < l.length) (hj : j < l.length) (k : Nat) (hk : k < (swp l i j).length) : (swp l i j)[k] = if k = j then l[i] else if k = i then l[j] else l[k]'(by rw [swp_len] at hk; exact hk) := by
  have hk' : k < l.length := by rw [swp_len] at hk; exact hk
  simp only [swp_eq hi hj, List.getElem_set]
  by_cases h1 : k = j
  · subst h1; simp
  · rw [if_neg (fun h => h1 h.symm), if_neg h1]
    by_cases h2 : k = i
    · subst h2; simp
    · rw [if_neg (fun h => h2 h.symm), if_neg h2]
theorem swp_perm {l : List HE} {i j : Nat} (hi : i < l.length) (hj : j < l.length) : (swp l i j).Perm l := by
  rw [swp_eq hi hj]
  exact List.set_set_perm hi hj
/-- Nobody stands ahead of the one above. -/
def HeapI (l : List HE) : Prop := ∀ j (hj : j < l.length), 0 < j → (l[(j - 1) / 2]'(by omega)).le l[j]
/-- .. but for place i, with what is above and below it; what is below stands not ahead of what is above. -/
structure HeapX (l : List HE) (i : Nat) : Prop where
  far : ∀ j (hj : j < l.length), 0 < j → j ≠ i → (j - 1) / 2 ≠ i → (l[(j - 1) / 2]'(by omega)).le l[j]
  over : ∀ c (hc : c < l.length), 0 < c → ∀ (_ : (c - 1) / 2 = i) (_ : 0 < i), (l[(i - 1) / 2]'(by omega)).le l[c]
/-- .. but for what is below place i. -/
structure HeapD (l : List HE) (i : Nat) : Prop where
  far : ∀ j (hj : j < l.length), 0 < j → (j - 1) / 2 ≠ i → (l[(j - 1) / 2]'(by omega)).le l[j]
  over : ∀ c (hc : c < l.length), 0 < c → ∀ (_ : (c - 1) / 2 = i) (_ : 0 < i), (l[(i - 1) / 2]'(by omega)).le l[c]
theorem HeapX.up {l : List HE} {i : Nat} (h : HeapX l i) (hi : i < l.length) (h0 : 0 < i) (hlt : (l[i]).lt (l[(i - 1) / 2]'(by omega)) = true) : HeapX (swp l i ((i - 1) / 2)) ((i - 1) / 2) := by
  have hp : (i - 1) / 2 < l.length := by omega
  have hne : i ≠ (i - 1) / 2 := by omega
  have hle := HE.le_of_lt hlt
  refine ⟨fun j hj hj0 hj1 hj2 => ?_, fun c hc hc0 hc1 hp0 => ?_⟩
  · have hj' : j < l.length := by rw [swp_len] at hj; exact hj
    rw [swp_get hi hp, swp_get hi hp, if_neg hj2, if_neg hj1]
    by_cases e1 : (j - 1) / 2 = i
    · rw [if_pos e1]
      have hji : j ≠ i := by omega
      rw [if_neg hji]
      exact h.over j hj' hj0 e1 h0
    · rw [if_neg e1]
      by_cases e2 : j = i
      · subst e2; exact absurd rfl hj2
      · rw [if_neg e2]
        exact h.far j hj' hj0 e2 e1
  · have hc' : c < l.length := by rw [swp_len] at hc; exact hc
    have hpp : ((i - 1) / 2 - 1) / 2 ≠ (i - 1) / 2 := by omega
    have hpi : ((i - 1) / 2 - 1) / 2 ≠ i := by omega
    have hcp : c ≠ (i - 1) / 2 := by omega
    rw [swp_get hi hp, swp_get hi hp, if_neg hpp, if_neg hpi, if_neg hcp]
    have hup : (l[((i - 1) / 2 - 1) / 2]'(by omega)).le (l[(i - 1) / 2]) := h.far ((i - 1) / 2) hp hp0 (by omega) (by omega)
    by_cases e2 : c = i
    · rw [if_pos e2]; exact hup
    · rw [if_neg e2]
      refine HE.le_trans hup ?_
      have := h.far c hc' hc0 e2 (by omega)
      simpa only [hc1] using this
theorem HeapX.stay {l : List HE} {i : Nat} (h : HeapX l i) (hs : ∀ (hi : i < l.length), 0 < i → (l[i]).lt (l[(i - 1) / 2]'(by omega)) = false) : HeapD l i := by
  refine ⟨fun j hj h0 h1 => ?_, h.over⟩
  by_cases e : j = i
  · subst e; exact HE.le_of_not (hs hj h0)
  · exact h.far j hj h0 e h1
/-- The place that comes first, of i and the first t of those below it. -/
def bestTo (l : List HE) (i : Nat) : Nat → Nat
  | 0 => i
  | t + 1 => match l[2 * i + 1 + t]?, l[bestTo l i t]? with
    | some x, some y => if x.lt y then 2 * i + 1 + t else bestTo l i t
    | _, _ => bestTo l i t
theorem bestTo_is (l : List HE) (i t : Nat) : bestTo l i t = i ∨ (bestTo l i t < l.length ∧ ∃ s, s < t ∧ bestTo l i t = 2 * i + 1 + s) := by
  induction t with
  | zero => exact .inl rfl
  | succ t ih =>
    unfold bestTo
    have hi2 : bestTo l i t = i ∨ (bestTo l i t < l.length ∧ ∃ s, s < t + 1 ∧ bestTo l i t = 2 * i + 1 + s) := ih.imp id (fun ⟨a, s, b, c⟩ => ⟨a, s, by omega, c⟩)
    split
    · rename_i x y hx hy
      split
      · exact .inr ⟨(List.getElem?_eq_some_iff.1 hx).1, t, by omega, rfl⟩
      · exact hi2
    · exact hi2
theorem bestTo_lt (l : List HE) (i t : Nat) (hi : i < l.length) : bestTo l i t < l.length := by
  rcases bestTo_is l i t with h | h
  · rw [h]; exact hi
  · exact h.1
theorem bestTo_yes {l : List HE} {i t : Nat} (hi : i < l.length) (hc : 2 * i + 1 + t < l.length) (h : (l[2 * i + 1 + t]).lt (l[bestTo l i t]'(bestTo_lt l i t hi)) = true) : bestTo l i (t + 1) = 2 * i + 1 + t := by
  rw [bestTo, List.getElem?_eq_getElem hc, List.getElem?_eq_getElem (bestTo_lt l i t hi)]
  simp only [h, if_true]
theorem bestTo_no {l : List HE} {i t : Nat} (hi : i < l.length) (hc : 2 * i + 1 + t < l.length) (h : (l[2 * i + 1 + t]).lt (l[bestTo l i t]'(bestTo_lt l i t hi)) = false) : bestTo l i (t + 1) = bestTo l i t := by
  conv => lhs; rw [bestTo, List.getElem?_eq_getElem hc, List.getElem?_eq_getElem (bestTo_lt l i t hi)]
  simp [h]
theorem bestTo_out {l : List HE} {i t : Nat} (hc : l.length ≤ 2 * i + 1 + t) : bestTo l i (t + 1) = bestTo l i t := by
  conv => lhs; rw [bestTo, List.getElem?_eq_none hc]
theorem bestTo_out2 {l : List HE} {i t : Nat} (ht : t ≤ 2) (hc : l.length ≤ 2 * i + 1 + t) : bestTo l i 2 = bestTo l i t := by
  rcases t with _ | _ | _ | t
  · rw [bestTo_out (t := 1) (by omega), bestTo_out (t := 0) (by omega)]
  · rw [bestTo_out (t := 1) (by omega)]
  · rfl
  · omega
theorem bestTo_le {l : List HE} {i : Nat} (hi : i < l.length) (t : Nat) : (l[bestTo l i t]'(bestTo_lt l i t hi)).le l[i] ∧ ∀ s (hs : s < t) (hc : 2 * i + 1 + s < l.length), (l[bestTo l i t]'(bestTo_lt l i t hi)).le (l[2 * i + 1 + s]) := by
  induction t with
  | zero => exact ⟨HE.le_refl _, fun s hs => absurd hs (by omega)⟩
  | succ t ih =>
    by_cases hc : 2 * i + 1 + t < l.length
    · cases hb : (l[2 * i + 1 + t]).lt (l[bestTo l i t]'(bestTo_lt l i t hi)) with
      | true =>
        have e := bestTo_yes hi hc hb
        simp only [e]
        have hle := HE.le_of_lt hb
        refine ⟨HE.le_trans hle ih.1, fun s hs hcs => ?_⟩
        by_cases es : s = t
        · subst es; exact HE.le_refl _
        · exact HE.le_trans hle (ih.2 s (by omega) hcs)
      | false =>
        have e := bestTo_no hi hc hb
        simp only [e]
        refine ⟨ih.1, fun s hs hcs => ?_⟩
        by_cases es : s = t
        · subst es; exact HE.le_of_not hb
        · exact ih.2 s (by omega) hcs
    · have e := bestTo_out (l := l) (i := i) (t := t) (by omega)
      simp only [e]
      exact ⟨ih.1, fun s hs hcs => ih.2 s (by omega) hcs⟩
theorem HeapD.done {l : List HE} {i : Nat} (h : HeapD l i) (hi : i < l.length) (hb : bestTo l i 2 = i) : HeapI l := by
  intro j hj h0
  by_cases e : (j - 1) / 2 = i
  · have hle := bestTo_le hi 2
    simp only [hb] at hle
    have : j = 2 * i + 1 + 0 ∨ j = 2 * i + 1 + 1 := by omega
    rcases this with e2 | e2
    · have := hle.2 0 (by omega) (by omega)
      simp only [e]
      subst e2
      exact this
    · have := hle.2 1 (by omega) (by omega)
      simp only [e]
      subst e2
      exact this
  · exact h.far j hj h0 e
theorem HeapD.down {l : List HE} {i : Nat} (h : HeapD l i) (hi : i < l.length) (hb : bestTo l i 2 ≠ i) : HeapD (swp l i (bestTo l i 2)) (bestTo l i 2) := by
  obtain ⟨hbl, s, hs, hbs⟩ := (bestTo_is l i 2).resolve_left hb
  have hle := bestTo_le hi 2
  obtain ⟨b, hbb⟩ : ∃ b, b = bestTo l i 2 := ⟨_, rfl⟩
  simp only [← hbb] at hle hb hbl hbs ⊢
  have hpb : (b - 1) / 2 = i := by omega
  refine ⟨fun j hj h0 h1 => ?_, fun c hc hc0 hc1 hb0 => ?_⟩
  · have hj' : j < l.length := by rw [swp_len] at hj; exact hj
    rw [swp_get hi hbl, swp_get hi hbl, if_neg h1]
    by_cases e1 : (j - 1) / 2 = i
    · rw [if_pos e1]
      by_cases e2 : j = b
      · rw [if_pos e2]; exact hle.1
      · rw [if_neg e2, if_neg (by omega)]
        have : j = 2 * i + 1 + 0 ∨ j = 2 * i + 1 + 1 := by omega
        rcases this with e3 | e3
        · have := hle.2 0 (by omega) (by omega)
          subst e3
          exact this
        · have := hle.2 1 (by omega) (by omega)
          subst e3
          exact this
    · rw [if_neg e1]
      have e2 : j ≠ b := fun hh => e1 (by rw [hh]; exact hpb)
      rw [if_neg e2]
      by_cases e3 : j = i
      · rw [if_pos e3]
        subst e3
        exact h.over b hbl (by omega) hpb h0
      · rw [if_neg e3]
        exact h.far j hj' h0 e1
  · have hc' : c < l.length := by rw [swp_len] at hc; exact hc
    rw [swp_get hi hbl, swp_get hi hbl, if_neg (by omega), if_pos hpb, if_neg (by omega), if_neg (by omega)]
    have := h.far c hc' hc0 (by omega)
    simpa only [hc1] using this
/-- Who comes first stands at the head. -/
theorem HeapI.first {l : List HE} (h : HeapI l) : ∀ j (hj : j < l.length), (l[0]'(by omega)).le l[j] := by
  intro j
  induction j using Nat.strongRecOn with
  | ind j ih =>
    intro hj
    by_cases h0 : j = 0
    · subst h0; exact HE.le_refl _
    · exact HE.le_trans (ih ((j - 1) / 2) (by omega) (by omega)) (h j hj (by omega))
theorem heapI_nil : HeapI [] := fun j hj => absurd hj (by simp)
/-- One more comes at the end. -/
theorem HeapI.push {l : List HE} (h : HeapI l) (x : HE) : HeapX (l ++ [x]) l.length := by
  refine ⟨fun j hj h0 h1 h2 => ?_, fun c hc h0 h1 h2 => ?_⟩
  · have hj' : j < l.length := by simp at hj; omega
    rw [List.getElem_append_left hj', List.getElem_append_left (by omega)]
    exact h j hj' h0
  · simp at hc; omega
/-- One has another key. -/
theorem HeapI.turn {l : List HE} (h : HeapI l) (i : Nat) (x : HE) : HeapX (l.set i x) i := by
  refine ⟨fun j hj h0 h1 h2 => ?_, fun c hc h0 h1 h2 => ?_⟩
  · have hj' : j < l.length := by simpa using hj
    rw [List.getElem_set_ne (by omega), List.getElem_set_ne (by omega)]
    exact h j hj' h0
  · have hc' : c < l.length := by simpa using hc
    rw [List.getElem_set_ne (by omega), List.getElem_set_ne (by omega)]
    have e1 := h c hc' h0
    simp only [h1] at e1
    exact HE.le_trans (h i (by omega) h2) e1
/-- The last one takes the place of one that goes. -/
theorem HeapI.out {l : List HE} (h : HeapI l) (i : Nat) (hi : i < l.length) : (i < l.length - 1 → HeapX ((swp l i (l.length - 1)).take (l.length - 1)) i) ∧ (i = l.length - 1 → HeapI ((swp l i (l.length - 1)).take (l.length - 1))) := by
  have hn : l.length - 1 < l.length := by omega
  refine ⟨fun hlt => ⟨fun j hj h0 h1 h2 => ?_, fun c hc h0 h1 h2 => ?_⟩, fun he => fun j hj h0 => ?_⟩
  · have hj' : j < l.length - 1 := by rw [List.length_take, swp_len] at hj; omega
    rw [List.getElem_take, List.getElem_take, swp_get hi hn, swp_get hi hn, if_neg (by omega), if_neg (by omega), if_neg (by omega), if_neg (by omega)]
    exact h j (by omega) h0
  · have hc' : c < l.length - 1 := by rw [List.length_take, swp_len] at hc; omega
    rw [List.getElem_take, List.getElem_take, swp_get hi hn, swp_get hi hn, if_neg (by omega), if_neg (by omega), if_neg (by omega), if_neg (by omega)]
    have e1 := h c (by omega) h0
    simp only [h1] at e1
    exact HE.le_trans (h i hi h2) e1
  · have hj' : j < l.length - 1 := by rw [List.length_take, swp_len] at hj; omega
    rw [List.getElem_take, List.getElem_take, swp_get hi hn, swp_get hi hn, if_neg (by omega), if_neg (by omega), if_neg (by omega), if_neg (by omega)]
    exact h j (by omega) h0
theorem out_perm {l : List HE} {i : Nat} (hi : i < l.length) : (l[i] :: (swp l i (l.length - 1)).take (l.length - 1)).Perm l := by
  have hn : l.length - 1 < l.length := by omega
  have e : (swp l i (l.length - 1)).take (l.length - 1) ++ [l[i]] = swp l i (l.length - 1) := by
    apply List.ext_getElem
    · simp [swp_len]; omega
    · intro k h1 h2
      have h2' : k < l.length := by rw [swp_len] at h2; exact h2
      rw [List.getElem_append]
      split
      · rw [List.getElem_take]
      · rename_i hh
        have hk : k = l.length - 1 := by rw [List.length_take, swp_len] at hh; omega
        subst hk
        rw [swp_get hi hn, if_pos rfl]
        simp
  exact ((List.perm_append_singleton l[i] _).symm.trans (by rw [e])).trans (swp_perm hi hn)
end Go.Proofs.Ytnehdpjaioljcaa
