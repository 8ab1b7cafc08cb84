/- Plain laws of locks for which one sleeps: who holds, who waits, and that nobody waits for himself. No program in sight; no condition. -/
import Derived.Test.YtdelelpfombfbaaMem
namespace Go.Proofs.Ytdelelpfombfbaa
set_option linter.unusedVariables false
/-- One thing of a row of things is another. -/
def upN {α : Type} (f : Nat → α) (i : Nat) (x : α) : Nat → α := fun j => if j = i then x else f j
theorem upN_same {α : Type} (f : Nat → α) (i : Nat) (x : α) : upN f i x i = x := by simp [upN]
theorem upN_ne {α : Type} (f : Nat → α) {i j : Nat} (x : α) (h : j ≠ i) : upN f i x j = f j := by simp [upN, h]
/-- Who holds each of sixteen locks, and who waits for it, of n tasks. -/
structure LkS (n : Nat) (o : Nat → Int) (q : Nat → List Int) : Prop where
  own : ∀ k, k < 16 → 0 ≤ o k ∧ o k ≤ n
  row : ∀ k, k < 16 → ∀ x ∈ q k, 1 ≤ x ∧ x ≤ n
  nd : ∀ k, k < 16 → (q k).Nodup
  uniq : ∀ i j x, i < 16 → j < 16 → x ∈ q i → x ∈ q j → i = j
  free : ∀ k, k < 16 → o k = 0 → q k = []
  acyc : ∃ r : Int → Nat, ∀ k, k < 16 → ∀ x ∈ q k, r (o k) < r x
theorem LkS.start (n : Nat) : LkS n (fun _ => 0) (fun _ => []) :=
  ⟨fun k _ => ⟨Int.le_refl _, by omega⟩, (fun k _ x h => by cases h), fun k _ => List.nodup_nil, (fun i j x _ _ h => by cases h), fun k _ _ => rfl, ⟨fun _ => 0, fun k _ x h => by cases h⟩⟩
/-- For which lock a task waits. -/
def waitK (q : Nat → List Int) (t : Int) : Option Nat := (List.range 16).find? (fun k => decide (t ∈ q k))
theorem waitK_some {n : Nat} {o : Nat → Int} {q : Nat → List Int} (h : LkS n o q) {t : Int} {k : Nat} : waitK q t = some k ↔ k < 16 ∧ t ∈ q k := by
  unfold waitK
  constructor
  · intro h1
    have h2 := List.find?_some h1
    have h3 := List.mem_range.1 (List.mem_of_find?_eq_some h1)
    exact ⟨h3, by simpa using h2⟩
  · rintro ⟨h1, h2⟩
    cases hf : (List.range 16).find? (fun k => decide (t ∈ q k)) with
    | none =>
      rw [List.find?_eq_none] at hf
      exact absurd (by simpa using h2) (hf k (List.mem_range.2 h1))
    | some j =>
      have h3 := List.find?_some hf
      have h4 := List.mem_range.1 (List.mem_of_find?_eq_some hf)
      rw [h.uniq j k t h4 h1 (by simpa using h3) h2]
theorem waitK_none {q : Nat → List Int} {t : Int} : waitK q t = none ↔ ∀ k, k < 16 → t ∉ q k := by
  unfold waitK
  rw [List.find?_eq_none]
  constructor
  · intro h k hk
    have := h k (List.mem_range.2 hk)
    simpa using this
  · intro h k hk
    have := h k (List.mem_range.1 hk)
    simpa using this
/-- Going from who waits to who holds what he waits for, one comes from x to y. -/
inductive Rch (o : Nat → Int) (q : Nat → List Int) : Int → Int → Prop
  | refl (x : Int) : Rch o q x x
  | step (x y : Int) (k : Nat) : k < 16 → x ∈ q k → Rch o q (o k) y → Rch o q x y
section
variable {n : Nat} {o : Nat → Int} {q : Nat → List Int}
theorem LkS.next (h : LkS n o q) {x t : Int} {k : Nat} (hk : k < 16) (hx : x ∈ q k) (hne : x ≠ t) : Rch o q x t ↔ Rch o q (o k) t := by
  constructor
  · intro hr
    cases hr with
    | refl => exact absurd rfl hne
    | step _ _ j hj hxj hr =>
      have := h.uniq j k x hj hk hxj hx
      subst this; exact hr
  · exact Rch.step x t k hk hx
theorem rch_stop {x t : Int} (hw : ∀ k, k < 16 → x ∉ q k) (hne : x ≠ t) : ¬ Rch o q x t := by
  intro hr
  cases hr with
  | refl => exact hne rfl
  | step _ _ j hj hxj hr => exact hw j hj hxj
/-- A lock is taken that nobody holds. -/
theorem LkS.take (h : LkS n o q) {k : Nat} (hk : k < 16) (h0 : o k = 0) {t : Int} (ht1 : 1 ≤ t) (ht2 : t ≤ n) : LkS n (upN o k t) q := by
  have he := h.free k hk h0
  refine ⟨fun j hj => ?_, h.row, h.nd, h.uniq, fun j hj hz => ?_, ?_⟩
  · unfold upN; split
    · omega
    · exact h.own j hj
  · unfold upN at hz
    split at hz
    · omega
    · exact h.free j hj hz
  · obtain ⟨r, hr⟩ := h.acyc
    refine ⟨r, fun j hj x hx => ?_⟩
    have : j ≠ k := by rintro rfl; rw [he] at hx; cases hx
    rw [upN_ne _ _ this]
    exact hr j hj x hx
/-- One more waits. -/
theorem LkS.wait (h : LkS n o q) {k : Nat} (hk : k < 16) (h0 : o k ≠ 0) {t : Int} (ht1 : 1 ≤ t) (ht2 : t ≤ n) (hw : ∀ j, j < 16 → t ∉ q j) (hr : ¬ Rch o q (o k) t) : LkS n o (upN q k (q k ++ [t])) := by
  classical
  refine ⟨h.own, fun j hj x hx => ?_, fun j hj => ?_, fun i j x hi hj h1 h2 => ?_, fun j hj hz => ?_, ?_⟩
  · unfold upN at hx
    split at hx
    · rename_i e; subst e
      rcases List.mem_append.1 hx with h1 | h1
      · exact h.row j hj x h1
      · have : x = t := by simpa using h1
        subst this; exact ⟨ht1, ht2⟩
    · exact h.row j hj x hx
  · unfold upN
    split
    · rename_i e; subst e
      exact List.nodup_append.2 ⟨h.nd j hj, by simp, fun a ha b hb => by
        have : b = t := by simpa using hb
        subst this
        exact fun hh => hw j hj (by rw [← hh]; exact ha)⟩
    · exact h.nd j hj
  · have key : ∀ i, i < 16 → x ∈ upN q k (q k ++ [t]) i → (x ∈ q i ∨ (i = k ∧ x = t)) := fun i hi hx => by
      unfold upN at hx
      split at hx
      · rename_i e; subst e
        rcases List.mem_append.1 hx with h1 | h1
        · exact .inl h1
        · exact .inr ⟨rfl, by simpa using h1⟩
      · exact .inl hx
    rcases key i hi h1 with a | ⟨a, a'⟩ <;> rcases key j hj h2 with b | ⟨b, b'⟩
    · exact h.uniq i j x hi hj a b
    · subst b'; exact absurd a (hw i hi)
    · subst a'; exact absurd b (hw j hj)
    · rw [a, b]
  · unfold upN
    split
    · rename_i e; subst e; exact absurd hz h0
    · exact h.free j hj hz
  · obtain ⟨r, hrk⟩ := h.acyc
    refine ⟨fun y => r y + (if Rch o q y t then r (o k) + 1 else 0), fun j hj x hx => ?_⟩
    show r (o j) + _ < r x + _
    have old : ∀ j, j < 16 → ∀ x ∈ q j, r (o j) + (if Rch o q (o j) t then r (o k) + 1 else 0) < r x + (if Rch o q x t then r (o k) + 1 else 0) := fun j hj x hx => by
      have h1 := hrk j hj x hx
      by_cases h2 : Rch o q (o j) t
      · rw [if_pos h2, if_pos (Rch.step x t j hj hx h2)]; omega
      · rw [if_neg h2]; omega
    unfold upN at hx
    split at hx
    · rename_i e; subst e
      rcases List.mem_append.1 hx with h1 | h1
      · exact old j hj x h1
      · have : x = t := by simpa using h1
        subst this
        rw [if_neg hr, if_pos (Rch.refl x)]
        omega
    · exact old j hj x hx
/-- One waits no more. -/
theorem LkS.drop (h : LkS n o q) {k : Nat} (hk : k < 16) {l : List Int} (hl : l.Sublist (q k)) : LkS n o (upN q k l) := by
  have sub : ∀ i, ∀ x ∈ upN q k l i, x ∈ q i := fun i x hx => by
    unfold upN at hx
    split at hx
    · rename_i e; subst e; exact hl.subset hx
    · exact hx
  refine ⟨h.own, fun j hj x hx => h.row j hj x (sub j x hx), fun j hj => ?_, fun i j x hi hj h1 h2 => h.uniq i j x hi hj (sub i x h1) (sub j x h2), fun j hj hz => ?_, ?_⟩
  · unfold upN
    split
    · rename_i e; subst e; exact (h.nd j hj).sublist hl
    · exact h.nd j hj
  · have := h.free j hj hz
    unfold upN
    split
    · rename_i e; subst e; rw [this] at hl; exact List.sublist_nil.1 hl
    · exact this
  · obtain ⟨r, hr⟩ := h.acyc
    exact ⟨r, fun j hj x hx => hr j hj x (sub j x hx)⟩
/-- A lock is free again. -/
theorem LkS.leave (h : LkS n o q) {k : Nat} (hk : k < 16) (he : q k = []) : LkS n (upN o k 0) q := by
  refine ⟨fun j hj => ?_, h.row, h.nd, h.uniq, fun j hj hz => ?_, ?_⟩
  · unfold upN; split
    · omega
    · exact h.own j hj
  · by_cases hjk : j = k
    · subst hjk; exact he
    · rw [upN_ne _ _ hjk] at hz; exact h.free j hj hz
  · obtain ⟨r, hr⟩ := h.acyc
    refine ⟨r, fun j hj x hx => ?_⟩
    have : j ≠ k := by rintro rfl; rw [he] at hx; cases hx
    rw [upN_ne _ _ this]
    exact hr j hj x hx
/-- Who waited has the lock. -/
theorem LkS.hand (h : LkS n o q) {k : Nat} (hk : k < 16) {t : Int} (ht : t ∈ q k) {l : List Int} (hl : l.Sublist (q k)) (hnt : t ∉ l) : LkS n (upN o k t) (upN q k l) := by
  have h1 := h.drop hk hl
  have htb := h.row k hk t ht
  have hno : ∀ j, j < 16 → t ∉ upN q k l j := fun j hj hx => by
    by_cases e : j = k
    · subst e; rw [upN_same] at hx; exact hnt hx
    · rw [upN_ne _ _ e] at hx; exact e (h.uniq j k t hj hk hx ht)
  refine ⟨fun j hj => ?_, h1.row, h1.nd, h1.uniq, fun j hj hz => ?_, ?_⟩
  · unfold upN; split
    · omega
    · exact h.own j hj
  · by_cases e : j = k
    · subst e; rw [upN_same] at hz; omega
    · rw [upN_ne _ _ e] at hz; exact h1.free j hj hz
  · obtain ⟨r, hr⟩ := h1.acyc
    refine ⟨fun y => if y = t then 0 else r y + 1, fun j hj x hx => ?_⟩
    have hxt : x ≠ t := by rintro rfl; exact hno j hj hx
    show (if upN o k t j = t then 0 else r (upN o k t j) + 1) < (if x = t then 0 else r x + 1)
    rw [if_neg hxt]
    by_cases e : j = k
    · subst e; rw [upN_same, if_pos rfl]; omega
    · rw [upN_ne _ _ e]
      split
      · omega
      · have := hr j hj x hx; omega
end
/-- How urgent a task is, of itself and of all that wait for it, m steps deep. -/
def accF (pr : Int → Int) (o : Nat → Int) (q : Nat → List Int) (g : Int → Int) (t : Int) : Nat → Int
  | 0 => pr t
  | k + 1 => if o k = t then (q k).foldl (fun a x => max a (g x)) (accF pr o q g t k) else accF pr o q g t k
def eff (pr : Int → Int) (o : Nat → Int) (q : Nat → List Int) : Nat → Int → Int
  | 0, t => pr t
  | m + 1, t => accF pr o q (eff pr o q m) t 16
theorem accF_congr {pr : Int → Int} {o : Nat → Int} {q : Nat → List Int} {g g' : Int → Int} {t : Int} (j : Nat) (h : ∀ k, k < j → o k = t → ∀ x ∈ q k, g x = g' x) : accF pr o q g t j = accF pr o q g' t j := by
  induction j with
  | zero => rfl
  | succ j ih =>
    have e := ih (fun k hk => h k (by omega))
    unfold accF
    rw [e]
    split
    · rename_i hj
      have hx := h j (by omega) hj
      have : ∀ (l : List Int) (a : Int), (∀ x ∈ l, g x = g' x) → l.foldl (fun a x => max a (g x)) a = l.foldl (fun a x => max a (g' x)) a := by
        intro l
        induction l with
        | nil => intro a _; rfl
        | cons y l ih2 =>
          intro a hl
          simp only [List.foldl_cons]
          rw [hl y (by simp)]
          exact ih2 _ (fun x hx => hl x (List.mem_cons_of_mem _ hx))
      exact this _ _ hx
    · rfl
theorem foldl_max_le {g : Int → Int} (l : List Int) (a b : Int) (ha : a ≤ b) (h : ∀ x ∈ l, g x ≤ b) : l.foldl (fun a x => max a (g x)) a ≤ b := by
  induction l generalizing a with
  | nil => exact ha
  | cons y l ih => exact ih _ (show max a (g y) ≤ b by have := h y (by simp); omega) (fun x hx => h x (List.mem_cons_of_mem _ hx))
theorem foldl_max_ge {g : Int → Int} (l : List Int) (a : Int) : a ≤ l.foldl (fun a x => max a (g x)) a ∧ ∀ x ∈ l, g x ≤ l.foldl (fun a x => max a (g x)) a := by
  induction l generalizing a with
  | nil => exact ⟨Int.le_refl _, fun x h => by cases h⟩
  | cons y l ih =>
    have h1 := ih (max a (g y))
    simp only [List.foldl_cons]
    refine ⟨by omega, fun x hx => ?_⟩
    rcases List.mem_cons.1 hx with rfl | hx
    · omega
    · exact h1.2 x hx
theorem accF_ge {pr : Int → Int} {o : Nat → Int} {q : Nat → List Int} {g : Int → Int} {t : Int} (j : Nat) : pr t ≤ accF pr o q g t j ∧ ∀ k, k < j → o k = t → ∀ x ∈ q k, g x ≤ accF pr o q g t j := by
  induction j with
  | zero => exact ⟨Int.le_refl _, fun k hk => absurd hk (by omega)⟩
  | succ j ih =>
    unfold accF
    split
    · rename_i hj
      have h1 := foldl_max_ge (g := g) (q j) (accF pr o q g t j)
      refine ⟨by omega, fun k hk hkt x hx => ?_⟩
      by_cases e : k = j
      · subst e; exact h1.2 x hx
      · have := ih.2 k (by omega) hkt x hx; omega
    · rename_i hj
      refine ⟨ih.1, fun k hk hkt x hx => ?_⟩
      by_cases e : k = j
      · subst e; exact absurd hkt hj
      · exact ih.2 k (by omega) hkt x hx
theorem accF_le {pr : Int → Int} {o : Nat → Int} {q : Nat → List Int} {g : Int → Int} {t b : Int} (j : Nat) (h0 : pr t ≤ b) (h : ∀ k, k < j → o k = t → ∀ x ∈ q k, g x ≤ b) : accF pr o q g t j ≤ b := by
  induction j with
  | zero => exact h0
  | succ j ih =>
    have h1 := ih (fun k hk => h k (by omega))
    unfold accF
    split
    · rename_i hj
      exact foldl_max_le _ _ _ h1 (h j (by omega) hj)
    · exact h1
/-- A bound on the ranks of n tasks. -/
def topR (r : Int → Nat) : Nat → Nat
  | 0 => r 0
  | n + 1 => max (topR r n) (r ((n + 1 : Nat) : Int))
theorem topR_le (r : Int → Nat) (n : Nat) : ∀ x : Int, 0 ≤ x → x ≤ n → r x ≤ topR r n := by
  induction n with
  | zero =>
    intro x h1 h2
    have : x = 0 := by omega
    subst this; exact Nat.le_refl _
  | succ n ih =>
    intro x h1 h2
    unfold topR
    by_cases h : x = ((n + 1 : Nat) : Int)
    · rw [h]; exact Nat.le_max_right _ _
    · exact Nat.le_trans (ih x h1 (by omega)) (Nat.le_max_left _ _)
/-- Deep enough is as deep as one likes. -/
theorem eff_stable {n : Nat} {pr : Int → Int} {o : Nat → Int} {q : Nat → List Int} (h : LkS n o q) {r : Int → Nat} (hr : ∀ k, k < 16 → ∀ x ∈ q k, r (o k) < r x) {H : Nat} (hH : ∀ x : Int, 0 ≤ x → x ≤ n → r x ≤ H) :
    ∀ (m m' : Nat) (t : Int), H - r t ≤ m → H - r t ≤ m' → eff pr o q m t = eff pr o q m' t := by
  have stop : ∀ t, H - r t = 0 → ∀ k, k < 16 → o k = t → q k = [] := fun t h0 k hk hkt => by
    cases hq : q k with
    | nil => rfl
    | cons x l =>
      have hx : x ∈ q k := by rw [hq]; simp
      have h1 := hr k hk x hx
      have h2 := h.row k hk x hx
      have h3 := hH x (by omega) h2.2
      rw [hkt] at h1
      omega
  have flat : ∀ t, H - r t = 0 → ∀ m, eff pr o q m t = pr t := fun t h0 m => by
    cases m with
    | zero => rfl
    | succ m =>
      show accF pr o q (eff pr o q m) t 16 = pr t
      have : ∀ j, j ≤ 16 → accF pr o q (eff pr o q m) t j = pr t := by
        intro j
        induction j with
        | zero => intro _; rfl
        | succ j ih =>
          intro hj
          unfold accF
          split
          · rename_i hjt
            rw [stop t h0 j (by omega) hjt, ih (by omega)]; rfl
          · exact ih (by omega)
      exact this 16 (by omega)
  intro m
  induction m with
  | zero => intro m' t h1 h2; rw [flat t (by omega), flat t (by omega)]
  | succ m ih =>
    intro m' t h1 h2
    cases m' with
    | zero => rw [flat t (by omega), flat t (by omega)]
    | succ m' =>
      show accF pr o q (eff pr o q m) t 16 = accF pr o q (eff pr o q m') t 16
      refine accF_congr 16 (fun k hk hkt x hx => ?_)
      have h3 := hr k hk x hx
      rw [hkt] at h3
      have h4 := h.row k hk x hx
      have h5 := hH x (by omega) h4.2
      exact ih m' x (by omega) (by omega)
end Go.Proofs.Ytdelelpfombfbaa
