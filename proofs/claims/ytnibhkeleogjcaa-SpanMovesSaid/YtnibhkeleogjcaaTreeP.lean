/- Plain laws of ordered trees that stay even: their things in order, how deep they are. No program in sight; no condition. -/
import Derived.Test.YtnibhkeleogjcaaMem
namespace Go.Proofs.Ytnibhkeleogjcaa
set_option linter.unusedVariables false
/-- A thing: its key, its id, its weight. -/
structure TE where
  key : Int
  id : Int
  w : Int
/-- Ahead of a place; of a thing. -/
def TE.before (x : TE) (k i : Int) : Prop := x.key < k ∨ (x.key = k ∧ x.id < i)
def TE.behind (x : TE) (k i : Int) : Prop := k < x.key ∨ (x.key = k ∧ i < x.id)
def TE.at (x : TE) (k i : Int) : Prop := x.key = k ∧ x.id = i
theorem TE.three (x : TE) (k i : Int) : x.before k i ∨ x.at k i ∨ x.behind k i := by unfold TE.before TE.at TE.behind; omega
instance (x : TE) (k i : Int) : Decidable (x.before k i) := by unfold TE.before; exact inferInstance
instance (x : TE) (k i : Int) : Decidable (x.behind k i) := by unfold TE.behind; exact inferInstance
instance (x : TE) (k i : Int) : Decidable (x.at k i) := by unfold TE.at; exact inferInstance
/-- In order, each once. -/
def Srt (l : List TE) : Prop := l.Pairwise (fun x y => x.before y.key y.id)
theorem Srt.mid {l r : List TE} {x : TE} (h : Srt (l ++ x :: r)) : Srt l ∧ Srt r ∧ (∀ y ∈ l, y.before x.key x.id) ∧ ∀ y ∈ r, x.before y.key y.id := by
  unfold Srt at *
  rw [List.pairwise_append, List.pairwise_cons] at h
  exact ⟨h.1, h.2.1.2, fun y hy => h.2.2 y hy x (by simp), h.2.1.1⟩
/-- A thing comes into its place. -/
def insE (e : TE) : List TE → List TE
  | [] => [e]
  | y :: l => if y.behind e.key e.id then e :: y :: l else y :: insE e l
theorem insE_left {e x : TE} {r : List TE} (l : List TE) (h : x.behind e.key e.id) : insE e (l ++ x :: r) = insE e l ++ x :: r := by
  induction l with
  | nil => simp [insE, h]
  | cons y l ih =>
    simp only [List.cons_append, insE]
    split
    · rfl
    · rw [ih]; rfl
theorem insE_right {e x : TE} {r : List TE} (l : List TE) (hl : ∀ y ∈ l, ¬ y.behind e.key e.id) (h : ¬ x.behind e.key e.id) : insE e (l ++ x :: r) = l ++ x :: insE e r := by
  induction l with
  | nil => simp [insE, h]
  | cons y l ih =>
    simp only [List.cons_append, insE]
    rw [if_neg (hl y (by simp)), ih (fun z hz => hl z (List.mem_cons_of_mem _ hz))]
theorem insE_perm (e : TE) (l : List TE) : (insE e l).Perm (e :: l) := by
  induction l with
  | nil => exact List.Perm.refl _
  | cons y l ih =>
    unfold insE
    split
    · exact List.Perm.refl _
    · exact (ih.cons y).trans (List.Perm.swap e y l)
theorem insE_srt {e : TE} {l : List TE} (h : Srt l) (hn : ∀ y ∈ l, ¬ y.at e.key e.id) : Srt (insE e l) := by
  induction l with
  | nil => exact List.pairwise_singleton _ _
  | cons y l ih =>
    unfold Srt at h
    rw [List.pairwise_cons] at h
    unfold insE
    split
    · rename_i hb
      refine List.pairwise_cons.2 ⟨fun z hz => ?_, List.pairwise_cons.2 h⟩
      have he : e.before y.key y.id := by unfold TE.behind at hb; unfold TE.before; omega
      rcases List.mem_cons.1 hz with rfl | hz
      · exact he
      · have := h.1 z hz
        unfold TE.before at *; omega
    · rename_i hb
      refine List.pairwise_cons.2 ⟨fun z hz => ?_, ih h.2 (fun z hz => hn z (List.mem_cons_of_mem _ hz))⟩
      have hy := hn y (by simp)
      rcases List.mem_cons.1 ((insE_perm e l).mem_iff.1 hz) with rfl | hz
      · unfold TE.behind TE.at at *; unfold TE.before; omega
      · exact h.1 z hz
/-- All things but the one at a place. -/
def outE (k i : Int) (l : List TE) : List TE := l.filter (fun x => !decide (x.at k i))
theorem outE_none {k i : Int} {l : List TE} (h : ∀ y ∈ l, ¬ y.at k i) : outE k i l = l := by
  unfold outE
  rw [List.filter_eq_self]
  intro y hy
  simpa using h y hy
theorem outE_append (k i : Int) (l r : List TE) : outE k i (l ++ r) = outE k i l ++ outE k i r := by unfold outE; rw [List.filter_append]
theorem outE_at {k i : Int} {x : TE} (h : x.at k i) (r : List TE) : outE k i (x :: r) = outE k i r := by unfold outE; rw [List.filter_cons]; simp [h]
theorem outE_not {k i : Int} {x : TE} (h : ¬ x.at k i) (r : List TE) : outE k i (x :: r) = x :: outE k i r := by unfold outE; rw [List.filter_cons]; simp [h]
theorem outE_srt {k i : Int} {l : List TE} (h : Srt l) : Srt (outE k i l) := List.Pairwise.sublist List.filter_sublist h
/-- A tree; each node with the block in which it lies. -/
inductive Tr where
  | nil : Tr
  | node (b : Nat) (e : TE) (l r : Tr) : Tr
def Tr.deep : Tr → Nat
  | .nil => 0
  | .node _ _ l r => 1 + max l.deep r.deep
def Tr.cnt : Tr → Nat
  | .nil => 0
  | .node _ _ l r => 1 + l.cnt + r.cnt
def Tr.sum : Tr → Int
  | .nil => 0
  | .node _ e l r => e.w + l.sum + r.sum
def Tr.els : Tr → List TE
  | .nil => []
  | .node _ e l r => l.els ++ e :: r.els
def Tr.ads : Tr → List Nat
  | .nil => []
  | .node b _ l r => b :: (l.ads ++ r.ads)
/-- Both sides of each node as deep, but for one. -/
def Tr.even : Tr → Prop
  | .nil => True
  | .node _ _ l r => l.even ∧ r.even ∧ l.deep ≤ r.deep + 1 ∧ r.deep ≤ l.deep + 1
theorem Tr.cnt_els (t : Tr) : t.cnt = t.els.length := by
  induction t with
  | nil => rfl
  | node b e l r ihl ihr => simp only [Tr.cnt, Tr.els, List.length_append, List.length_cons, ihl, ihr]; omega
def sumW (l : List TE) : Int := (l.map TE.w).sum
theorem sumW_append (l r : List TE) : sumW (l ++ r) = sumW l + sumW r := by unfold sumW; rw [List.map_append, List.sum_append]
theorem sumW_cons (x : TE) (r : List TE) : sumW (x :: r) = x.w + sumW r := by unfold sumW; simp
theorem sumW_perm {l r : List TE} (h : l.Perm r) : sumW l = sumW r := by
  induction h with
  | nil => rfl
  | cons x _ ih => rw [sumW_cons, sumW_cons, ih]
  | swap x y l => rw [sumW_cons, sumW_cons, sumW_cons, sumW_cons]; omega
  | trans _ _ h1 h2 => rw [h1, h2]
theorem Tr.sum_els (t : Tr) : t.sum = sumW t.els := by
  induction t with
  | nil => rfl
  | node b e l r ihl ihr => simp only [Tr.sum, Tr.els, sumW_append, sumW_cons, ihl, ihr]; omega
/-- How many there are at least, of a depth. -/
def leastN : Nat → Nat
  | 0 => 0
  | 1 => 1
  | n + 2 => leastN (n + 1) + leastN n + 1
theorem leastN_up (n : Nat) : leastN n ≤ leastN (n + 1) := by
  cases n with
  | zero => decide
  | succ n => show leastN (n + 1) ≤ leastN (n + 1) + leastN n + 1; omega
theorem leastN_mono {m n : Nat} (h : m ≤ n) : leastN m ≤ leastN n := by
  induction n with
  | zero => rw [show m = 0 by omega]; exact Nat.le_refl _
  | succ n ih =>
    by_cases e : m = n + 1
    · rw [e]; exact Nat.le_refl _
    · exact Nat.le_trans (ih (by omega)) (leastN_up n)
theorem Tr.least_cnt (t : Tr) (h : t.even) : leastN t.deep ≤ t.cnt := by
  induction t with
  | nil => exact Nat.le_refl _
  | node b e l r ihl ihr =>
    obtain ⟨h1, h2, h3, h4⟩ := h
    have a := ihl h1
    have c := ihr h2
    simp only [Tr.deep, Tr.cnt]
    rcases Nat.le_total l.deep r.deep with hd | hd
    · rw [Nat.max_eq_right hd]
      by_cases e0 : r.deep = 0
      · rw [e0]; simp [leastN]; omega
      · obtain ⟨m, hm⟩ : ∃ m, r.deep = m + 1 := ⟨r.deep - 1, by omega⟩
        rw [hm] at c ⊢
        rw [show 1 + (m + 1) = m + 2 by omega]
        show leastN (m + 1) + leastN m + 1 ≤ _
        have := leastN_mono (m := m) (n := l.deep) (by omega)
        omega
    · rw [Nat.max_eq_left hd]
      by_cases e0 : l.deep = 0
      · rw [e0]; simp [leastN]; omega
      · obtain ⟨m, hm⟩ : ∃ m, l.deep = m + 1 := ⟨l.deep - 1, by omega⟩
        rw [hm] at a ⊢
        rw [show 1 + (m + 1) = m + 2 by omega]
        show leastN (m + 1) + leastN m + 1 ≤ _
        have := leastN_mono (m := m) (n := r.deep) (by omega)
        omega
/-- No deeper than sixteen, of a thousand. -/
theorem Tr.deep_le (t : Tr) (h : t.even) (hc : t.cnt ≤ 1000) : t.deep ≤ 16 := by
  rcases Nat.lt_or_ge 16 t.deep with hd | hd
  · exfalso
    have h1 := t.least_cnt h
    have h2 := leastN_mono (m := 17) (n := t.deep) (by omega)
    have h3 : leastN 17 = 4180 := by decide +kernel
    omega
  · exact hd
theorem Tr.deep_cnt (t : Tr) : t.deep ≤ t.cnt := by
  induction t with
  | nil => exact Nat.le_refl _
  | node b e l r ihl ihr => simp only [Tr.deep, Tr.cnt]; omega
/-- How a thing stands to a place: as cmp.Compare tells. -/
def sideI (k i : Int) (x : TE) : Int := if k < x.key then -1 else if x.key < k then 1 else if i < x.id then -1 else if x.id < i then 1 else 0
theorem sideI_neg {k i : Int} {x : TE} : sideI k i x < 0 ↔ x.behind k i := by unfold sideI TE.behind; split <;> (try split) <;> (try split) <;> (try split) <;> omega
theorem sideI_pos {k i : Int} {x : TE} : 0 < sideI k i x ↔ x.before k i := by unfold sideI TE.before; split <;> (try split) <;> (try split) <;> (try split) <;> omega
theorem sideI_zero {k i : Int} {x : TE} : sideI k i x = 0 ↔ x.at k i := by unfold sideI TE.at; split <;> (try split) <;> (try split) <;> (try split) <;> omega
end Go.Proofs.Ytnibhkeleogjcaa
