/- Plain words on tasks with deadlines and budgets: what the calls make of them. No program in sight; no condition. -/
import Derived.WalkKit
namespace Go.Proofs.Ythcgeigijnbpkaa
open Go.RowKit
set_option linter.unusedVariables false
/-- A task: its number, budget and period, what is left, its deadline; is it ready, is it out? -/
structure DT where
  t : Nat
  b : Nat
  p : Nat
  l : Nat
  d : Nat
  r : Bool
  o : Bool
def dtCells (x : DT) : List Value := [.int .i64 x.t, .int .i64 x.b, .int .i64 x.p, .int .i64 x.l, .int .i64 x.d, .bool x.r, .bool x.o]
theorem dt_len (x : DT) : (dtCells x).length = 7 := rfl
theorem dt_one (x : DT) : ∀ v ∈ dtCells x, v.oneCell' = true := by
  intro v hv
  simp only [dtCells, List.mem_cons, List.not_mem_nil, or_false] at hv
  rcases hv with rfl | rfl | rfl | rfl | rfl | rfl | rfl <;> rfl
/-- A task as it may be at a time. -/
structure DOk (now : Nat) (x : DT) : Prop where
  t1 : 1 ≤ x.t
  t2 : x.t ≤ 16
  b1 : 1 ≤ x.b
  b2 : x.b ≤ x.p
  p2 : x.p ≤ 30
  l2 : x.l ≤ x.b
  oz : x.o = true ↔ x.l = 0
  d2 : x.d ≤ now + x.p
/-- .. once a tick has gone by: who is out has a deadline that is still to come. -/
def DPast (now : Nat) (x : DT) : Prop := x.o = true → now < x.d
def newT (t b p now : Nat) : DT := ⟨t, b, p, b, now + p, true, false⟩
def elig (x : DT) : Bool := x.r && !x.o
/-- A task that is woken. -/
def wakeT (now : Nat) (x : DT) : DT :=
  if x.o = false ∧ (x.d ≤ now ∨ (x.d - now) * x.b < x.l * x.p) then { x with r := true, l := x.b, d := now + x.p } else { x with r := true }
/-- A tick goes by. -/
def passT (now : Nat) (x : DT) : DT := if x.o = true ∧ x.d ≤ now then { x with o := false, l := x.b, d := x.d + x.p } else x
/-- A task has a tick. -/
def runD (x : DT) : DT := { x with l := x.l - 1, o := decide (x.l = 1) }
/-- Ahead of another: by the deadline, then by the number. -/
def ahead (x y : DT) : Prop := x.d < y.d ∨ x.d = y.d ∧ x.t ≤ y.t
theorem ahead_refl (x : DT) : ahead x x := .inr ⟨rfl, Nat.le_refl _⟩
theorem ahead_trans {x y z : DT} (h : ahead x y) (h' : ahead y z) : ahead x z := by unfold ahead at *; omega
theorem ahead_total (x y : DT) : ahead x y ∨ ahead y x := by unfold ahead; omega
/-- The first j of those that may go, of the first k. -/
def IsFirst (ts : List DT) (k : Nat) : Option Nat → Prop
  | none => ∀ i x, i < k → ts[i]? = some x → elig x = false
  | some j => ∃ y, j < k ∧ ts[j]? = some y ∧ elig y = true ∧ ∀ i x, i < k → ts[i]? = some x → elig x = true → ahead y x
/-- What a tick makes of all. -/
def tickTs (now : Nat) (ts : List DT) : Option Nat → List DT
  | none => ts.map (passT (now + 1))
  | some j => (ts.modify j runD).map (passT (now + 1))
section
variable {now : Nat} {x : DT}
theorem ok_new {t b p : Nat} (t1 : 1 ≤ t) (t2 : t ≤ 16) (b1 : 1 ≤ b) (b2 : b ≤ p) (p2 : p ≤ 30) : DOk now (newT t b p now) := by
  refine ⟨t1, t2, b1, b2, p2, Nat.le_refl _, ?_, ?_⟩
  · simp [newT]; omega
  · simp [newT]
theorem DOk.block (h : DOk now x) : DOk now { x with r := false } := ⟨h.t1, h.t2, h.b1, h.b2, h.p2, h.l2, h.oz, h.d2⟩
theorem DOk.wake (h : DOk now x) : DOk now (wakeT now x) := by
  unfold wakeT
  split
  · rename_i hc
    refine ⟨h.t1, h.t2, h.b1, h.b2, h.p2, Nat.le_refl _, ?_, Nat.le_refl _⟩
    have := h.b1
    simp [hc.1]
    omega
  · exact ⟨h.t1, h.t2, h.b1, h.b2, h.p2, h.l2, h.oz, h.d2⟩
theorem DOk.run (h : DOk now x) (he : elig x = true) : DOk now (runD x) := by
  have h0 : x.o = false := by unfold elig at he; simp at he; exact he.2
  have hl : x.l ≠ 0 := fun hl => by have := h.oz.2 hl; rw [h0] at this; cases this
  refine ⟨h.t1, h.t2, h.b1, h.b2, h.p2, ?_, ?_, h.d2⟩
  · have := h.l2; simp [runD]; omega
  · simp [runD]; omega
theorem DOk.pass (h : DOk now x) : DOk (now + 1) (passT (now + 1) x) ∧ DPast (now + 1) (passT (now + 1) x) := by
  unfold passT
  split
  · rename_i hc
    refine ⟨⟨h.t1, h.t2, h.b1, h.b2, h.p2, Nat.le_refl _, ?_, ?_⟩, ?_⟩
    · have := h.b1; simp; omega
    · have := hc.2; simp; omega
    · intro hh; cases hh
  · rename_i hc
    refine ⟨⟨h.t1, h.t2, h.b1, h.b2, h.p2, h.l2, h.oz, by have := h.d2; omega⟩, fun ho => ?_⟩
    have : ¬ x.d ≤ now + 1 := fun hd => hc ⟨ho, hd⟩
    omega
theorem passT_t (now : Nat) (x : DT) : (passT now x).t = x.t := by unfold passT; split <;> rfl
theorem wakeT_t (now : Nat) (x : DT) : (wakeT now x).t = x.t := by unfold wakeT; split <;> rfl
end
/-- The step of who is first: one more is looked at. -/
theorem first_no {ts : List DT} {k : Nat} {b : Option Nat} {x : DT} (h : IsFirst ts k b) (hx : ts[k]? = some x) (he : elig x = false) : IsFirst ts (k + 1) b := by
  cases b with
  | none =>
    intro i y hi hy
    by_cases hik : i = k
    · subst hik; rw [hx] at hy; injection hy with hy; subst hy; exact he
    · exact h i y (by omega) hy
  | some j =>
    obtain ⟨y, h1, h2, h3, h4⟩ := h
    refine ⟨y, by omega, h2, h3, fun i z hi hz hez => ?_⟩
    by_cases hik : i = k
    · subst hik; rw [hx] at hz; injection hz with hz; subst hz; rw [he] at hez; cases hez
    · exact h4 i z (by omega) hz hez
theorem first_one {ts : List DT} {k : Nat} {x : DT} (h : IsFirst ts k none) (hx : ts[k]? = some x) (he : elig x = true) : IsFirst ts (k + 1) (some k) := by
  refine ⟨x, by omega, hx, he, fun i z hi hz hez => ?_⟩
  by_cases hik : i = k
  · subst hik; rw [hx] at hz; injection hz with hz; subst hz; exact ahead_refl _
  · have := h i z (by omega) hz; rw [this] at hez; cases hez
theorem first_new {ts : List DT} {k j : Nat} {x y : DT} (h : IsFirst ts k (some j)) (hy : ts[j]? = some y) (hx : ts[k]? = some x) (he : elig x = true) (ha : ahead x y) : IsFirst ts (k + 1) (some k) := by
  obtain ⟨y', h1, h2, h3, h4⟩ := h
  rw [hy] at h2; injection h2 with h2; subst h2
  refine ⟨x, by omega, hx, he, fun i z hi hz hez => ?_⟩
  by_cases hik : i = k
  · subst hik; rw [hx] at hz; injection hz with hz; subst hz; exact ahead_refl _
  · exact ahead_trans ha (h4 i z (by omega) hz hez)
theorem first_old {ts : List DT} {k j : Nat} {x y : DT} (h : IsFirst ts k (some j)) (hy : ts[j]? = some y) (hx : ts[k]? = some x) (ha : ahead y x) : IsFirst ts (k + 1) (some j) := by
  obtain ⟨y', h1, h2, h3, h4⟩ := h
  rw [hy] at h2; injection h2 with h2; subst h2
  refine ⟨y, by omega, hy, h3, fun i z hi hz hez => ?_⟩
  by_cases hik : i = k
  · subst hik; rw [hx] at hz; injection hz with hz; subst hz; exact ha
  · exact h4 i z (by omega) hz hez
/-- The first k made anew. -/
def mapK {α : Type} (f : α → α) (ts : List α) (k : Nat) : List α := (ts.take k).map f ++ ts.drop k
theorem mapK_zero {α : Type} (f : α → α) (ts : List α) : mapK f ts 0 = ts := by simp [mapK]
theorem mapK_all {α : Type} (f : α → α) (ts : List α) (k : Nat) (h : ts.length ≤ k) : mapK f ts k = ts.map f := by
  unfold mapK
  rw [List.take_of_length_le h, List.drop_of_length_le h, List.append_nil]
theorem mapK_len {α : Type} (f : α → α) (ts : List α) (k : Nat) : (mapK f ts k).length = ts.length := by simp [mapK]; omega
theorem mapK_get {α : Type} (f : α → α) (ts : List α) (k : Nat) (h : k < ts.length) : (mapK f ts k)[k]? = some ts[k] := by
  unfold mapK
  rw [List.getElem?_append_right (by simp; omega)]
  simp only [List.length_map, List.length_take, Nat.min_eq_left (Nat.le_of_lt h), Nat.sub_self, List.getElem?_drop, Nat.add_zero]
  exact List.getElem?_eq_getElem h
theorem mapK_succ {α : Type} (f : α → α) (ts : List α) (k : Nat) (h : k < ts.length) : (mapK f ts k).set k (f ts[k]) = mapK f ts (k + 1) := by
  have e : (mapK f ts k).set k (f ts[k]) = (ts.take k).map f ++ (ts.drop k).set 0 (f ts[k]) := by
    unfold mapK
    rw [List.set_append_right _ _ (by simp; omega)]
    simp [Nat.min_eq_left (Nat.le_of_lt h)]
  rw [e]
  unfold mapK
  rw [List.drop_eq_getElem_cons h, List.take_succ_eq_append_getElem h, List.set_cons_zero, List.map_append, List.append_assoc]
  rfl
end Go.Proofs.Ythcgeigijnbpkaa
