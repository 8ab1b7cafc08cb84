/- Plain words on tasks with weights and virtual times: who is first, what a tick makes of them. No program in sight; no condition. -/
import Derived.WalkKit
namespace Go.Proofs.Ytpafafleepcjdaa
open Go.RowKit
set_option linter.unusedVariables false
/-- A task: its number, weight, group, virtual time; is it ready? -/
structure FT where
  t : Nat
  w : Nat
  g : Nat
  v : Nat
  r : Bool
def ftCells (x : FT) : List Value := [.int .i64 x.t, .int .i64 x.w, .int .i64 x.g, .int .i64 x.v, .bool x.r]
theorem ft_len (x : FT) : (ftCells x).length = 5 := rfl
theorem ft_one (x : FT) : ∀ v ∈ ftCells x, v.oneCell' = true := by
  intro v hv
  simp only [ftCells, List.mem_cons, List.not_mem_nil, or_false] at hv
  rcases hv with rfl | rfl | rfl | rfl | rfl <;> rfl
/-- What a tick costs. -/
def cost (w : Nat) : Nat := 1048576 / w
theorem cost_le (w : Nat) : cost w ≤ 1048576 := Nat.div_le_self _ _
/-- A task as it may be. -/
structure FOk (V : Nat) (x : FT) : Prop where
  t1 : 1 ≤ x.t
  t2 : x.t ≤ 16
  w1 : 1 ≤ x.w
  w2 : x.w ≤ 100
  g0 : x.g = 0
  v2 : x.v ≤ V
def aheadF (x y : FT) : Prop := x.v < y.v ∨ x.v = y.v ∧ x.t ≤ y.t
theorem aheadF_refl (x : FT) : aheadF x x := .inr ⟨rfl, Nat.le_refl _⟩
theorem aheadF_trans {x y z : FT} (h : aheadF x y) (h' : aheadF y z) : aheadF x z := by unfold aheadF at *; omega
/-- The first of those that are ready, of the first k. -/
def FFirst (ts : List FT) (k : Nat) : Option Nat → Prop
  | none => ∀ (i : Nat) x, i < k → ts[i]? = some x → x.r = false
  | some j => ∃ y, j < k ∧ ts[j]? = some y ∧ y.r = true ∧ ∀ (i : Nat) x, i < k → ts[i]? = some x → x.r = true → aheadF y x
section
variable {ts : List FT} {k j : Nat} {x y : FT} {b : Option Nat}
theorem ffirst_no (h : FFirst ts k b) (hx : ts[k]? = some x) (he : x.r = false) : FFirst ts (k + 1) b := by
  cases b with
  | none =>
    intro i y hi hy
    by_cases hik : i = k
    · subst hik; rw [hx] at hy; injection hy with hy; subst hy; exact he
    · exact h i y (by omega) hy
  | some j =>
    obtain ⟨y, h1, h2, h3, h4⟩ := h
    refine ⟨y, by omega, h2, h3, fun i z hi hz hez => ?_⟩
    by_cases hik : i = k
    · subst hik; rw [hx] at hz; injection hz with hz; subst hz; rw [he] at hez; cases hez
    · exact h4 i z (by omega) hz hez
theorem ffirst_one (h : FFirst ts k none) (hx : ts[k]? = some x) (he : x.r = true) : FFirst ts (k + 1) (some k) := by
  refine ⟨x, by omega, hx, he, fun i z hi hz hez => ?_⟩
  by_cases hik : i = k
  · subst hik; rw [hx] at hz; injection hz with hz; subst hz; exact aheadF_refl _
  · have := h i z (by omega) hz; rw [this] at hez; cases hez
theorem ffirst_new (h : FFirst ts k (some j)) (hy : ts[j]? = some y) (hx : ts[k]? = some x) (he : x.r = true) (ha : aheadF x y) : FFirst ts (k + 1) (some k) := by
  obtain ⟨y', h1, h2, h3, h4⟩ := h
  rw [hy] at h2; injection h2 with h2; subst h2
  refine ⟨x, by omega, hx, he, fun i z hi hz hez => ?_⟩
  by_cases hik : i = k
  · subst hik; rw [hx] at hz; injection hz with hz; subst hz; exact aheadF_refl _
  · exact aheadF_trans ha (h4 i z (by omega) hz hez)
theorem ffirst_old (h : FFirst ts k (some j)) (hy : ts[j]? = some y) (hx : ts[k]? = some x) (ha : aheadF y x) : FFirst ts (k + 1) (some j) := by
  obtain ⟨y', h1, h2, h3, h4⟩ := h
  rw [hy] at h2; injection h2 with h2; subst h2
  refine ⟨y, by omega, hy, h3, fun i z hi hz hez => ?_⟩
  by_cases hik : i = k
  · subst hik; rw [hx] at hz; injection hz with hz; subst hz; exact ha
  · exact h4 i z (by omega) hz hez
end
/-- The least virtual time of those that are ready, of the first k. -/
def FLeast (ts : List FT) (k : Nat) : Option Nat → Prop
  | none => ∀ (i : Nat) x, i < k → ts[i]? = some x → x.r = false
  | some m => (∃ (i : Nat) (x : FT), i < k ∧ ts[i]? = some x ∧ x.r = true ∧ x.v = m) ∧ ∀ (i : Nat) x, i < k → ts[i]? = some x → x.r = true → m ≤ x.v
section
variable {ts : List FT} {k m : Nat} {x : FT} {o : Option Nat}
theorem fleast_no (h : FLeast ts k o) (hx : ts[k]? = some x) (he : x.r = false) : FLeast ts (k + 1) o := by
  cases o with
  | none =>
    intro i y hi hy
    by_cases hik : i = k
    · subst hik; rw [hx] at hy; injection hy with hy; subst hy; exact he
    · exact h i y (by omega) hy
  | some m =>
    obtain ⟨⟨i, y, h1, h2, h3, h4⟩, h5⟩ := h
    refine ⟨⟨i, y, by omega, h2, h3, h4⟩, fun i z hi hz hez => ?_⟩
    by_cases hik : i = k
    · subst hik; rw [hx] at hz; injection hz with hz; subst hz; rw [he] at hez; cases hez
    · exact h5 i z (by omega) hz hez
theorem fleast_new (h : FLeast ts k o) (hx : ts[k]? = some x) (he : x.r = true) (ho : ∀ m, o = some m → x.v ≤ m) : FLeast ts (k + 1) (some x.v) := by
  refine ⟨⟨k, x, by omega, hx, he, rfl⟩, fun i z hi hz hez => ?_⟩
  by_cases hik : i = k
  · subst hik; rw [hx] at hz; injection hz with hz; subst hz; exact Nat.le_refl _
  · cases o with
    | none => have := h i z (by omega) hz; rw [this] at hez; cases hez
    | some m => exact Nat.le_trans (ho m rfl) (h.2 i z (by omega) hz hez)
theorem fleast_old (h : FLeast ts k (some m)) (hx : ts[k]? = some x) (he : m ≤ x.v) : FLeast ts (k + 1) (some m) := by
  obtain ⟨⟨i, y, h1, h2, h3, h4⟩, h5⟩ := h
  refine ⟨⟨i, y, by omega, h2, h3, h4⟩, fun i z hi hz hez => ?_⟩
  by_cases hik : i = k
  · subst hik; rw [hx] at hz; injection hz with hz; subst hz; exact he
  · exact h5 i z (by omega) hz hez
end
/-- Woken, where so much is the least. -/
def wokenF (o : Option Nat) (x : FT) : FT := { x with v := match o with | some m => max x.v m | none => x.v, r := true }
def runF (x : FT) : FT := { x with v := x.v + cost x.w }
def tickF (ts : List FT) : Option Nat → List FT
  | none => ts
  | some j => ts.modify j runF
def numF (ts : List FT) : Option Nat → Nat
  | none => 0
  | some j => ((ts[j]?).map FT.t).getD 0
end Go.Proofs.Ytpafafleepcjdaa
