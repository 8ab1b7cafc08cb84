/- Contracts of package span: At. Conditions: a tree in memory, of few things, with small weights. -/
import Derived.Test.YtnibhkeleogjcaaTree13
namespace Go.Proofs.Ytnibhkeleogjcaa
open Go.ChangeShapes Go.WideShapes Go.ChangeAt Go.RowKit
set_option linter.unusedVariables false
/-- The thing in which a number lies. -/
def inE (n : Int) : List TE → Option TE
  | [] => none
  | x :: l => if n < x.w then some x else inE (n - x.w) l
theorem inE_left {n : Int} {l r : List TE} (h0 : 0 ≤ n) (h : n < sumW l) : inE n (l ++ r) = inE n l := by
  induction l generalizing n with
  | nil => simp [sumW] at h; omega
  | cons x l ih =>
    simp only [List.cons_append, inE]
    split
    · rfl
    · rw [sumW_cons] at h
      exact ih (by omega) (by omega)
theorem inE_right {n : Int} {l r : List TE} (hp : ∀ x ∈ l, 0 ≤ x.w) (h : sumW l ≤ n) : inE n (l ++ r) = inE (n - sumW l) r := by
  induction l generalizing n with
  | nil => simp [sumW]
  | cons x l ih =>
    rw [sumW_cons] at h
    have h0 : 0 ≤ sumW l := by
      clear ih h
      induction l with
      | nil => exact Int.le_refl _
      | cons y l ih2 => rw [sumW_cons]; have := hp y (by simp); have := ih2 (fun z hz => hp z (by rcases List.mem_cons.1 hz with rfl | hz <;> simp [*])); omega
    simp only [List.cons_append, inE]
    rw [if_neg (by omega), ih (fun y hy => hp y (List.mem_cons_of_mem _ hy)) (by omega), sumW_cons]
    congr 1
    omega
end Go.Proofs.Ytnibhkeleogjcaa
