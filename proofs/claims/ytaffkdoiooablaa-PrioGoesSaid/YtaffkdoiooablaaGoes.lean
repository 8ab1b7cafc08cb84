/- Contracts of slices.SortStableFunc as the law PrioGoes uses it. Conditions: at most 16 elements. -/
import Derived.Test.YtaffkdoiooablaaPrio7
import Derived.Test.YtaffkdoiooablaaGoesP
namespace Go.Proofs.Ytaffkdoiooablaa
open Go.ChangeShapes Go.WideShapes Go.ChangeAt Go.RowKit
set_option linter.unusedVariables false
theorem goes1 (R : Nat → Prop) (lp : Nat) (a : Option Addr) (n c i j : Nat) (z : List Int) (w : World) (h : Rd w R 1 a n c (ints .i64 z)) (hl : w.cell? ⟨lp, 0, none⟩ = some (.slice a n c)) (hi : i < z.length) (hj : j < z.length) :
    Calls Try.prog 23 #[.int .i64 (i : Int), .int .i64 (j : Int), .pointer (some ⟨lp, 0, none⟩)] w fun e w' => e = .returned (.int .i64 (rest z[j] 8 - rest z[i] 8)) ∧ ∃ k, w' = w.drewN k := by
  obtain rfl := h.ilen
  obtain ⟨g, off, rfl, _, _, hc⟩ := h.at hi
  have hc1 := hc i hi
  have hc2 := hc j hj
  have hi2 : (i : Int) < z.length := by omega
  have hj2 : (j : Int) < z.length := by omega
  have r1 := rest_nonneg z[i] 8 (by omega)
  have r2 := rest_lt z[i] 8 (by omega)
  have r3 := rest_nonneg z[j] 8 (by omega)
  have r4 := rest_lt z[j] 8 (by omega)
  have r5 : (1 : Int) ≤ 8 := by omega
  have r6 : (8 : Int) ≤ 9223372036854775807 := by omega
  have hw : IntKind.i64.wrap (rest z[j] 8 - rest z[i] 8) = rest z[j] 8 - rest z[i] 8 := IntWalk.i64_in _ (by omega)
  clear hc h
  go_enter Try.func23, Try.ntmps23
  go_wp2
  go_region_law (go_simp; go_at_call 15; refine (rest_any _ _ _ r5 r6).mono ?_; rintro e w' ⟨rfl, rfl⟩)
  all_goals
    go_wp2
    go_ret
    exact ⟨rfl, 1, rfl⟩
end Go.Proofs.Ytaffkdoiooablaa
