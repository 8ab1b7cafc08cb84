/- Contracts of package spread: Boost, Calm, Pin. Conditions: a run as it may be. -/
import Derived.Test.YtdelelpfombfbaaSpr5
namespace Go.Proofs.Ytdelelpfombfbaa
open Go.ChangeShapes Go.WideShapes Go.ChangeAt Go.RowKit
set_option linter.unusedVariables false
theorem valB_bd {cl v : Int} (h : valB cl v = true) : 1 ≤ cl ∧ cl ≤ 2 ∧ 0 ≤ v ∧ v ≤ 100 ∧ (cl = 1 → 1 ≤ v) := by
  unfold valB at h
  split at h
  · have := of_decide_eq_true h; omega
  · split at h
    · have := of_decide_eq_true h; omega
    · cases h
end Go.Proofs.Ytdelelpfombfbaa
