/- Contracts of package spread: Pin, Wake. Conditions: a run as it may be. -/
import Derived.Test.YtjllklddjkkddaaGreatDoorZ26
namespace Go.Proofs.YtjllklddjkkddaaGreatDoor
open Go.ChangeShapes Go.WideShapes Go.ChangeAt Go.RowKit
set_option linter.unusedVariables false
theorem mask_no (m k : Nat) (hm : m < 16) (hk : k < 4) : (bits .and .i64 ((m : Int) / 2 ^ k) 1 == 0) = !m.testBit k := by
  have : ∀ (m : Fin 16) (k : Fin 4), (bits .and .i64 ((m.val : Int) / 2 ^ k.val) 1 == 0) = !m.val.testBit k.val := by decide +kernel
  exact this ⟨m, hm⟩ ⟨k, hk⟩
end Go.Proofs.YtjllklddjkkddaaGreatDoor
