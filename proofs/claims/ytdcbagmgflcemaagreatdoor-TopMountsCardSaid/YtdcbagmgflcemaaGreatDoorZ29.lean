/- Strings of bytes that lie in memory. No program is walked here; no condition. -/
import Derived.Test.YtdcbagmgflcemaaGreatDoorZ03
import Derived.Test.YtdcbagmgflcemaaGreatDoorZ02
import Derived.Laws.BytesArg
namespace Go.Proofs.YtdcbagmgflcemaaGreatDoor
open Go.ChangeShapes Go.WideShapes Go.ChangeAt Go.RowKit
set_option linter.unusedVariables false
/-- 'string(b)'. -/
theorem conv_rd {P : Program} {w : World} {R : Nat → Prop} {a : Option Addr} {n c : Nat} {ds : List Int} (src e dst : TypeId) (hs : P.underlying src = some (.slice e)) (he : P.underlying e = some (.int .u8)) (hd : P.underlying dst = some .string)
    (h : Rd w R 1 a n c (ints .u8 ds)) : (convert src dst (.slice a n c)).run P w = .ok (.string (strOfNums ds)) w := by
  have hl : ds.length = n := by have := h.len; rw [ints_length] at this; omega
  rcases Nat.eq_zero_or_pos n with hn | hn
  · subst hn
    obtain rfl := List.eq_nil_of_length_eq_zero hl
    rw [run_convert_bytes_string w src dst e _ 0 c hs he hd]
    cases a <;> simp [Conv.bytesToString, loadCells]
    all_goals rfl
  · obtain ⟨g, off, rfl, _, _, hc⟩ := h.2.2.2 hn
    refine run_convert_bytes_arg (P := P) w src e hs he g off n c ds hl (fun i hi => ?_) dst hd
    rw [hc i (by omega), ints_get _ _ (by omega), List.getD_eq_getElem?_getD, List.getElem?_eq_getElem (by omega)]
    rfl
end Go.Proofs.YtdcbagmgflcemaaGreatDoor
