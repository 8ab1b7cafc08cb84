/- A thing that is open, in a block of its own. No program is walked here; no condition. -/
import Derived.Test.YtdcbagmgflcemaaGreatDoorZ26
namespace Go.Proofs.YtdcbagmgflcemaaGreatDoor
open Go.ChangeShapes Go.WideShapes Go.ChangeAt Go.RowKit
set_option linter.unusedVariables false
theorem th_chain {V w1 : World} {T : Nat} (TB : Blk w1 T 159 (flL flZ)) (hc : Chg Nil V w1) (hT : V.heap.size ≤ T) (a b c : Int) :
    Hid (Blk (((((w1.setCell ⟨T, 0, none⟩ (.int .i64 a)).setCell ⟨T, 1, none⟩ (.int .i64 b)).setCell ⟨T, 2, none⟩ (.int .i64 c)).setCell ⟨T, 3, none⟩ (.bool false)).setCell ⟨T, 4, none⟩ (.int .i64 0)) T 159 (flL ⟨a, b, c, false, 0, 0⟩)) ∧
    Hid (Chg Nil V (((((w1.setCell ⟨T, 0, none⟩ (.int .i64 a)).setCell ⟨T, 1, none⟩ (.int .i64 b)).setCell ⟨T, 2, none⟩ (.int .i64 c)).setCell ⟨T, 3, none⟩ (.bool false)).setCell ⟨T, 4, none⟩ (.int .i64 0))) :=
  ⟨((((TB.set 0 _).set 1 _).set 2 _).set 3 _).set 4 _, ((((hc.setCell (p := ⟨T, 0, none⟩) (.inr hT) _).setCell (p := ⟨T, 1, none⟩) (.inr hT) _).setCell (p := ⟨T, 2, none⟩) (.inr hT) _).setCell (p := ⟨T, 3, none⟩) (.inr hT) _).setCell (p := ⟨T, 4, none⟩) (.inr hT) _⟩
theorem th_new {V w1 : World} (hc : Chg Nil V w1) (a b c : Int) :
    Hid (Blk (w1.alloc (.cells (flL ⟨a, b, c, false, 0, 0⟩).toArray 159)) w1.heap.size 159 (flL ⟨a, b, c, false, 0, 0⟩)) ∧ Hid (Chg Nil V (w1.alloc (.cells (flL ⟨a, b, c, false, 0, 0⟩).toArray 159))) :=
  ⟨Blk.new w1 _ _, hc.alloc _⟩
theorem KPost.ch {w w' : World} {B pk : Nat} {U : Nat → Prop} {X : KX} (h : KPost w B U pk X w') : Chg U w w' := by
  obtain ⟨_, _, c, _⟩ := h
  exact c
end Go.Proofs.YtdcbagmgflcemaaGreatDoor
