/- More contracts of package prio: Turn, First. Conditions: at most 999 tasks in each queue; the bits are of eight priorities. -/
import Derived.Test.YtdelelpfombfbaaPrio2
namespace Go.Proofs.Ytdelelpfombfbaa
open Go.ChangeShapes Go.WideShapes Go.ChangeAt Go.RowKit
set_option linter.unusedVariables false
theorem pturn_fin {w W1 w3 : World} {F : Nat → Prop} {p b v c' : Nat} {q : Nat → List Int} {A : Nat → Option Addr} {C : Nat → Nat} {G : Nat → Option Nat} {G1 G' : Option Nat} {a' : Option Addr} {r : List Int} {t : Int} (h : PA w F p b q A C G) (hv : v < 8) (hC1 : Chg Nil w W1) (hG : ∀ g, G1 = some g → w.heap.size ≤ g) (y1 : Sl w3 3 1 a' (r.length + 1) c' (ints .i64 r ++ ints .i64 [t]) G') (y2 : Chg (Opt G1) W1 w3) (y3 : G' = G1 ∨ G' = some W1.heap.size) (V : Value) :
    PPr F p b (upF q v (r ++ [t])) V w (.returned V) (w3.setCell ⟨p, 1 + v, none⟩ (.slice a' (r.length + 1) c')) := by
  have hc : Chg Nil w w3 := hC1.trans y2 (fun i hi h => by have := hG i h; omega)
  have hs2 : Sl w3 3 1 a' (r ++ [t]).length c' (ints .i64 (r ++ [t])) G' := sl_push rfl y1
  have hG2 : ∀ g, G' = some g → w.heap.size ≤ g := fun g hg => by
    rcases y3 with h3 | h3 <;> rw [h3] at hg
    · exact hG g hg
    · injection hg with hg; have := hC1.size; omega
  have hP := h.lay hv (hc.mono (fun _ _ h => h.elim)) hs2 (fun g hg => .inr (hG2 g hg))
  have e : (r ++ [t]).length = r.length + 1 := by simp
  rw [e] at hP
  refine ⟨_, rfl, ⟨_, _, _, hP⟩, (hc.mono (fun _ _ h => h.elim)).setCell (p := ⟨p, 1 + v, none⟩) (.inl h.fp) _, ?_⟩
  rintro k (hF | hG')
  · exact .inl hF
  · exact .inr (hG2 k hG')
end Go.Proofs.Ytdelelpfombfbaa
