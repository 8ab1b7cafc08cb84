/- Contracts of package span: Next. Conditions: a tree in memory. -/
import Derived.Test.YtnibhkeleogjcaaTree10
namespace Go.Proofs.Ytnibhkeleogjcaa
open Go.ChangeShapes Go.WideShapes Go.ChangeAt Go.RowKit
set_option linter.unusedVariables false
/-- The first thing behind a place, if any; else what came ahead. -/
def nextE (k i : Int) (l : List TE) : Option TE := l.find? (fun x => decide (x.behind k i))
theorem nextE_left {k i : Int} {x : TE} {l r : List TE} (hx : x.behind k i) (o : Option TE) : (nextE k i (l ++ x :: r)).or o = (nextE k i l).or (some x) := by
  unfold nextE
  rw [List.find?_append]
  cases l.find? (fun x => decide (x.behind k i)) with
  | none => simp [hx]
  | some y => rfl
theorem nextE_right {k i : Int} {x : TE} {l r : List TE} (hx : ¬ x.behind k i) (hl : ∀ y ∈ l, ¬ y.behind k i) : nextE k i (l ++ x :: r) = nextE k i r := by
  unfold nextE
  rw [List.find?_append, List.find?_eq_none.2 (by simpa using hl)]
  simp [hx]
/-- The best so far: none, or a node. -/
def BestAt (w : World) (v : Value) (o : Option TE) : Prop := (v = .pointer none ∧ o = none) ∨ ∃ b e pl pr d n s, v = .pointer (some ⟨b, 0, none⟩) ∧ o = some e ∧ Blk w b 49 (nodeC e pl pr d n s)
theorem BestAt.is {w : World} {v : Value} {o : Option TE} (h : BestAt w v o) : ∃ q, v = .pointer q := by
  rcases h with ⟨rfl, _⟩ | ⟨b, e, pl, pr, d, n, s, rfl, _⟩
  · exact ⟨_, rfl⟩
  · exact ⟨_, rfl⟩
theorem BestAt.drewN {w : World} {v : Value} {o : Option TE} (h : BestAt w v o) (k : Nat) : BestAt (w.drewN k) v o := h
theorem told_best (w : World) (v : Value) (o : Option TE) (h : BestAt w v o) : Calls Try.prog 26 #[v] w fun e w' => e = .returned (tup o) ∧ ∃ q, w' = w.drewN q := by
  rcases h with ⟨rfl, rfl⟩ | ⟨b, e, pl, pr, d, n, s, rfl, rfl, hb⟩
  · exact (told_none w).mono (by rintro e w' ⟨rfl, rfl⟩; exact ⟨rfl, 0, rfl⟩)
  · exact told_ok w b e pl pr d n s hb
end Go.Proofs.Ytnibhkeleogjcaa
