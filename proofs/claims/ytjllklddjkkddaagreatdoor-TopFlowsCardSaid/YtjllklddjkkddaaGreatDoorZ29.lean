/- Contracts of package spread: Tick. Conditions: a run as it may be. -/
import Derived.Test.YtjllklddjkkddaaGreatDoorZ28
namespace Go.Proofs.YtjllklddjkkddaaGreatDoor
open Go.ChangeShapes Go.WideShapes Go.ChangeAt Go.RowKit
set_option linter.unusedVariables false
/-- The first k are done. -/
def mapS (f : ST → ST) (ts : List ST) (k : Nat) : List ST := (ts.take k).map f ++ ts.drop k
theorem mapS_zero (f : ST → ST) (ts : List ST) : mapS f ts 0 = ts := rfl
theorem mapS_len (f : ST → ST) (ts : List ST) (k : Nat) : (mapS f ts k).length = ts.length := by
  unfold mapS; rw [List.length_append, List.length_map, List.length_take, List.length_drop]; omega
theorem mapS_get (f : ST → ST) {ts : List ST} {k : Nat} (h : k < ts.length) : (mapS f ts k)[k]? = some ts[k] := by
  unfold mapS
  rw [List.getElem?_append_right (by rw [List.length_map, List.length_take]; omega), List.length_map, List.length_take, List.getElem?_drop, show k + (k - min k ts.length) = k by omega, List.getElem?_eq_getElem h]
theorem mapS_succ (f : ST → ST) {ts : List ST} {k : Nat} (h : k < ts.length) : (mapS f ts k).set k (f ts[k]) = mapS f ts (k + 1) := by
  unfold mapS
  have hl : ((ts.take k).map f).length = k := by rw [List.length_map, List.length_take]; omega
  rw [List.set_append_right _ _ (by omega), hl, Nat.sub_self, List.take_succ_eq_append_getElem h, List.map_append, List.append_assoc]
  congr 1
  rw [← List.getElem_cons_drop (h := h)]
  rfl
theorem mapS_all (f : ST → ST) {ts : List ST} {k : Nat} (h : ts.length ≤ k) : mapS f ts k = ts.map f := by
  unfold mapS
  rw [List.take_of_length_le h, List.drop_of_length_le h, List.append_nil]
/-- A run on the way through Tick. -/
def TikS (F : Nat → Prop) (p : Nat) (s : SR) (g off : Nat) (a : Option Addr) (c : Nat) (G : Option Nat) (now : Int) (w0 : World) (k : Nat) (w : World) : Prop := RA w F p { s with ts := mapS (refT now) s.ts k } g off a c G ∧ Chg F w0 w
theorem tick1_none {s : SR} {cpu : Int} (h : onI s.ts cpu = none) : s.tick1 cpu = { s with tk := s.tk + 1 } := by unfold SR.tick1; rw [h]
theorem tick1_some {s : SR} {cpu : Int} {i : Nat} {x : ST} (h : onI s.ts cpu = some i) (hx : s.ts[i]? = some x) : s.tick1 cpu = { s with tk := s.tk + 1, ts := s.ts.set i (runT x) } := by unfold SR.tick1; rw [h]; simp only; rw [upd_of hx]
end Go.Proofs.YtjllklddjkkddaaGreatDoor
