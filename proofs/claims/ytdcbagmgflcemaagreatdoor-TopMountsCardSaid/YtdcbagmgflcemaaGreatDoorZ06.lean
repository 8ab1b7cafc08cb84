/- Of slices.DeleteFunc: the plain laws, and what clear does to a slice. No condition. -/
import Derived.Test.YtdcbagmgflcemaaGreatDoorZ04
import Derived.Test.YtdcbagmgflcemaaGreatDoorZ05
import Derived.Lib.SliceRun
namespace Go.Proofs.YtdcbagmgflcemaaGreatDoor
open Go.ChangeShapes Go.WideShapes Go.ChangeAt Go.RowKit
set_option linter.unusedVariables false
/-- The numbers other than t, in order. -/
def keepI (t : Int) (l : List Int) : List Int := l.filter (fun x => x != t)
theorem keepI_all {t : Int} {l : List Int} (h : t ∉ l) : keepI t l = l := by
  rw [keepI, List.filter_eq_self]
  intro x hx
  rw [bne_iff_ne]
  intro he; subst he; exact h hx
theorem keepI_succ (t : Int) (l : List Int) (j : Nat) (h : j < l.length) : keepI t (l.take (j + 1)) = keepI t (l.take j) ++ (if l[j] = t then [] else [l[j]]) := by
  rw [List.take_succ_eq_append_getElem h, keepI, List.filter_append]
  congr 1
  by_cases he : l[j] = t
  · simp [he]
  · simp [he]
/-- Where DeleteFunc stands: zs is the row, i are kept of the first j. -/
structure DelAt (t : Int) (l zs : List Int) (i j : Nat) : Prop where
  len : zs.length = l.length
  lt : i < j
  le : j ≤ l.length
  kept : zs.take i = keepI t (l.take j)
  rest : ∀ k, j ≤ k → zs[k]? = l[k]?
theorem DelAt.start {t : Int} {l : List Int} {k : Nat} (h : k < l.length) (he : l[k] = t) (hb : ∀ j (hj : j < l.length), j < k → l[j] ≠ t) : DelAt t l l k (k + 1) := by
  refine ⟨rfl, by omega, by omega, ?_, fun _ _ => rfl⟩
  rw [keepI_succ t l k h, if_pos he, List.append_nil, keepI_all]
  intro hm
  obtain ⟨j, hj, hj2⟩ := List.mem_iff_getElem.1 hm
  rw [List.length_take] at hj
  rw [List.getElem_take] at hj2
  exact hb j (by omega) (by omega) hj2
theorem DelAt.out {t : Int} {l zs : List Int} {i j : Nat} (h : DelAt t l zs i j) (hj : j < l.length) (he : l[j] = t) : DelAt t l zs i (j + 1) := by
  have := h.lt
  refine ⟨h.len, by omega, by omega, ?_, fun k hk => h.rest k (by omega)⟩
  rw [keepI_succ t l j hj, if_pos he, List.append_nil, h.kept]
theorem DelAt.get {t : Int} {l zs : List Int} {i j : Nat} (h : DelAt t l zs i j) (hj : j < l.length) : ∃ hz : j < zs.length, zs[j] = l[j] := by
  have hz : j < zs.length := by rw [h.len]; exact hj
  refine ⟨hz, ?_⟩
  have := h.rest j (Nat.le_refl _)
  rw [List.getElem?_eq_getElem hz, List.getElem?_eq_getElem hj] at this
  exact Option.some.inj this
theorem DelAt.fin {t : Int} {l zs : List Int} {i : Nat} (h : DelAt t l zs i l.length) : zs.take i = keepI t l ∧ i = (keepI t l).length := by
  have h1 := h.kept
  rw [List.take_length] at h1
  refine ⟨h1, ?_⟩
  rw [← h1, List.length_take]
  have := h.lt; have := h.len; omega
theorem ints_set (l : List Int) (i : Nat) (x : Int) (k : IntKind) : (ints k l).set i (.int k x) = ints k (l.set i x) := by simp [ints]
end Go.Proofs.YtdcbagmgflcemaaGreatDoor
