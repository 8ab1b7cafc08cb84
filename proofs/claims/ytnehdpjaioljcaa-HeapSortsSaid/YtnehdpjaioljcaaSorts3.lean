/- slices.SortFunc as the law HeapSorts uses it: the numbers, sorted by what they stand for. Conditions: each lies in the row. -/
import Derived.Test.YtnehdpjaioljcaaSorts2
import Derived.Test.YtnehdpjaioljcaaSfLay
import Derived.Shelf.SlSortCmp.NoneTotal
namespace Go.Proofs.Ytnehdpjaioljcaa
open Go.ChangeShapes Go.WideShapes Go.ChangeAt Go.RowKit Go.Proofs Go.Sort
set_option linter.unusedVariables false
theorem chg_sortWorld {α : Type} [Inhabited α] (enc : α → Value) (w : World) (g off q : Nat) (dk : Array α) (os : Array Obj) : Chg (One g) w (sortWorld enc w g off q dk os) := by
  have hsz : (Sort.putRow enc (Sort.ahead w q) g off dk).heap.size = w.heap.size := by simp [Sort.putRow, Sort.mapBlock, Sort.ahead]
  refine ⟨rfl, rfl, rfl, ?_, fun k hk hF => ?_⟩
  · show w.heap.size ≤ (_ ++ os).size
    rw [Array.size_append, hsz]; omega
  · show (_ ++ os)[k]? = _
    rw [Array.getElem?_append_left (by rw [hsz]; exact hk)]
    have hne : g ≠ k := fun hh => hF (show k = g from hh.symm)
    simp [Sort.putRow, Sort.mapBlock, Sort.ahead, Array.getElem?_modify, hne]
theorem sl_sortWorld {α : Type} [Inhabited α] (enc : α → Value) {w : World} {e : TypeId} {g off n c : Nat} {xs : List Value} {m : List α} (q : Nat) (os : Array Obj) (h : Sl w e 1 (some ⟨g, off, none⟩) n c xs (some g)) (hm : m.length = n) (hn : 0 < n) :
    Sl (sortWorld enc w g off q m.toArray os) e 1 (some ⟨g, off, none⟩) n c (m.map enc) (some g) := by
  obtain ⟨h1, h2, h3, ⟨h0, _⟩ | ⟨g', off', cur, r1, r2, r3, r4, r5⟩⟩ := h
  · omega
  injection r1 with r1
  injection r1 with r1 r1'
  subst r1; subst r1'
  have hgl : g < w.heap.size := (Array.getElem?_eq_some_iff.1 r3).1
  have hsz : (Sort.putRow enc (Sort.ahead w q) g off m.toArray).heap.size = w.heap.size := by simp [Sort.putRow, Sort.mapBlock, Sort.ahead]
  have hg : (sortWorld enc w g off q m.toArray os).heap[g]? = some (.cells (Sort.putCells enc off m.toArray cur) e (0, 0)) := by
    show (_ ++ os)[g]? = _
    rw [Array.getElem?_append_left (by rw [hsz]; exact hgl)]
    simp [Sort.putRow, Sort.mapBlock, Sort.ahead, Array.getElem?_modify, r3, Sort.onCells]
  refine ⟨h1, h2, by rw [List.length_map]; omega, .inr ⟨g, off, _, rfl, rfl, hg, ?_, fun j hj => ?_⟩⟩
  · simp only [Sort.putCells, Array.size_mapIdx]; exact r4
  · have hj2 : j < m.length := by omega
    rw [List.getElem?_map, List.getElem?_eq_getElem hj2]
    simp only [Sort.putCells, Array.getElem?_mapIdx]
    rw [Array.getElem?_eq_getElem (by omega)]
    simp only [Option.map_some, List.size_toArray]
    rw [if_pos ⟨by omega, by omega⟩, Nat.add_sub_cancel_left]
    simp [hj2]
def encF (m : Nat) (x : Fin (m + 1)) : Value := .int .i64 (x.val : Int)
theorem sortF_ok (m lb g off ci : Nat) (R : Nat → Prop) (a : Option Addr) (n c : Nat) (l : List Int) (d : List (Fin (m + 1))) (w : World) (hd : d.length = m + 1) (hs : Sl w 3 1 (some ⟨g, off, none⟩) (m + 1) ci (d.map (encF m)) (some g)) (hb : w.cell? ⟨lb, 0, none⟩ = some (.slice a n c)) (hlb : lb ≠ g) (hr : Rd w R 1 a n c (ints .i64 l)) (hR : ∀ k, R k → k ≠ g) (hn : n = m + 1) (hm : m ≤ 1000) :
    Calls Try.prog 8 #[.slice (some ⟨g, off, none⟩) (m + 1) ci, .func (.func 9) #[] #[.pointer (some ⟨lb, 0, none⟩)]] w fun e w' => e = .returned (.tuple #[]) ∧ Sl w' 3 1 (some ⟨g, off, none⟩) (m + 1) ci ((srtF (keyL l) d).map (encF m)) (some g) ∧ Chg (One g) w w' := by
  have hblt := lt_of_cell hb
  have hcmp : CmpLays1 Try.prog 9 #[.pointer (some ⟨lb, 0, none⟩)] (encF m) (cfF (m := m) (keyL l)) g off d.toArray.size w := by
    intro mm os dk hdk x y
    have hC := chg_sortWorld (encF m) w g off mm dk os
    have h1 : (sortWorld (encF m) w g off mm dk os).cell? ⟨lb, 0, none⟩ = some (.slice a n c) := (hC.cell (a := ⟨lb, 0, none⟩) hblt.1 (fun hh => hlb hh)).trans hb
    have h2 := hr.chg hC (fun k _ hk hh => hR k hk hh)
    refine (cmp1_ok lb R a n c l x.val y.val _ h1 h2 (by have := x.isLt; omega) (by have := y.isLt; omega)).mono ?_
    rintro e w' ⟨rfl, rfl⟩
    exact ⟨rfl, 1, #[_], rfl⟩
  have hlt := hs.lt g rfl
  have hH : Sort.Holds (encF m) w g off d.toArray := fun j hj => by
    have hj2 : j < d.length := by simpa using hj
    obtain ⟨g2, off2, e2, _, _, hc⟩ := hs.rd.cellAt (by omega)
    injection e2 with e2
    injection e2 with e2 e3
    subst e2; subst e3
    refine ⟨?_, hs.unfrozen (by omega)⟩
    rw [hc j (by omega), List.getElem?_map, List.getElem?_eq_getElem hj2]
    simp [hj2]
  have h := Any.slices_SortFunc_total (P := Try.prog) Try.sortF (encF m) (fun x => rfl) (cfF (m := m) (keyL l)) (swo_cfF _) 9 #[.pointer (some ⟨lb, 0, none⟩)] g off ci d.toArray w (enters_of Try.func9 (by kernel_rfl) rfl) hcmp hH hlt (by simp; omega) (tot_cfF _)
  rw [show d.toArray.size = m + 1 by simp [hd]] at h
  refine h.mono ?_
  rintro e w' ⟨rfl, q, os, rfl⟩
  refine ⟨rfl, ?_, chg_sortWorld _ _ _ _ _ _ _⟩
  exact sl_sortWorld (encF m) q os hs (by rw [List.length_mergeSort]; simp [hd]) (by omega)
end Go.Proofs.Ytnehdpjaioljcaa
