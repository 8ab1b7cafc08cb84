/- slices.Sort of ints, after the shelf's contract. Conditions: at most 4294967296 numbers. -/
import Derived.Test.YtdelelpfombfbaaSrtLayB
import Derived.Test.YtdelelpfombfbaaSlices
import Derived.Test.YtdelelpfombfbaaMem2
namespace Go.Proofs.Ytdelelpfombfbaa
open Go.ChangeShapes Go.WideShapes Go.ChangeAt Go.RowKit
set_option linter.unusedVariables false
def sortI (l : List Int) : List Int := l.mergeSort fun x y => decide (x ≤ y)
theorem sortI_len (l : List Int) : (sortI l).length = l.length := List.length_mergeSort _
theorem sorted_world {w : World} {e : TypeId} {g off n c : Nat} {l m : List Int} (q : Nat) (os : Array Obj) (h : Sl w e 1 (some ⟨g, off, none⟩) n c (ints .i64 l) (some g)) (hm : m.length = l.length) :
    Sl (Sort.grow (Sort.putRow (Value.int .i64) (Sort.ahead w q) g off m.toArray) os) e 1 (some ⟨g, off, none⟩) n c (ints .i64 m) (some g) ∧ Chg (Opt (some g)) w (Sort.grow (Sort.putRow (Value.int .i64) (Sort.ahead w q) g off m.toArray) os) := by
  have hl := h.rd.ilen
  obtain ⟨h1, h2, h3, ⟨_, hbad⟩ | ⟨g', off', cur, r1, r2, r3, r4, r5⟩⟩ := h
  · cases hbad
  injection r1 with r1
  injection r1 with r1 r1'
  subst r1; subst r1'
  have hgl : g < w.heap.size := (Array.getElem?_eq_some_iff.1 r3).1
  have hsz : (Sort.putRow (Value.int .i64) (Sort.ahead w q) g off m.toArray).heap.size = w.heap.size := by simp [Sort.ahead]
  have hg : (Sort.grow (Sort.putRow (Value.int .i64) (Sort.ahead w q) g off m.toArray) os).heap[g]? = some (.cells (Sort.putCells (Value.int .i64) off m.toArray cur) e (0, 0)) := by
    show (_ ++ os)[g]? = _
    rw [Array.getElem?_append_left (by rw [hsz]; exact hgl)]
    simp [Sort.putRow, Sort.mapBlock, Sort.ahead, Array.getElem?_modify, r3, Sort.onCells]
  refine ⟨⟨h1, h2, by rw [ints_length, hm, hl]; omega, .inr ⟨g, off, _, rfl, rfl, hg, ?_, fun j hj => ?_⟩⟩, ⟨rfl, rfl, rfl, ?_, fun k hk hF => ?_⟩⟩
  · simp only [Sort.putCells, Array.size_mapIdx]; exact r4
  · have hj2 : j < m.length := by omega
    rw [ints_get _ _ hj2]
    simp only [Sort.putCells, Array.getElem?_mapIdx]
    rw [Array.getElem?_eq_getElem (by omega)]
    simp only [Option.map_some, List.size_toArray]
    rw [if_pos ⟨by omega, by omega⟩, Nat.add_sub_cancel_left]
    simp [hj2]
  · show w.heap.size ≤ (_ ++ os).size
    rw [Array.size_append, hsz]; omega
  · show (_ ++ os)[k]? = _
    rw [Array.getElem?_append_left (by rw [hsz]; exact hk)]
    have hne : g ≠ k := fun hh => hF (by rw [hh]; rfl)
    simp [Sort.putRow, Sort.mapBlock, Sort.ahead, Array.getElem?_modify, hne]
theorem sort_ints (a : Option Addr) (n c : Nat) (l : List Int) (G : Option Nat) (w : World) (h : Sl w 3 1 a n c (ints .i64 l) G) (hn : n ≤ 4294967296) :
    Calls Try.prog 68 #[.slice a n c] w fun e w' => e = .returned (.tuple #[]) ∧ Sl w' 3 1 a n c (ints .i64 (sortI l)) G ∧ Chg (Opt G) w w' := by
  obtain rfl := h.rd.ilen
  rcases Nat.eq_zero_or_pos l.length with h0 | h0
  · have hl : l = [] := List.eq_nil_of_length_eq_zero h0
    subst hl
    refine (Any.slices_Sort_int_none Try.lays189 a c w).mono ?_
    rintro e w' ⟨rfl, rfl⟩
    exact ⟨rfl, by rw [show sortI [] = [] by simp [sortI]]; exact h, Chg.refl _ _⟩
  · obtain ⟨g, off, rfl, rfl, hgl⟩ := h.block h0
    obtain ⟨g2, off2, e2, _, _, hc⟩ := h.rd.at (i := 0) h0
    injection e2 with e2
    injection e2 with e2 e3
    subst e2; subst e3
    refine (Try.slices_Sort_int g off c l w (fun j hj => ?_) hgl (by omega)).mono ?_
    · have hj2 : j < l.length := by simpa using hj
      refine ⟨?_, h.unfrozen hj2⟩
      rw [hc j hj2]
      simp [hj2]
    · rintro e w' ⟨rfl, q, os, rfl⟩
      obtain ⟨s1, s2⟩ := sorted_world q os h (sortI_len l)
      exact ⟨rfl, s1, s2⟩
theorem sortI_perm {l m : List Int} (h : l.Perm m) : sortI l = sortI m := by
  have p1 : (sortI l).Perm (sortI m) := (List.mergeSort_perm l _).trans (h.trans (List.mergeSort_perm m _).symm)
  have tr : ∀ a b c : Int, decide (a ≤ b) = true → decide (b ≤ c) = true → decide (a ≤ c) = true := fun a b c h1 h2 => by simp at *; omega
  have tt : ∀ a b : Int, (decide (a ≤ b) || decide (b ≤ a)) = true := fun a b => by simp; omega
  have s1 : (sortI l).Pairwise (fun a b => decide (a ≤ b) = true) := List.pairwise_mergeSort tr tt l
  have s2 : (sortI m).Pairwise (fun a b => decide (a ≤ b) = true) := List.pairwise_mergeSort tr tt m
  exact List.Perm.eq_of_pairwise (fun a b _ _ h1 h2 => by simp at h1 h2; omega) s1 s2 p1
end Go.Proofs.Ytdelelpfombfbaa
