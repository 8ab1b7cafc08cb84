/- Of slices.DeleteFunc: the plain laws, and what clear does to a slice. No condition. -/
import Derived.Test.YtjllklddjkkddaaGreatDoorZ04
import Derived.Test.YtjllklddjkkddaaGreatDoorZ05
import Derived.Lib.SliceRun
namespace Go.Proofs.YtjllklddjkkddaaGreatDoor
open Go.ChangeShapes Go.WideShapes Go.ChangeAt Go.RowKit
set_option linter.unusedVariables false
/-- The end of a slice is cleared: what stands ahead of it stays. -/
theorem Sl.cleared {w : World} {e : TypeId} {s n c g off i : Nat} {xs : List Value} {G : Option Nat} (h : Sl w e s (some ⟨g, off, Option.none⟩) n c xs G) (hi : i ≤ n) (h0 : 0 < n) (vs : List Value) (hv : i * s + vs.length ≤ n * s) :
    Sl (w.setCells g (off + i * s) vs) e s (some ⟨g, off, Option.none⟩) i c (xs.take (i * s)) G ∧ Chg (Opt G) w (w.setCells g (off + i * s) vs) := by
  obtain ⟨h1, h2, h3, ⟨h4, _⟩ | ⟨g', off', cur, r1, r2, r3, r4, r5⟩⟩ := h
  · omega
  · injection r1 with r1
    injection r1 with r1 r1'
    subst r1; subst r1'
    have hnc : n * s ≤ c * s := Nat.mul_le_mul_right _ h1
    have his : i * s ≤ n * s := Nat.mul_le_mul_right _ hi
    obtain ⟨cur', c1, c2, c3, c4⟩ := set_row w r3 vs (off + i * s) (by omega)
    refine ⟨⟨by omega, h2, by rw [List.length_take]; omega, .inr ⟨g, off, cur', rfl, r2, c1, by omega, fun j hj => ?_⟩⟩, ⟨World.os_setCells _ _ _ _, setCells_tape _ _ _ _, World.output_setCells _ _ _ _, by rw [setCells_size]; exact Nat.le_refl _, fun k hk hF => World.heap_setCells_other _ _ _ _ hk (fun hh => hF (by rw [hh]; exact r2))⟩⟩
    rw [c3 _ (by omega), r5 j (by omega), List.getElem?_take, if_pos hj]
/-- The numbers other than t, in order. -/
def keepI (t : Int) (l : List Int) : List Int := l.filter (fun x => x != t)
theorem keepI_len (t : Int) (l : List Int) : (keepI t l).length ≤ l.length := List.length_filter_le _ _
theorem keepI_all {t : Int} {l : List Int} (h : t ∉ l) : keepI t l = l := by
  rw [keepI, List.filter_eq_self]
  intro x hx
  rw [bne_iff_ne]
  intro he; subst he; exact h hx
theorem keepI_mem {t x : Int} {l : List Int} : x ∈ keepI t l ↔ x ∈ l ∧ x ≠ t := by rw [keepI, List.mem_filter, bne_iff_ne]
theorem keepI_succ (t : Int) (l : List Int) (j : Nat) (h : j < l.length) : keepI t (l.take (j + 1)) = keepI t (l.take j) ++ (if l[j] = t then [] else [l[j]]) := by
  rw [List.take_succ_eq_append_getElem h, keepI, List.filter_append]
  congr 1
  by_cases he : l[j] = t
  · simp [he]
  · simp [he]
/-- Where DeleteFunc stands: zs is the row, i are kept of the first j. -/
structure DelAt (t : Int) (l zs : List Int) (i j : Nat) : Prop where
  len : zs.length = l.length
  lt : i < j
  le : j ≤ l.length
  kept : zs.take i = keepI t (l.take j)
  rest : ∀ k, j ≤ k → zs[k]? = l[k]?
theorem DelAt.start {t : Int} {l : List Int} {k : Nat} (h : k < l.length) (he : l[k] = t) (hb : ∀ j (hj : j < l.length), j < k → l[j] ≠ t) : DelAt t l l k (k + 1) := by
  refine ⟨rfl, by omega, by omega, ?_, fun _ _ => rfl⟩
  rw [keepI_succ t l k h, if_pos he, List.append_nil, keepI_all]
  intro hm
  obtain ⟨j, hj, hj2⟩ := List.mem_iff_getElem.1 hm
  rw [List.length_take] at hj
  rw [List.getElem_take] at hj2
  exact hb j (by omega) (by omega) hj2
theorem DelAt.out {t : Int} {l zs : List Int} {i j : Nat} (h : DelAt t l zs i j) (hj : j < l.length) (he : l[j] = t) : DelAt t l zs i (j + 1) := by
  have := h.lt
  refine ⟨h.len, by omega, by omega, ?_, fun k hk => h.rest k (by omega)⟩
  rw [keepI_succ t l j hj, if_pos he, List.append_nil, h.kept]
theorem DelAt.keep {t : Int} {l zs : List Int} {i j : Nat} (h : DelAt t l zs i j) (hj : j < l.length) (he : l[j] ≠ t) : DelAt t l (zs.set i l[j]) (i + 1) (j + 1) := by
  have h1 := h.lt
  have h2 := h.len
  refine ⟨by rw [List.length_set, h2], by omega, by omega, ?_, fun k hk => ?_⟩
  · rw [keepI_succ t l j hj, if_neg he, ← h.kept, List.take_succ_eq_append_getElem (by rw [List.length_set]; omega), List.getElem_set_self, List.take_set_of_le (Nat.le_refl _)]
  · rw [List.getElem?_set_ne (by omega)]; exact h.rest k (by omega)
theorem DelAt.get {t : Int} {l zs : List Int} {i j : Nat} (h : DelAt t l zs i j) (hj : j < l.length) : ∃ hz : j < zs.length, zs[j] = l[j] := by
  have hz : j < zs.length := by rw [h.len]; exact hj
  refine ⟨hz, ?_⟩
  have := h.rest j (Nat.le_refl _)
  rw [List.getElem?_eq_getElem hz, List.getElem?_eq_getElem hj] at this
  exact Option.some.inj this
theorem DelAt.fin {t : Int} {l zs : List Int} {i : Nat} (h : DelAt t l zs i l.length) : zs.take i = keepI t l ∧ i = (keepI t l).length := by
  have h1 := h.kept
  rw [List.take_length] at h1
  refine ⟨h1, ?_⟩
  rw [← h1, List.length_take]
  have := h.lt; have := h.len; omega
theorem ints_set (l : List Int) (i : Nat) (x : Int) (k : IntKind) : (ints k l).set i (.int k x) = ints k (l.set i x) := by simp [ints]
theorem ints_take (l : List Int) (i : Nat) (k : IntKind) : (ints k l).take i = ints k (l.take i) := by simp [ints]
theorem idxI_split (l : List Int) (t : Int) (h : t ∈ l) : ∃ k : Nat, idxI l t = k ∧ ∃ hk : k < l.length, l[k] = t ∧ ∀ j (hj : j < l.length), j < k → l[j] ≠ t := by
  classical
  have hex : ∃ k, ∃ hk : k < l.length, l[k] = t := List.mem_iff_getElem.1 h
  obtain ⟨k, ⟨hk, hkt⟩, hmin⟩ : ∃ k, (∃ hk : k < l.length, l[k] = t) ∧ ∀ j, j < k → ¬ ∃ hj : j < l.length, l[j] = t := by
    obtain ⟨k0, h0⟩ := hex
    induction k0 using Nat.strongRecOn with
    | _ m ih =>
      by_cases hm : ∃ j, j < m ∧ ∃ hj : j < l.length, l[j] = t
      · obtain ⟨j, hj, hj2⟩ := hm
        exact ih j hj hj2
      · exact ⟨m, h0, fun j hj hh => hm ⟨j, hj, hh⟩⟩
  exact ⟨k, idxI_of hk hkt (fun j hj hjk he => hmin j hjk ⟨hj, he⟩), hk, hkt, fun j hj hjk he => hmin j hjk ⟨hj, he⟩⟩
end Go.Proofs.YtjllklddjkkddaaGreatDoor
