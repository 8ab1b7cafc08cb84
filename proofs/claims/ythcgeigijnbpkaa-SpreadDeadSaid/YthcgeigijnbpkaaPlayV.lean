/- The laws' notes go with the run, whatever is asked. No program in sight; no condition. -/
import Derived.Test.YthcgeigijnbpkaaPlay
namespace Go.Proofs.Ythcgeigijnbpkaa
set_option linter.unusedVariables false
/-- A task as it is noted at t. -/
def Noted (o : Note) (t : Nat) (v : VW) : Prop := v.t = (t : Int) ∧ o.is t = true ∧ o.rd t = v.r ∧ o.dd t = decide (v.cl = 3) ∧ o.mo t = decide (0 < v.mo) ∧ o.pn t = (v.pin : Int)
/-- Each task is noted, and each that is noted is there. -/
structure NoteV (vs : List VW) (o : Note) : Prop where
  a : ∀ (i : Nat) (v : VW), vs[i]? = some v → ∃ t : Nat, 1 ≤ t ∧ t ≤ 16 ∧ Noted o t v
  b : ∀ t : Nat, 1 ≤ t → t ≤ 16 → o.is t = true → ∃ (i : Nat) (v : VW), vs[i]? = some v ∧ v.t = (t : Int)
def NumV (vs : List VW) : Prop := ∀ (i j : Nat) (x y : VW), vs[i]? = some x → vs[j]? = some y → x.t = y.t → i = j
theorem numV {s : SR} (h : InvP s) : NumV s.vs := by
  intro i j x y hx hy hxy
  obtain ⟨x', hx', rfl⟩ := vs_of hx
  obtain ⟨y', hy', rfl⟩ := vs_of hy
  exact h.num i j x' y' hx' hy' hxy
theorem note_new : NoteV [] ⟨fun _ => false, fun _ => false, fun _ => false, fun _ => false, fun _ => 0⟩ := ⟨fun i v h => by simp at h, fun t _ _ h => by cases h⟩
/-- One task is put anew, and noted anew. -/
theorem note_mod {vs : List VW} {o o' : Note} {i : Nat} {v : VW} {t : Nat} {g : VW → VW} (h : NoteV vs o) (hn : NumV vs) (hv : vs[i]? = some v) (ht : v.t = (t : Int)) (hg : (g v).t = v.t) (hN : Noted o' t (g v))
    (ho : ∀ u, u ≠ t → o'.is u = o.is u ∧ o'.rd u = o.rd u ∧ o'.dd u = o.dd u ∧ o'.mo u = o.mo u ∧ o'.pn u = o.pn u) : NoteV (vs.modify i g) o' := by
  obtain ⟨t', t1, t2, hN0⟩ := h.a i v hv
  have htt : t' = t := by have := hN0.1; omega
  subst htt
  have key : ∀ (j : Nat) (x : VW), (vs.modify i g)[j]? = some x → (j = i ∧ x = g v) ∨ (j ≠ i ∧ vs[j]? = some x) := by
    intro j x hx
    rw [List.getElem?_modify] at hx
    by_cases hij : i = j
    · subst hij
      rw [hv] at hx
      simp at hx
      exact .inl ⟨rfl, hx.symm⟩
    · cases hz : vs[j]? with
      | none => rw [hz] at hx; cases hx
      | some z => rw [hz] at hx; simp [hij] at hx; subst hx; exact .inr ⟨fun hh => hij hh.symm, rfl⟩
  refine ⟨fun j x hx => ?_, fun u u1 u2 hu => ?_⟩
  · rcases key j x hx with ⟨rfl, rfl⟩ | ⟨hj, hx'⟩
    · exact ⟨t', t1, t2, hN⟩
    · obtain ⟨u, u1, u2, hNu⟩ := h.a j x hx'
      have hut : u ≠ t' := fun hh => hj (hn j i x v hx' hv (by rw [hNu.1, ht, hh]))
      obtain ⟨c1, c2, c3, c4, c5⟩ := ho u hut
      exact ⟨u, u1, u2, hNu.1, by rw [c1]; exact hNu.2.1, by rw [c2]; exact hNu.2.2.1, by rw [c3]; exact hNu.2.2.2.1, by rw [c4]; exact hNu.2.2.2.2.1, by rw [c5]; exact hNu.2.2.2.2.2⟩
  · by_cases hut : u = t'
    · subst hut
      refine ⟨i, g v, ?_, by rw [hg]; exact ht⟩
      rw [List.getElem?_modify, hv]
      simp
    · obtain ⟨j, x, hx, hxt⟩ := h.b u u1 u2 (by rw [← (ho u hut).1]; exact hu)
      have hji : i ≠ j := by rintro rfl; rw [hv] at hx; injection hx with hx; subst hx; omega
      refine ⟨j, x, ?_, hxt⟩
      rw [List.getElem?_modify, hx]
      simp [hji]
/-- A new task, noted. -/
theorem note_add {vs : List VW} {o o' : Note} {v : VW} {t : Nat} (h : NoteV vs o) (t1 : 1 ≤ t) (t2 : t ≤ 16) (hno : ∀ x ∈ vs, x.t ≠ (t : Int)) (hN : Noted o' t v)
    (ho : ∀ u, u ≠ t → o'.is u = o.is u ∧ o'.rd u = o.rd u ∧ o'.dd u = o.dd u ∧ o'.mo u = o.mo u ∧ o'.pn u = o.pn u) : NoteV (vs ++ [v]) o' := by
  refine ⟨fun j x hx => ?_, fun u u1 u2 hu => ?_⟩
  · by_cases hj : j < vs.length
    · rw [List.getElem?_append_left hj] at hx
      obtain ⟨u, u1, u2, hNu⟩ := h.a j x hx
      have hut : u ≠ t := fun hh => hno x (List.mem_of_getElem? hx) (by rw [hNu.1, hh])
      obtain ⟨c1, c2, c3, c4, c5⟩ := ho u hut
      exact ⟨u, u1, u2, hNu.1, by rw [c1]; exact hNu.2.1, by rw [c2]; exact hNu.2.2.1, by rw [c3]; exact hNu.2.2.2.1, by rw [c4]; exact hNu.2.2.2.2.1, by rw [c5]; exact hNu.2.2.2.2.2⟩
    · rw [List.getElem?_append_right (by omega)] at hx
      have h0 : j - vs.length = 0 := by have := (List.getElem?_eq_some_iff.1 hx).1; simp at this; omega
      rw [h0] at hx
      simp at hx
      subst hx
      exact ⟨t, t1, t2, hN⟩
  · by_cases hut : u = t
    · subst hut
      exact ⟨vs.length, v, by simp, hN.1⟩
    · obtain ⟨j, x, hx, hxt⟩ := h.b u u1 u2 (by rw [← (ho u hut).1]; exact hu)
      exact ⟨j, x, by rw [List.getElem?_append_left (List.getElem?_eq_some_iff.1 hx).1]; exact hx, hxt⟩
/-- A task goes, and is noted no more. -/
theorem note_out {vs : List VW} {o o' : Note} {i : Nat} {v : VW} {t : Nat} (h : NoteV vs o) (hn : NumV vs) (hv : vs[i]? = some v) (ht : v.t = (t : Int)) (hi : o'.is t = false)
    (ho : ∀ u, u ≠ t → o'.is u = o.is u ∧ o'.rd u = o.rd u ∧ o'.dd u = o.dd u ∧ o'.mo u = o.mo u ∧ o'.pn u = o.pn u) : NoteV (vs.eraseIdx i) o' := by
  have key : ∀ (j : Nat) (x : VW), (vs.eraseIdx i)[j]? = some x → ∃ k, k ≠ i ∧ vs[k]? = some x := by
    intro j x hx
    rw [List.getElem?_eraseIdx] at hx
    split at hx
    · exact ⟨j, by omega, hx⟩
    · exact ⟨j + 1, by omega, hx⟩
  refine ⟨fun j x hx => ?_, fun u u1 u2 hu => ?_⟩
  · obtain ⟨k, hk, hx'⟩ := key j x hx
    obtain ⟨u, u1, u2, hNu⟩ := h.a k x hx'
    have hut : u ≠ t := fun hh => hk (hn k i x v hx' hv (by rw [hNu.1, ht, hh]))
    obtain ⟨c1, c2, c3, c4, c5⟩ := ho u hut
    exact ⟨u, u1, u2, hNu.1, by rw [c1]; exact hNu.2.1, by rw [c2]; exact hNu.2.2.1, by rw [c3]; exact hNu.2.2.2.1, by rw [c4]; exact hNu.2.2.2.2.1, by rw [c5]; exact hNu.2.2.2.2.2⟩
  · have hut : u ≠ t := fun hh => by rw [hh, hi] at hu; cases hu
    obtain ⟨j, x, hx, hxt⟩ := h.b u u1 u2 (by rw [← (ho u hut).1]; exact hu)
    have hji : j ≠ i := by rintro rfl; rw [hv] at hx; injection hx with hx; subst hx; omega
    by_cases hlt : j < i
    · exact ⟨j, x, by rw [List.getElem?_eraseIdx, if_pos hlt]; exact hx, hxt⟩
    · exact ⟨j - 1, x, by rw [List.getElem?_eraseIdx, if_neg (by omega), show j - 1 + 1 = j by omega]; exact hx, hxt⟩
/-- At most sixteen numbers: fewer than sixteen tasks, if one is free. -/
theorem note_few {vs : List VW} {o : Note} (h : NoteV vs o) (hn : NumV vs) {t : Nat} (t1 : 1 ≤ t) (t2 : t ≤ 16) (hno : ∀ x ∈ vs, x.t ≠ (t : Int)) : vs.length ≤ 15 := by
  have hnd : (t :: vs.map (fun v => v.t.toNat)).Nodup := by
    refine List.nodup_cons.2 ⟨fun hm => ?_, ?_⟩
    · obtain ⟨v, hv, he⟩ := List.mem_map.1 hm
      obtain ⟨i, hi⟩ := List.mem_iff_getElem?.1 hv
      obtain ⟨u, u1, u2, hN⟩ := h.a i v hi
      have := hno v hv
      have := hN.1
      omega
    · unfold List.Nodup
      rw [List.pairwise_map, List.pairwise_iff_getElem]
      intro i j hi hj hij he
      obtain ⟨u, u1, u2, hN⟩ := h.a i _ (List.getElem?_eq_getElem hi)
      obtain ⟨u', u1', u2', hN'⟩ := h.a j _ (List.getElem?_eq_getElem hj)
      have := hn i j _ _ (List.getElem?_eq_getElem hi) (List.getElem?_eq_getElem hj) (by have := hN.1; have := hN'.1; omega)
      omega
  have hb : ∀ x ∈ (t :: vs.map (fun v => v.t.toNat)).map (fun u => u - 1), x < 16 := by
    intro x hx
    obtain ⟨u, hu, rfl⟩ := List.mem_map.1 hx
    rcases List.mem_cons.1 hu with rfl | hu
    · omega
    · obtain ⟨v, hv, rfl⟩ := List.mem_map.1 hu
      obtain ⟨i, hi⟩ := List.mem_iff_getElem?.1 hv
      obtain ⟨u, u1, u2, hN⟩ := h.a i v hi
      have := hN.1
      omega
  have hpos : ∀ x ∈ t :: vs.map (fun v => v.t.toNat), 1 ≤ x := by
    intro x hx
    rcases List.mem_cons.1 hx with rfl | hx
    · exact t1
    · obtain ⟨v, hv, rfl⟩ := List.mem_map.1 hx
      obtain ⟨i, hi⟩ := List.mem_iff_getElem?.1 hv
      obtain ⟨u, u1, u2, hN⟩ := h.a i v hi
      have := hN.1
      omega
  have hnd2 : ((t :: vs.map (fun v => v.t.toNat)).map (fun u => u - 1)).Nodup := by
    unfold List.Nodup
    rw [List.pairwise_map]
    refine List.Pairwise.imp_of_mem (fun {a b} ha hb hab he => ?_) hnd
    have := hpos a ha
    have := hpos b hb
    omega
  have := nodup_bound 16 _ hnd2 hb
  rw [List.length_map, List.length_cons, List.length_map] at this
  omega
end Go.Proofs.Ythcgeigijnbpkaa
