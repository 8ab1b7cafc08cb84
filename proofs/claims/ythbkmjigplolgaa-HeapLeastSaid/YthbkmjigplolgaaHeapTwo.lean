/- Plain laws of two heaps that hold the same; the memory of two heaps. No condition. -/
import Derived.Test.YthbkmjigplolgaaHeapOut
import Derived.Test.YthbkmjigplolgaaHeapPush
namespace Go.Proofs.Ythbkmjigplolgaa
open Go.ChangeShapes Go.WideShapes Go.ChangeAt Go.RowKit
set_option linter.unusedVariables false
theorem HpAt.lt {w : World} {F : Nat → Prop} {p : Nat} {l : List HE} (h : HpAt w F p l) : ∀ k, F k → k < w.heap.size := by
  obtain ⟨_, _, _, _, _, _, _, h⟩ := h
  exact h.lt
theorem HpAt.nd {w : World} {F : Nat → Prop} {p : Nat} {l : List HE} (h : HpAt w F p l) : (l.map HE.id).Nodup := by
  obtain ⟨_, _, _, _, _, _, _, h⟩ := h
  exact h.nd
/-- Of things with different ids: who has the same id is the same. -/
theorem id_inj {l : List HE} (hn : (l.map HE.id).Nodup) {x y : HE} (hx : x ∈ l) (hy : y ∈ l) (h : x.id = y.id) : x = y := by
  obtain ⟨i, hi, rfl⟩ := List.mem_iff_getElem.1 hx
  obtain ⟨j, hj, rfl⟩ := List.mem_iff_getElem.1 hy
  have := (List.getElem_inj (xs := l.map HE.id) (i := i) (j := j) (h₀ := by simpa using hi) (h₁ := by simpa using hj) hn).1 (by simpa using h)
  subst this; rfl
/-- The first n things of a row of keys. -/
def ent (z : List Int) (n : Nat) : List HE := (List.range n).map (fun j : Nat => ⟨(j : Int), z.getD j 0⟩)
theorem ent_succ (z : List Int) (n : Nat) : ent z (n + 1) = ent z n ++ [⟨(n : Int), z.getD n 0⟩] := by unfold ent; rw [List.range_succ, List.map_append]; rfl
theorem ent_len (z : List Int) (n : Nat) : (ent z n).length = n := by simp [ent]
theorem ent_mem {z : List Int} {n i : Nat} (h : i < n) : (⟨(i : Int), z.getD i 0⟩ : HE) ∈ ent z n := List.mem_map.2 ⟨i, List.mem_range.2 h, rfl⟩
theorem ent_ids {z : List Int} {n : Nat} {t : Int} (h : t ∈ (ent z n).map HE.id) : 0 ≤ t ∧ t < n := by
  obtain ⟨x, hx, rfl⟩ := List.mem_map.1 h
  obtain ⟨j, hj, rfl⟩ := List.mem_map.1 hx
  have := List.mem_range.1 hj
  show 0 ≤ (j : Int) ∧ (j : Int) < n
  omega
theorem split_at {l : List HE} {i : Nat} (h : i < l.length) : l = l.take i ++ l[i] :: l.drop (i + 1) := by
  have := List.take_append_drop i l
  rw [List.drop_eq_getElem_cons h] at this
  exact this.symm
theorem turn_perm {la lb lb' : List HE} {pa pb : Nat} (ha : pa < la.length) (hb : pb < lb.length) (hp : la.Perm lb) (he : la[pa] = lb[pb]) (ho : (lb[pb] :: lb').Perm lb) (x : HE) : (la.set pa x).Perm (lb' ++ [x]) := by
  have h1 : la.Perm (la[pa] :: (la.take pa ++ la.drop (pa + 1))) := by
    conv => lhs; rw [split_at ha]
    exact List.perm_middle
  rw [he] at h1
  have h2 : (la.take pa ++ la.drop (pa + 1)).Perm lb' := ((h1.symm.trans hp).trans ho.symm).cons_inv
  have h3 : (la.set pa x).Perm (x :: (la.take pa ++ la.drop (pa + 1))) := by
    rw [List.set_eq_take_append_cons_drop, if_pos ha]
    exact List.perm_middle
  exact (h3.trans (h2.cons x)).trans (List.perm_append_singleton x lb').symm
/-- Two heaps that hold the same have the same first. -/
theorem first_same {la lb : List HE} (ha : HeapI la) (hb : HeapI lb) (hp : la.Perm lb) (h0 : 0 < la.length) (h1 : 0 < lb.length) : la[0] = lb[0] := by
  have m1 : la[0] ∈ lb := hp.mem_iff.1 (List.getElem_mem h0)
  have m2 : lb[0] ∈ la := hp.mem_iff.2 (List.getElem_mem h1)
  obtain ⟨i, hi, e1⟩ := List.mem_iff_getElem.1 m1
  obtain ⟨j, hj, e2⟩ := List.mem_iff_getElem.1 m2
  have k1 := hb.first i hi
  have k2 := ha.first j hj
  rw [e1] at k1
  rw [e2] at k2
  exact HE.le_antisymm k2 k1
/-- Two heaps. -/
structure TwoH (w0 w : World) (Fa Fb : Nat → Prop) (pa pb : Nat) (la lb : List HE) : Prop where
  a : HpAt w Fa pa la
  b : HpAt w Fb pb lb
  dj : Dj Fa Fb
  ga : ∀ k, Fa k → w0.heap.size ≤ k
  gb : ∀ k, Fb k → w0.heap.size ≤ k
  bel : Below w0.heap.size w0 w
  ha : HeapI la
  hb : HeapI lb
section
variable {w0 w w1 : World} {Fa Fb F' : Nat → Prop} {pa pb : Nat} {la lb l' : List HE}
theorem TwoH.stepA (h : TwoH w0 w Fa Fb pa pb la lb) (y1 : HpAt w1 F' pa l') (y2 : HeapI l') (y3 : Chg Fa w w1) (y4 : Grew w.heap.size Fa F') : TwoH w0 w1 F' Fb pa pb l' lb :=
  ⟨y1, h.b.chg y3 h.dj.symm, h.dj.grew y4 h.b.lt, grew_ge y4 h.ga h.bel.size, h.gb, below_chg h.bel y3 h.ga, y2, h.hb⟩
theorem TwoH.stepB (h : TwoH w0 w Fa Fb pa pb la lb) (y1 : HpAt w1 F' pb l') (y2 : HeapI l') (y3 : Chg Fb w w1) (y4 : Grew w.heap.size Fb F') : TwoH w0 w1 Fa F' pa pb la l' :=
  ⟨h.a.chg y3 h.dj, y1, (h.dj.symm.grew y4 h.a.lt).symm, h.ga, grew_ge y4 h.gb h.bel.size, below_chg h.bel y3 h.gb, h.ha, y2⟩
theorem TwoH.nil (h : TwoH w0 w Fa Fb pa pb la lb) (hc : Chg Nil w w1) : TwoH w0 w1 Fa Fb pa pb la lb :=
  ⟨h.a.chg hc (fun _ _ h => h), h.b.chg hc (fun _ _ h => h), h.dj, h.ga, h.gb, below_nil h.bel hc, h.ha, h.hb⟩
end
end Go.Proofs.Ythbkmjigplolgaa
