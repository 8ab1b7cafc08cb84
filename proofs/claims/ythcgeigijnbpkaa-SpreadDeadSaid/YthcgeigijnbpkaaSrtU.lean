/- slices.SortFunc as the law SpreadDead uses it: uses by their periods. Conditions: at most twelve, each as it may be. -/
import Derived.Test.YthcgeigijnbpkaaSets
import Derived.Test.YthcgeigijnbpkaaSfU
import Derived.Test.YthcgeigijnbpkaaMem2
import Derived.Shelf.SlSortCmp.NoneTotal
namespace Go.Proofs.Ythcgeigijnbpkaa
open Go.ChangeShapes Go.WideShapes Go.ChangeAt Go.RowKit Go.Proofs Go.Sort
set_option linter.unusedVariables false
abbrev OkU : Type := { u : Use // u.ok }
instance : Inhabited OkU := ⟨⟨⟨1, 1⟩, by unfold Use.ok; decide⟩⟩
def encU (x : OkU) : List Value := useCells x.val
def cfU (x y : OkU) : Int := (x.val.p : Int) - (y.val.p : Int)
theorem ltU (x y : OkU) : ltOf cfU x y = decide (x.val.p < y.val.p) := by
  unfold ltOf cfU
  rw [decide_eq_decide]
  omega
theorem swoU : SWO (ltOf cfU) where
  irrefl x := by rw [ltU]; simp
  trans x y z h1 h2 := by rw [ltU] at *; simp at *; omega
  ntrans x y z h1 h2 := by rw [ltU] at *; simp at *; omega
theorem closU (x y : OkU) (W : World) : Calls Try.prog 33 #[.agg (encU x).toArray, .agg (encU y).toArray] W fun e w' => e = .returned (.int .i64 (cfU x y)) ∧ ∃ q os', w' = Go.Sort.grow (W.drewN q) os' := by
  obtain ⟨⟨c, p⟩, h1, h2, h3⟩ := x
  obtain ⟨⟨d, q⟩, k1, k2, k3⟩ := y
  simp only at h1 h2 h3 k1 k2 k3
  unfold encU useCells cfU
  simp only
  show Calls Try.prog 33 #[.agg #[.int .i64 c, .int .i64 p], .agg #[.int .i64 d, .int .i64 q]] W _
  have hs : wrap64 ((p : Int) - (q : Int)) = (p : Int) - (q : Int) := IntWalk.wrap64_in _ ⟨by omega, by omega⟩
  go_enter Try.func33, Try.ntmps33
  go_wp2
  go_ret
  exact ⟨rfl, 0, _, by rw [alloc_eq_grow, alloc_eq_grow, grow_grow]; rfl⟩
theorem hlenU (n : Nat) (W : World) (h : n ≤ 12) : Calls Try.prog 49 #[.int .u64 n] W fun e w' => (∃ l : Int, e = .returned (.int .i64 l)) ∧ w' = W :=
  (Any.bits_Len Try.bitsLenU n W (by omega) (by omega)).mono fun _ _ ⟨he, hw⟩ => ⟨⟨_, he⟩, hw⟩
theorem chg_sortWorldK {α : Type} [Inhabited α] (enc : α → List Value) (k : Nat) (w : World) (g off q : Nat) (dk : Array α) (os : Array Obj) : Chg (One g) w (sortWorldK enc k w g off q dk os) := by
  have hsz : (Sort.putRowK enc k (Sort.ahead w q) g off dk).heap.size = w.heap.size := by simp [Sort.putRowK, Sort.putRow, Sort.mapBlock, Sort.ahead]
  refine ⟨rfl, rfl, rfl, ?_, fun k' hk hF => ?_⟩
  · show w.heap.size ≤ (_ ++ os).size
    rw [Array.size_append, hsz]; omega
  · show (_ ++ os)[k']? = _
    rw [Array.getElem?_append_left (by rw [hsz]; exact hk)]
    have hne : g ≠ k' := fun hh => hF (show k' = g from hh.symm)
    simp [Sort.putRowK, Sort.putRow, Sort.mapBlock, Sort.ahead, Array.getElem?_modify, hne]
theorem flatK_list {α : Type} [Inhabited α] (enc : α → List Value) (k : Nat) (hk0 : 0 < k) (hk : ∀ x, (enc x).length = k) (m : List α) (j : Nat) (hj : j < m.length * k) : (Sort.flatK enc k m.toArray)[j]? = (m.flatMap enc)[j]? := by
  have hs : j < (Sort.flatK enc k m.toArray).size := by rw [Sort.size_flatK]; simpa using hj
  rw [Array.getElem?_eq_getElem hs]
  have hd : j / k < m.length := Nat.div_lt_of_lt_mul (by rw [Nat.mul_comm]; exact hj)
  have hm : j % k < k := Nat.mod_lt _ hk0
  have h1 := flat_get enc k hk m (j / k) (j % k) hd hm
  have e : j / k * k + j % k = j := by rw [Nat.mul_comm]; exact Nat.div_add_mod j k
  rw [e] at h1
  rw [h1, List.getElem?_eq_getElem (by rw [hk]; exact hm)]
  have h2 := Sort.get_flatK enc k m.toArray j (by simpa using hj)
  rw [getElem!_pos (Sort.flatK enc k m.toArray) j hs] at h2
  rw [h2]
  have h3 : (m.toArray)[j / k]! = m[j / k] := by rw [getElem!_pos m.toArray (j / k) (by simpa using hd)]; simp
  rw [h3, getElem!_pos _ _ (by rw [hk]; exact hm)]
theorem sl_sortWorldK {α : Type} [Inhabited α] (enc : α → List Value) (k : Nat) (hk0 : 0 < k) (hk : ∀ x, (enc x).length = k) {w : World} {e : TypeId} {g off n c : Nat} {xs : List Value} {m : List α} (q : Nat) (os : Array Obj) (h : Sl w e k (some ⟨g, off, none⟩) n c xs (some g)) (hm : m.length = n) (hn : 0 < n) :
    Sl (sortWorldK enc k w g off q m.toArray os) e k (some ⟨g, off, none⟩) n c (m.flatMap enc) (some g) := by
  obtain ⟨h1, h2, h3, ⟨h0, _⟩ | ⟨g', off', cur, r1, r2, r3, r4, r5⟩⟩ := h
  · omega
  injection r1 with r1
  injection r1 with r1 r1'
  subst r1; subst r1'
  have hgl : g < w.heap.size := (Array.getElem?_eq_some_iff.1 r3).1
  have hsz : (Sort.putRowK enc k (Sort.ahead w q) g off m.toArray).heap.size = w.heap.size := by simp [Sort.putRowK, Sort.putRow, Sort.mapBlock, Sort.ahead]
  have hg : (sortWorldK enc k w g off q m.toArray os).heap[g]? = some (.cells (Sort.putCells id off (Sort.flatK enc k m.toArray) cur) e (0, 0)) := by
    show (_ ++ os)[g]? = _
    rw [Array.getElem?_append_left (by rw [hsz]; exact hgl)]
    simp [Sort.putRowK, Sort.putRow, Sort.mapBlock, Sort.ahead, Array.getElem?_modify, r3, Sort.onCells]
  have hfl : (m.flatMap enc).length = n * k := by rw [flat_len enc k hk, hm]
  have hnc : n * k ≤ c * k := Nat.mul_le_mul_right k h1
  refine ⟨h1, h2, hfl, .inr ⟨g, off, _, rfl, rfl, hg, ?_, fun j hj => ?_⟩⟩
  · simp only [Sort.putCells, Array.size_mapIdx]; exact r4
  · have hj2 : j < m.length * k := by rw [hm]; exact hj
    have hfk := flatK_list enc k hk0 hk m j hj2
    simp only [Sort.putCells, Array.getElem?_mapIdx]
    rw [Array.getElem?_eq_getElem (by omega)]
    have hsz2 : (Sort.flatK enc k m.toArray).size = m.length * k := by rw [Sort.size_flatK]; simp
    simp only [Option.map_some]
    rw [if_pos ⟨by omega, by omega⟩, Nat.add_sub_cancel_left]
    rw [← hfk, Array.getElem?_eq_getElem (by omega), getElem!_pos _ _ (by omega)]
    rfl
theorem attach_ok (l : List Use) (h : ∀ u ∈ l, u.ok) : ∃ d : List OkU, d.map Subtype.val = l := ⟨l.pmap Subtype.mk h, by rw [List.map_pmap]; simp⟩
theorem flat_encU (d : List OkU) : d.flatMap encU = (d.map Subtype.val).flatMap useCells := by
  induction d with
  | nil => rfl
  | cons x d ih => rw [List.flatMap_cons, List.map_cons, List.flatMap_cons, ih]; rfl
/-- By their periods. -/
def Asc (l : List Use) : Prop := ∀ (i j : Nat) (hi : i < l.length) (hj : j < l.length), i < j → l[i].p ≤ l[j].p
theorem sortU_ok (w : World) (a : Option Addr) (n c : Nat) (l : List Use) (G : Option Nat) (h : Sl w 55 2 a n c (l.flatMap useCells) G) (hn : n = l.length) (h12 : n ≤ 12) (hok : ∀ u ∈ l, u.ok) :
    Calls Try.prog 32 #[.slice a n c, .func (.func 33) #[] #[]] w fun e w' => e = .returned (.tuple #[]) ∧ ∃ l', l'.Perm l ∧ Asc l' ∧ Sl w' 55 2 a n c (l'.flatMap useCells) G ∧ Chg (Opt G) w w' := by
  subst hn
  by_cases h0 : l.length = 0
  · have hl := List.length_eq_zero_iff.1 h0
    subst hl
    have hc := AnyF.slices_SortFunc_none (P := Try.prog) Try.sortU a c (.func (.func 33) #[] #[]) w
    refine Calls.mono hc ?_
    rintro e w' ⟨rfl, rfl⟩
    exact ⟨rfl, [], List.Perm.refl _, fun i j hi => absurd hi (by simp), h, Chg.refl _ _⟩
  · obtain ⟨g, off, rfl, rfl, _⟩ := h.block (by omega)
    obtain ⟨d, rfl⟩ := attach_ok l hok
    rw [List.length_map] at h h12 h0 ⊢
    have hH : HoldsK encU 2 w g off d.toArray := by
      intro j hj
      have hj2 : j < d.length * 2 := by simpa using hj
      obtain ⟨g2, off2, e2, _, _, hc⟩ := (h.rd).2.2.2 (by omega)
      injection e2 with e2
      injection e2 with e2 e3
      subst e2; subst e3
      have hfk := flatK_list encU 2 (by omega) (fun _ => rfl) d j hj2
      have h1 := hc j (by exact hj2)
      rw [← flat_encU, ← hfk] at h1
      refine ⟨?_, ?_⟩
      · rw [h1, Array.getElem?_eq_getElem hj, getElem!_pos (flatK encU 2 d.toArray) j hj]; rfl
      · exact h.free (off + j) (by omega)
    have hc := AnyQ.slices_SortFunc_small_sorted (P := Try.prog) Try.sortU 2 (by intro w; exact Try.isAgg55 w) (by intro w; exact Try.sizeOf55 w) encU (fun _ => rfl) (fun x v hv => use_one x.val v hv) cfU 33 #[] swoU g off c d.toArray w (enters_of Try.func33 (by kernel_rfl) rfl) (fun _ _ _ _ x y => closU x y _) hH (h.lt g rfl) (by simpa using h12) hlenU
    refine Calls.mono (show Calls Try.prog 32 #[.slice (some ⟨g, off, none⟩) d.length c, .func (.func 33) #[] #[]] w _ from hc) ?_
    rintro e w' ⟨rfl, d', q, os, hp, hs, rfl⟩
    obtain ⟨hp1, _, hp3⟩ := hp
    have hl' : d'.toList.length = d.length := by rw [Array.length_toList, hp1]; simp
    have hperm : d'.toList.Perm d := by
      have : d.toArray.size = d'.size := hp1.symm
      rw [Array.extract_eq_self_of_le (by omega), Array.extract_eq_self_of_le (Nat.le_refl _)] at hp3
      exact hp3
    refine ⟨rfl, d'.toList.map Subtype.val, hperm.map _, fun i j hi hj hij => ?_, ?_, (chg_sortWorldK encU 2 w g off q d' os).mono (fun k _ hk => by rw [show k = g from hk]; rfl)⟩
    · rw [List.length_map] at hi hj
      have := hs i j (Nat.zero_le _) hij (by simp; omega)
      rw [ltU, getElem!_pos d' i (by simpa using hi), getElem!_pos d' j (by simpa using hj)] at this
      simp only [List.getElem_map, Array.getElem_toList]
      have := of_decide_eq_false this
      omega
    · have := sl_sortWorldK encU 2 (by omega) (fun _ => rfl) (m := d'.toList) q os h hl' (by omega)
      rw [flat_encU, Array.toArray_toList] at this
      exact this
end Go.Proofs.Ythcgeigijnbpkaa
