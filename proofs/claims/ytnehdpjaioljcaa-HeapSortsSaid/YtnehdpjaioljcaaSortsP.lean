/- Plain facts of the law HeapSorts: the order of numbers by what they stand for; the least goes first. No program in sight; no condition. -/
import Derived.Test.YtnehdpjaioljcaaHeap
import Derived.Shelf.SlSortCmp.Insertion
namespace Go.Proofs.Ytnehdpjaioljcaa
open Go.Proofs Go.Sort
set_option linter.unusedVariables false
/-- By what they stand for, and then by themselves. -/
def cfK (key : Nat → Int) (a b : Nat) : Int := if cmpI (key a) (key b) = 0 then cmpI (a : Int) (b : Int) else cmpI (key a) (key b)
def heK (key : Nat → Int) (a : Nat) : HE := ⟨(a : Int), key a⟩
theorem cfK_lt (key : Nat → Int) (a b : Nat) : decide (cfK key a b < 0) = (heK key a).lt (heK key b) := by
  unfold cfK cmpI heK HE.lt
  by_cases h1 : key a < key b
  · simp [h1]
  · by_cases h2 : key b < key a
    · have h3 : ¬ key a = key b := by omega
      simp [h1, h2, h3]
    · have h3 : key a = key b := by omega
      rw [if_neg h1, if_neg h2, if_pos rfl]
      by_cases h4 : a < b
      · simp [h3, h4]
      · by_cases h5 : b < a
        · simp [h3, h4, h5]
        · simp [h3, h4, h5]
theorem heK_le (key : Nat → Int) (a b : Nat) : (heK key a).lt (heK key b) = false ↔ (heK key b).le (heK key a) := ⟨HE.le_of_not, HE.not_of_le⟩
variable {m : Nat}
def cfF (key : Nat → Int) (a b : Fin (m + 1)) : Int := cfK key a.val b.val
theorem lt_cfF (key : Nat → Int) (a b : Fin (m + 1)) : ltOf (cfF key) a b = (heK key a.val).lt (heK key b.val) := cfK_lt key a.val b.val
theorem swo_cfF (key : Nat → Int) : SWO (ltOf (cfF (m := m) key)) where
  irrefl x := by rw [lt_cfF]; exact HE.lt_irrefl _
  trans x y z h1 h2 := by
    rw [lt_cfF] at *
    cases h : (heK key x.val).lt (heK key z.val) with
    | true => rfl
    | false =>
      have h3 := (heK_le key _ _).1 h
      have h4 := HE.le_of_lt h1
      have h5 := HE.le_of_lt h2
      have h6 := HE.le_antisymm (HE.le_trans h4 h5) h3
      have h7 := HE.not_of_le (HE.le_trans h3 h4)
      rw [h2] at h7
      cases h7
  ntrans x y z h1 h2 := by
    rw [lt_cfF] at *
    exact HE.not_of_le (HE.le_trans ((heK_le key _ _).1 h2) ((heK_le key _ _).1 h1))
theorem tot_cfF (key : Nat → Int) (x y : Fin (m + 1)) (h1 : ltOf (cfF key) x y = false) (h2 : ltOf (cfF key) y x = false) : x = y := by
  rw [lt_cfF] at *
  have h := HE.le_antisymm ((heK_le key _ _).1 h2) ((heK_le key _ _).1 h1)
  have : (heK key x.val).id = (heK key y.val).id := by rw [h]
  apply Fin.ext
  have h3 : (x.val : Int) = (y.val : Int) := this
  omega
/-- The numbers, sorted. -/
def srtF (key : Nat → Int) (d : List (Fin (m + 1))) : List (Fin (m + 1)) := d.mergeSort fun x y => !(ltOf (cfF key)) y x
theorem srtF_perm (key : Nat → Int) (d : List (Fin (m + 1))) : (srtF key d).Perm d := List.mergeSort_perm d _
theorem srtF_pair (key : Nat → Int) (d : List (Fin (m + 1))) : (srtF key d).Pairwise (fun x y => (heK key x.val).le (heK key y.val)) := by
  refine List.Pairwise.imp (fun {x y} h => ?_) (List.pairwise_mergeSort (le := fun x y => !(ltOf (cfF key)) y x) ?_ ?_ d)
  · rw [lt_cfF, Bool.not_eq_true'] at h
    exact (heK_le key _ _).1 h
  · intro a b c h1 h2
    rw [lt_cfF, Bool.not_eq_true'] at *
    exact HE.not_of_le (HE.le_trans ((heK_le key _ _).1 h1) ((heK_le key _ _).1 h2))
  · intro a b
    rw [lt_cfF, lt_cfF]
    cases h : (heK key b.val).lt (heK key a.val) with
    | false => rfl
    | true => rw [HE.not_of_le (HE.le_of_lt h)]; rfl
/-- The heap holds what is left of the sorted numbers: its first is the next. -/
theorem first_is {key : Nat → Int} {S : List (Fin (m + 1))} (hS : S.Pairwise (fun x y => (heK key x.val).le (heK key y.val))) {l : List HE} (hI : HeapI l) {i : Nat} (hp : l.Perm ((S.drop i).map (fun x => heK key x.val))) (hi : i < S.length) (h0 : 0 < l.length) : l[0] = heK key S[i].val := by
  have hd : S.drop i = S[i] :: S.drop (i + 1) := List.drop_eq_getElem_cons hi
  rw [hd, List.map_cons] at hp
  refine HE.le_antisymm ?_ ?_
  · have : heK key S[i].val ∈ l := hp.mem_iff.2 (by simp)
    obtain ⟨j, hj, he⟩ := List.mem_iff_getElem.1 this
    rw [← he]
    exact hI.first j hj
  · have h1 : l[0] ∈ heK key S[i].val :: (S.drop (i + 1)).map (fun x => heK key x.val) := hp.mem_iff.1 (List.getElem_mem h0)
    rcases List.mem_cons.1 h1 with h1 | h1
    · rw [h1]; exact HE.le_refl _
    · obtain ⟨y, hy, he⟩ := List.mem_map.1 h1
      rw [← he]
      rw [List.pairwise_iff_getElem] at hS
      obtain ⟨j, hj, rfl⟩ := List.mem_iff_getElem.1 hy
      rw [List.getElem_drop]
      rw [List.length_drop] at hj
      exact hS i (i + 1 + j) hi (by omega) (by omega)
theorem rest_is {key : Nat → Int} {S : List (Fin (m + 1))} {l l' : List HE} {i : Nat} (hp : l.Perm ((S.drop i).map (fun x => heK key x.val))) (hi : i < S.length) {x : HE} (hx : x = heK key S[i].val) (hl : (x :: l').Perm l) : l'.Perm ((S.drop (i + 1)).map (fun x => heK key x.val)) := by
  have hd : S.drop i = S[i] :: S.drop (i + 1) := List.drop_eq_getElem_cons hi
  rw [hd, List.map_cons] at hp
  have := hl.trans hp
  rw [hx] at this
  exact List.Perm.cons_inv this
end Go.Proofs.Ytnehdpjaioljcaa
