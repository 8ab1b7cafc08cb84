/- The heap apart from whatever else is there; the row of numbers of the law HeapSorts. Conditions: at most 900 stand in the heap. -/
import Derived.Test.YtnehdpjaioljcaaSorts3
import Derived.Test.YtnehdpjaioljcaaHeapOut
import Derived.Test.YtnehdpjaioljcaaHeapPush
namespace Go.Proofs.Ytnehdpjaioljcaa
open Go.ChangeShapes Go.WideShapes Go.ChangeAt Go.RowKit
set_option linter.unusedVariables false
def HpX (w0 : World) (gs : List Nat) (p : Nat) (l : List HE) (w : World) : Prop := ∃ F, HpAt w F p l ∧ HeapI l ∧ (∀ k, F k → w0.heap.size ≤ k) ∧ Below w0.heap.size w0 w ∧ ∀ g ∈ gs, ¬ F g ∧ g < w.heap.size ∧ w0.heap.size ≤ g
def KeepB (gs : List Nat) (w w' : World) : Prop := ∃ F, Chg F w w' ∧ ∀ g ∈ gs, ¬ F g ∧ g < w.heap.size
section
variable {w0 w w' : World} {gs : List Nat} {p : Nat} {l : List HE}
theorem HpX.bel (h : HpX w0 gs p l w) : Below w0.heap.size w0 w := by
  obtain ⟨F, _, _, _, h, _⟩ := h
  exact h
theorem HpX.hi (h : HpX w0 gs p l w) : HeapI l := by
  obtain ⟨F, _, h, _⟩ := h
  exact h
theorem HpX.same {K : Nat → Prop} (h : HpX w0 gs p l w) (hc : Chg K w w') (hK : ∀ k, K k → k ∈ gs) : HpX w0 gs p l w' := by
  obtain ⟨F, k1, ki, k2, k3, k4⟩ := h
  refine ⟨F, k1.chg hc (fun k hF hk => (k4 k (hK k hk)).1 hF), ki, k2, below_chg k3 hc (fun k hk => (k4 k (hK k hk)).2.2), fun g' hg' => ?_⟩
  obtain ⟨a1, a2, a3⟩ := k4 g' hg'
  exact ⟨a1, Nat.lt_of_lt_of_le a2 hc.size, a3⟩
theorem HpX.nil (h : HpX w0 gs p l w) (hc : Chg Nil w w') : HpX w0 gs p l w' := h.same hc (fun _ h => h.elim)
theorem HpX.alloc (h : HpX w0 gs p l w) (o : Obj) : HpX w0 (w.heap.size :: gs) p l (w.alloc o) := by
  obtain ⟨F, h1, hi, h2, h3, h4⟩ := h
  obtain ⟨a1, c1, G1, a2, c2, G2, m, hA⟩ := id h1
  have hlt : ∀ k, F k → k < w.heap.size := hA.lt
  refine ⟨F, h1.chg (H := Nil) ((Chg.refl _ _).alloc o) (fun _ _ h => h), hi, h2, below_nil h3 ((Chg.refl _ _).alloc o), fun g hg => ?_⟩
  rcases List.mem_cons.1 hg with rfl | hg
  · exact ⟨fun hF => by have := hlt _ hF; omega, by simp, h3.size⟩
  · obtain ⟨a1, a2, a3⟩ := h4 g hg
    exact ⟨a1, by simp; omega, a3⟩
theorem hx_new (hb : Below w0.heap.size w0 w) (hg : ∀ g ∈ gs, g < w.heap.size ∧ w0.heap.size ≤ g) : Calls Try.prog 4 #[] w fun e w' => ∃ p, e = .returned (.pointer (some ⟨p, 0, none⟩)) ∧ HpX w0 gs p [] w' ∧ Chg Nil w w' := by
  refine (hnew_ok w).mono ?_
  rintro e w' ⟨F, p, rfl, k1, k2, k3⟩
  refine ⟨p, rfl, ⟨F, k1, heapI_nil, fun k hk => (k3 k hk).elim (fun h => h.elim) (fun h => Nat.le_trans hb.size h), below_nil hb k2, fun g h => ?_⟩, k2⟩
  obtain ⟨a1, a2⟩ := hg g h
  exact ⟨fun hF => (k3 g hF).elim (fun h => h.elim) (fun h => by omega), Nat.lt_of_lt_of_le a1 k2.size, a2⟩
theorem hx_push (h : HpX w0 gs p l w) (hl : l.length < 900) (t k : Int) (ht : t ∉ l.map HE.id) (w1 : -9223372036854775808 ≤ t) (w2 : t ≤ 9223372036854775807) :
    Calls Try.prog 5 #[.pointer (some ⟨p, 0, none⟩), .int .i64 t, .int .i64 k] w fun e w' => e = .returned (.int .i64 0) ∧ ∃ l', HpX w0 gs p l' w' ∧ l'.Perm (l ++ [⟨t, k⟩]) ∧ KeepB gs w w' := by
  obtain ⟨F, h1, hi, h2, h3, h4⟩ := h
  refine (push_ok w F p l t k h1 (by omega) hi ht w1 w2).mono ?_
  rintro e w' ⟨rfl, F', l', k1, k2, k3, k4, k5⟩
  refine ⟨rfl, l', ⟨F', k1, k3, fun k hk => (k5 k hk).elim (h2 k) (fun h => Nat.le_trans h3.size h), below_chg h3 k4 h2, fun g hg => ?_⟩, k2, F, k4, fun g hg => ⟨(h4 g hg).1, (h4 g hg).2.1⟩⟩
  obtain ⟨a1, a2, a3⟩ := h4 g hg
  exact ⟨fun hF => (k5 g hF).elim a1 (fun h => by omega), Nat.lt_of_lt_of_le a2 k4.size, a3⟩
theorem hx_pop (h : HpX w0 gs p l w) (hl : l.length ≤ 900) (h0 : 0 < l.length) :
    Calls Try.prog 6 #[.pointer (some ⟨p, 0, none⟩)] w fun e w' => e = .returned (.tuple #[.int .i64 l[0].id, .int .i64 l[0].key, .int .i64 0]) ∧ ∃ l', HpX w0 gs p l' w' ∧ (l[0] :: l').Perm l ∧ KeepB gs w w' := by
  obtain ⟨F, h1, hi, h2, h3, h4⟩ := h
  refine (pop_ok w F p l h1 (by omega) hi h0).mono ?_
  rintro e w' ⟨rfl, l', k1, k2, k3, k4⟩
  refine ⟨rfl, l', ⟨F, k1, k3, h2, below_chg h3 k4 h2, fun g hg => ?_⟩, k2, F, k4, fun g hg => ⟨(h4 g hg).1, (h4 g hg).2.1⟩⟩
  obtain ⟨a1, a2, a3⟩ := h4 g hg
  exact ⟨a1, Nat.lt_of_lt_of_le a2 k4.size, a3⟩
theorem hx_len (h : HpX w0 gs p l w) :
    Calls Try.prog 12 #[.pointer (some ⟨p, 0, none⟩)] w fun e w' => e = .returned (.int .i64 (l.length : Int)) ∧ w' = w := by
  obtain ⟨F, h1, _⟩ := h
  exact (hlen_ok w F p l h1).mono (by rintro e w' ⟨rfl, rfl⟩; exact ⟨rfl, rfl⟩)
theorem KeepB.blk {t : TypeId} {cs : List Value} {g : Nat} (h : KeepB gs w w') (hg : g ∈ gs) (hb : Blk w g t cs) : Blk w' g t cs := by
  obtain ⟨F, h1, h2⟩ := h
  exact hb.chg h1 (h2 g hg).1
end
/-- The numbers, begun somewhere. -/
def rotD (m r : Nat) : List (Fin (m + 1)) := (List.range (m + 1)).map (fun j => ⟨(j + r) % (m + 1), Nat.mod_lt _ (by omega)⟩)
theorem rotD_len (m r : Nat) : (rotD m r).length = m + 1 := by unfold rotD; rw [List.length_map, List.length_range]
theorem rotD_get (m r : Nat) {j : Nat} (h : j < m + 1) : (rotD m r)[j]? = some ⟨(j + r) % (m + 1), Nat.mod_lt _ (by omega)⟩ := by
  unfold rotD
  rw [List.getElem?_map, List.getElem?_range h]
  rfl
theorem mod_inj {m r i j : Nat} (hi : i < m + 1) (hj : j < m + 1) (h : (i + r) % (m + 1) = (j + r) % (m + 1)) : i = j := by
  have h1 := Nat.div_add_mod (i + r) (m + 1)
  have h2 := Nat.div_add_mod (j + r) (m + 1)
  rw [h] at h1
  have h3 : (m + 1) * ((i + r) / (m + 1)) + j = (m + 1) * ((j + r) / (m + 1)) + i := by omega
  rcases Nat.lt_trichotomy ((i + r) / (m + 1)) ((j + r) / (m + 1)) with hh | hh | hh
  · have := Nat.mul_le_mul_left (m + 1) hh
    rw [Nat.succ_eq_add_one, Nat.mul_add, Nat.mul_one] at this
    omega
  · rw [hh] at h3; omega
  · have := Nat.mul_le_mul_left (m + 1) hh
    rw [Nat.succ_eq_add_one, Nat.mul_add, Nat.mul_one] at this
    omega
theorem rotD_no {m r i : Nat} (key : Nat → Int) {l : List HE} (hi : i < m + 1) (hp : l.Perm (((rotD m r).take i).map (fun x => heK key x.val))) : (((i + r) % (m + 1) : Nat) : Int) ∉ l.map HE.id := by
  intro hh
  obtain ⟨x, hx, he⟩ := List.mem_map.1 hh
  obtain ⟨y, hy, hye⟩ := List.mem_map.1 (hp.mem_iff.1 hx)
  obtain ⟨j, hj, hyj⟩ := List.mem_iff_getElem.1 hy
  have hj2 : j < i := by have h0 := hj; rw [List.length_take] at h0; omega
  rw [List.getElem_take] at hyj
  have h1 : (rotD m r)[j]? = some y := by rw [← hyj, List.getElem?_eq_getElem]
  rw [rotD_get m r (by omega)] at h1
  injection h1 with h1
  have h2 : x.id = (((j + r) % (m + 1) : Nat) : Int) := by rw [← hye, ← h1]; rfl
  rw [h2] at he
  have he2 : (j + r) % (m + 1) = (i + r) % (m + 1) := by exact_mod_cast he
  have := mod_inj (m := m) (r := r) (by omega) hi he2
  omega
/-- The row of numbers on the way. -/
def idsD (m r i : Nat) : List Value := ((rotD m r).take i).map (encF m) ++ List.replicate (m + 1 - i) (.int .i64 0)
theorem idsD_len {m r i : Nat} (h : i ≤ m + 1) : (idsD m r i).length = m + 1 := by
  unfold idsD
  rw [List.length_append, List.length_map, List.length_take, rotD_len, List.length_replicate]
  omega
theorem idsD_set {m r i : Nat} (h : i < m + 1) : (idsD m r i).set i (.int .i64 (((i + r) % (m + 1) : Nat) : Int)) = idsD m r (i + 1) := by
  have hl : (((rotD m r).take i).map (encF m)).length = i := by rw [List.length_map, List.length_take, rotD_len]; omega
  have hg : i < (rotD m r).length := by rw [rotD_len]; exact h
  unfold idsD
  rw [List.set_append_right _ _ (by omega), hl, Nat.sub_self, show m + 1 - i = (m + 1 - (i + 1)) + 1 by omega, List.replicate_succ, List.set_cons_zero, List.take_succ_eq_append_getElem hg, List.map_append, List.append_assoc]
  have h1 := rotD_get m r h
  rw [List.getElem?_eq_getElem hg] at h1
  injection h1 with h1
  rw [h1]
  rfl
theorem idsD_all (m r : Nat) : idsD m r (m + 1) = (rotD m r).map (encF m) := by
  unfold idsD
  rw [List.take_of_length_le (by rw [rotD_len]; exact Nat.le_refl _), Nat.sub_self, List.replicate_zero, List.append_nil]
theorem rotD_step {m r i : Nat} (key : Nat → Int) {l l' : List HE} (hi : i < m + 1) (hp : l.Perm (((rotD m r).take i).map (fun x => heK key x.val))) (hl : l'.Perm (l ++ [⟨(((i + r) % (m + 1) : Nat) : Int), key ((i + r) % (m + 1))⟩])) : l'.Perm (((rotD m r).take (i + 1)).map (fun x => heK key x.val)) := by
  have hg : i < (rotD m r).length := by rw [rotD_len]; exact hi
  have h1 := rotD_get m r hi
  rw [List.getElem?_eq_getElem hg] at h1
  injection h1 with h1
  rw [List.take_succ_eq_append_getElem hg, List.map_append, h1]
  exact hl.trans (hp.append_right _)
end Go.Proofs.Ytnehdpjaioljcaa
