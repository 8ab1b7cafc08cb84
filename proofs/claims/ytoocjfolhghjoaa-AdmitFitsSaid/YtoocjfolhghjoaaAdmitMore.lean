/- Concat of two lists of uses; plain facts on what fits. No condition. -/
import Derived.Test.YtoocjfolhghjoaaSets
import Derived.Test.YtoocjfolhghjoaaMem2
namespace Go.Proofs.Ytoocjfolhghjoaa
open Go.ChangeShapes Go.WideShapes Go.ChangeAt Go.RowKit
set_option linter.unusedVariables false
theorem cat2 (R R1 R2 : Nat → Prop) (a A1 A2 : Option Addr) (n1 c1 n2 c2 : Nat) (l1 l2 : List Use) (w : World) (hb : Rd w R 1 a 2 2 [.slice A1 n1 c1, .slice A2 n2 c2]) (h1 : Rd w R1 2 A1 n1 c1 (l1.flatMap useCells)) (h2 : Rd w R2 2 A2 n2 c2 (l2.flatMap useCells)) (hn : n1 + n2 ≤ 1000) :
    Calls Try.prog 18 #[.slice a 2 2] w fun e w' => ∃ a' c' G, e = .returned (.slice a' (n1 + n2) c') ∧ Sl w' 35 2 a' (n1 + n2) c' ((l1 ++ l2).flatMap useCells) G ∧ Chg Nil w w' ∧ ∀ g, G = some g → w.heap.size ≤ g := by
  have hp : partsLen [⟨A1, n1, c1, l1.flatMap useCells⟩, ⟨A2, n2, c2, l2.flatMap useCells⟩] = n1 + n2 := by simp [partsLen]
  have hc : partsCells [⟨A1, n1, c1, l1.flatMap useCells⟩, ⟨A2, n2, c2, l2.flatMap useCells⟩] = (l1 ++ l2).flatMap useCells := by simp [partsCells]
  refine (concat_use (fun _ => True) R a 2 2 [⟨A1, n1, c1, l1.flatMap useCells⟩, ⟨A2, n2, c2, l2.flatMap useCells⟩] w hb ?_ (by decide) (by rw [hp]; omega)).mono ?_
  · intro p hp
    simp only [List.mem_cons, List.not_mem_nil, or_false] at hp
    rcases hp with rfl | rfl
    · exact ⟨h1.mono fun _ _ => trivial, flat_one useCells use_one l1⟩
    · exact ⟨h2.mono fun _ _ => trivial, flat_one useCells use_one l2⟩
  · rintro e w' ⟨a', c', G, rfl, q1, q2, q3⟩
    rw [hp, hc] at q1
    rw [hp]
    exact ⟨a', c', G, rfl, q1, q2, q3⟩
theorem fit_one (u : Use) (h : u.ok) : fit [u] 1 := by
  refine (fit_at (D := u.p) (fun v hv => by rw [List.mem_singleton.1 hv]; exact Nat.dvd_refl _) (by unfold Use.ok at h; omega)).2 ?_
  have h1 := h.1
  have h2 := h.2.1
  simp only [dem, List.map_cons, List.map_nil, List.sum_cons, List.sum_nil]
  rw [Nat.div_self (by omega)]
  omega
theorem dem_cut (D : Nat) (l : List Use) (i : Nat) : dem D (l.take i ++ l.drop (i + 1)) ≤ dem D l := by
  have h0 : dem D l = dem D (l.take i) + dem D (l.drop i) := by rw [← dem_append, List.take_append_drop]
  rw [dem_append, h0]
  refine Nat.add_le_add_left ?_ _
  rw [← List.drop_drop]
  cases hd : l.drop i with
  | nil => simp [dem]
  | cons v r => simp [dem]
/-- With one less it still fits. -/
theorem fit_less (l : List Use) (hok : ∀ u ∈ l, u.ok) (i m : Nat) (h : fit l m) : fit (l.take i ++ l.drop (i + 1)) m := by
  have hs : ∀ u ∈ l.take i ++ l.drop (i + 1), u ∈ l := fun u hu => by
    rcases List.mem_append.1 hu with h | h
    · exact List.mem_of_mem_take h
    · exact List.mem_of_mem_drop h
  refine (fit_at (D := rnd l) (fun u hu => mem_rnd (hs u hu)) (rnd_pos hok)).2 ?_
  exact Nat.le_trans (dem_cut (rnd l) l i) h
theorem cut_ok {l : List Use} (hok : ∀ u ∈ l, u.ok) (i : Nat) : ∀ u ∈ l.take i ++ l.drop (i + 1), u.ok := fun u hu => by
  rcases List.mem_append.1 hu with h | h
  · exact hok u (List.mem_of_mem_take h)
  · exact hok u (List.mem_of_mem_drop h)
end Go.Proofs.Ytoocjfolhghjoaa
