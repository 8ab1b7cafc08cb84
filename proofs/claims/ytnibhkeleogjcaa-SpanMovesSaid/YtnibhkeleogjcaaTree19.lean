/- Two trees beside one another, one of which changes; a turned order. Conditions: few things, small weights. -/
import Derived.Test.YtnibhkeleogjcaaSpanLiesWalk
namespace Go.Proofs.Ytnibhkeleogjcaa
open Go.ChangeShapes Go.WideShapes Go.ChangeAt Go.RowKit
set_option linter.unusedVariables false
/-- Two trees, apart. -/
def MvS (w0 : World) (L : List TE) (pa : Nat) (M : List TE) (pb : Nat) (w : World) : Prop :=
  ∃ Fa Fb, SpAt w Fa pa L ∧ SpAt w Fb pb M ∧ Below w0.heap.size w0 w ∧ (∀ x, Fa x → w0.heap.size ≤ x) ∧ (∀ x, Fb x → w0.heap.size ≤ x) ∧ Dj Fa Fb
theorem SpAt.lt {w : World} {F : Nat → Prop} {p : Nat} {l : List TE} (h : SpAt w F p l) : ∀ x, F x → x < w.heap.size := by
  obtain ⟨t, h, _⟩ := h
  exact h.lt
theorem MvS.drewN {w0 w : World} {L M : List TE} {pa pb : Nat} (h : MvS w0 L pa M pb w) (q : Nat) : MvS w0 L pa M pb (w.drewN q) := by
  obtain ⟨Fa, Fb, h1, h2, h3, h4, h5, h6⟩ := h
  exact ⟨Fa, Fb, h1.chg (H := Nil) ((Chg.refl _ _).drewN q) (fun _ _ h => h), h2.chg (H := Nil) ((Chg.refl _ _).drewN q) (fun _ _ h => h), below_nil h3 ((Chg.refl _ _).drewN q), h4, h5, h6⟩
theorem mv_put {w0 w : World} {L M : List TE} {pa pb : Nat} (h : MvS w0 L pa M pb w) (k i z : Int) (h0 : 0 ≤ z) (h1 : z ≤ 1000000) (hin : ∀ x ∈ M, ¬ x.at k i) (hs : Sm (⟨k, i, z⟩ :: M)) :
    Calls Try.prog 9 #[.pointer (some ⟨pb, 0, none⟩), .int .i64 k, .int .i64 i, .int .i64 z] w fun v w' => v = .returned (.int .i64 0) ∧ MvS w0 L pa (insE ⟨k, i, z⟩ M) pb w' := by
  obtain ⟨Fa, Fb, y1, y2, y3, y4, y5, y6⟩ := h
  refine (put_new w Fb pb M y2 k i z h0 h1 hin hs).mono ?_
  rintro v w' ⟨rfl, F', z1, z2, z3, z4⟩
  refine ⟨rfl, Fa, F', y1.chg z2 y6, z1, below_chg y3 z2 y5, y4, fun x hx => (z4 x hx).elim (y5 x) (fun h => Nat.le_trans y3.size h), fun x ha hb => ?_⟩
  rcases z4 x hb with h | h
  · exact y6 x ha h
  · have := y1.lt x ha; omega
theorem mv_out {w0 w : World} {L M : List TE} {pa pb : Nat} (h : MvS w0 L pa M pb w) (e : TE) (he : e ∈ M) (hs : Sm M) :
    Calls Try.prog 12 #[.pointer (some ⟨pb, 0, none⟩), .int .i64 e.key, .int .i64 e.id] w fun v w' => v = .returned (.tuple #[.int .i64 e.w, .int .i64 0]) ∧ MvS w0 L pa (outE e.key e.id M) pb w' := by
  obtain ⟨Fa, Fb, y1, y2, y3, y4, y5, y6⟩ := h
  refine (out_there w Fb pb M y2 e he hs).mono ?_
  rintro v w' ⟨rfl, z1, z2⟩
  exact ⟨rfl, Fa, Fb, y1.chg z2 y6, z1, below_chg y3 z2 y5, y4, y5, y6⟩
/-- The j-th, turned on by t. -/
def sg (n t j : Nat) : Nat := if j + t < n then j + t else j + t - n
theorem sg_lt {n t j : Nat} (hj : j < n) (ht : t ≤ n) : sg n t j < n := by unfold sg; split <;> omega
theorem sg_inj {n t j i : Nat} (hj : j < n) (hi : i < n) (ht : t ≤ n) (h : sg n t j = sg n t i) : j = i := by unfold sg at h; split at h <;> split at h <;> omega
theorem sg_all {n t i : Nat} (hi : i < n) (ht : t ≤ n) : ∃ j, j < n ∧ sg n t j = i := by
  by_cases h : t ≤ i
  · exact ⟨i - t, by omega, by unfold sg; rw [if_pos (by omega)]; omega⟩
  · exact ⟨i + n - t, by omega, by unfold sg; rw [if_neg (by omega)]; omega⟩
theorem sg_mod {n t j : Nat} (hj : j < n) (ht : t ≤ n) : ((j : Int) + (t : Int)) % (n : Int) = (sg n t j : Int) := by
  have h : (j + t) % n = sg n t j := by
    unfold sg
    split
    · exact Nat.mod_eq_of_lt ‹_›
    · rw [Nat.mod_eq_sub_mod (by omega), Nat.mod_eq_of_lt (by omega)]
  rw [← h]
  push_cast
  rfl
/-- A thing that comes and goes. -/
def fvE (i : Nat) : TE := ⟨500, (i : Int), 7⟩
/-- What is in the other tree, on the way there. -/
def MvU (l : List Int) (n t k : Nat) (M : List TE) : Prop := M.length ≤ 2 * k ∧ ∀ x, x ∈ M ↔ (∃ j, j < k ∧ x = itE l (sg n t j)) ∨ ∃ j, j < k ∧ j % 2 = 0 ∧ x = fvE (sg n t j)
/-- And on the way back. -/
def MvD (l : List Int) (n t k : Nat) (M : List TE) : Prop := M.length ≤ 2 * n ∧ ∀ x, x ∈ M ↔ (∃ j, j < n ∧ x = itE l (sg n t j)) ∨ ∃ j, k ≤ j ∧ j < n ∧ j % 2 = 0 ∧ x = fvE (sg n t j)
theorem MvU.small {l : List Int} {n t k : Nat} {M : List TE} (h : MvU l n t k M) : ∀ x ∈ M, 0 ≤ x.w ∧ x.w ≤ 1000000 := by
  intro x hx
  rcases (h.2 x).1 hx with ⟨j, _, rfl⟩ | ⟨j, _, _, rfl⟩
  · have := itE_w l (sg n t j); omega
  · simp [fvE]
theorem MvD.sm {l : List Int} {n t k : Nat} {M : List TE} (hn : n ≤ 100) (h : MvD l n t k M) : Sm M := by
  refine ⟨by have := h.1; omega, fun x hx => ?_⟩
  rcases (h.2 x).1 hx with ⟨j, _, rfl⟩ | ⟨j, _, _, _, rfl⟩
  · have := itE_w l (sg n t j); omega
  · simp [fvE]
theorem itE_at {l : List Int} {i j : Nat} {k : Int} (h : (itE l i).at k j) : i = j := by
  have : ((i : Nat) : Int) = j := h.2
  omega
theorem itE_500 {l : List Int} {i : Nat} {j : Int} (h : (itE l i).at 500 j) : False := by
  have := itE_key l i
  have h2 : (itE l i).key = 500 := h.1
  omega
theorem fvE_at {i j : Nat} {k : Int} (h : (fvE i).at k j) : i = j ∧ k = 500 := by
  have h1 : (500 : Int) = k := h.1
  have h2 : ((i : Nat) : Int) = j := h.2
  omega
theorem MvU.new1 {l : List Int} {n t k : Nat} {M : List TE} (hk : k < n) (ht : t ≤ n) (h : MvU l n t k M) : ∀ x ∈ M, ¬ x.at 500 (sg n t k) := by
  intro x hx hh
  rcases (h.2 x).1 hx with ⟨j, _, rfl⟩ | ⟨j, hj, _, rfl⟩
  · exact itE_500 hh
  · have := sg_inj (by omega) hk ht (fvE_at hh).1; omega
theorem MvU.new2 {l : List Int} {n t k : Nat} {M : List TE} (hk : k < n) (ht : t ≤ n) (h : MvU l n t k M) : ∀ x ∈ insE (fvE (sg n t k)) M, ¬ x.at (itE l (sg n t k)).key (itE l (sg n t k)).id := by
  intro x hx hh
  rcases List.mem_cons.1 ((insE_perm _ _).mem_iff.1 hx) with rfl | hx
  · have := (fvE_at hh).2
    have := itE_key l (sg n t k); omega
  · rcases (h.2 x).1 hx with ⟨j, hj, rfl⟩ | ⟨j, hj, _, rfl⟩
    · have := sg_inj (by omega) hk ht (itE_at hh); omega
    · have := (fvE_at hh).2
      have := itE_key l (sg n t k); omega
theorem MvU.even {l : List Int} {n t k : Nat} {M : List TE} (he : k % 2 = 0) (h : MvU l n t k M) : MvU l n t (k + 1) (insE (itE l (sg n t k)) (insE (fvE (sg n t k)) M)) := by
  refine ⟨by rw [(insE_perm _ _).length_eq, List.length_cons, (insE_perm _ _).length_eq, List.length_cons]; have := h.1; omega, fun x => ?_⟩
  rw [(insE_perm _ _).mem_iff, List.mem_cons, (insE_perm _ _).mem_iff, List.mem_cons, h.2 x]
  constructor
  · rintro (rfl | rfl | ⟨j, hj, rfl⟩ | ⟨j, hj, h2, rfl⟩)
    · exact .inl ⟨k, by omega, rfl⟩
    · exact .inr ⟨k, by omega, he, rfl⟩
    · exact .inl ⟨j, by omega, rfl⟩
    · exact .inr ⟨j, by omega, h2, rfl⟩
  · rintro (⟨j, hj, rfl⟩ | ⟨j, hj, h2, rfl⟩)
    · by_cases hjk : j = k
      · subst hjk; exact .inl rfl
      · exact .inr (.inr (.inl ⟨j, by omega, rfl⟩))
    · by_cases hjk : j = k
      · subst hjk; exact .inr (.inl rfl)
      · exact .inr (.inr (.inr ⟨j, by omega, h2, rfl⟩))
theorem MvU.odd {l : List Int} {n t k : Nat} {M : List TE} (hk : k < n) (ht : t ≤ n) (he : k % 2 = 1) (h : MvU l n t k M) : MvU l n t (k + 1) (outE 500 (sg n t k) (insE (itE l (sg n t k)) (insE (fvE (sg n t k)) M))) := by
  refine ⟨Nat.le_trans (List.length_filter_le _ _) (by rw [(insE_perm _ _).length_eq, List.length_cons, (insE_perm _ _).length_eq, List.length_cons]; have := h.1; omega), fun x => ?_⟩
  unfold outE
  rw [List.mem_filter, (insE_perm _ _).mem_iff, List.mem_cons, (insE_perm _ _).mem_iff, List.mem_cons, h.2 x]
  constructor
  · rintro ⟨rfl | rfl | ⟨j, hj, rfl⟩ | ⟨j, hj, h2, rfl⟩, hx⟩
    · exact .inl ⟨k, by omega, rfl⟩
    · have : (fvE (sg n t k)).at 500 (sg n t k) := ⟨rfl, rfl⟩
      simp [this] at hx
    · exact .inl ⟨j, by omega, rfl⟩
    · exact .inr ⟨j, by omega, h2, rfl⟩
  · rintro (⟨j, hj, rfl⟩ | ⟨j, hj, h2, rfl⟩)
    · refine ⟨?_, by have : ¬ (itE l (sg n t j)).at 500 (sg n t k) := fun h => itE_500 h
                     simp [this]⟩
      by_cases hjk : j = k
      · subst hjk; exact .inl rfl
      · exact .inr (.inr (.inl ⟨j, by omega, rfl⟩))
    · have hjk : j ≠ k := by omega
      refine ⟨.inr (.inr (.inr ⟨j, by omega, h2, rfl⟩)), ?_⟩
      have : ¬ (fvE (sg n t j)).at 500 (sg n t k) := fun h => by
        have := sg_inj (by omega) hk ht (fvE_at h).1
        omega
      simp [this]
theorem MvU.back {l : List Int} {n t : Nat} {M : List TE} (h : MvU l n t n M) : MvD l n t 0 M := by
  refine ⟨h.1, fun x => ?_⟩
  rw [h.2 x]
  constructor
  · rintro (h | ⟨j, hj, h2, rfl⟩)
    · exact .inl h
    · exact .inr ⟨j, by omega, hj, h2, rfl⟩
  · rintro (h | ⟨j, _, hj, h2, rfl⟩)
    · exact .inl h
    · exact .inr ⟨j, hj, h2, rfl⟩
theorem MvD.skip {l : List Int} {n t k : Nat} {M : List TE} (he : k % 2 = 1) (h : MvD l n t k M) : MvD l n t (k + 1) M := by
  refine ⟨h.1, fun x => ?_⟩
  rw [h.2 x]
  constructor
  · rintro (h | ⟨j, h1, hj, h2, rfl⟩)
    · exact .inl h
    · exact .inr ⟨j, by omega, hj, h2, rfl⟩
  · rintro (h | ⟨j, h1, hj, h2, rfl⟩)
    · exact .inl h
    · exact .inr ⟨j, by omega, hj, h2, rfl⟩
theorem MvD.mem {l : List Int} {n t k : Nat} {M : List TE} (hk : k < n) (he : k % 2 = 0) (h : MvD l n t k M) : fvE (sg n t k) ∈ M := (h.2 _).2 (.inr ⟨k, by omega, hk, he, rfl⟩)
theorem MvD.out {l : List Int} {n t k : Nat} {M : List TE} (hk : k < n) (ht : t ≤ n) (he : k % 2 = 0) (h : MvD l n t k M) : MvD l n t (k + 1) (outE 500 (sg n t k) M) := by
  refine ⟨Nat.le_trans (List.length_filter_le _ _) h.1, fun x => ?_⟩
  unfold outE
  rw [List.mem_filter, h.2 x]
  constructor
  · rintro ⟨⟨j, hj, rfl⟩ | ⟨j, h1, hj, h2, rfl⟩, hx⟩
    · exact .inl ⟨j, by omega, rfl⟩
    · by_cases hjk : j = k
      · subst hjk
        have : (fvE (sg n t j)).at 500 (sg n t j) := ⟨rfl, rfl⟩
        simp [this] at hx
      · exact .inr ⟨j, by omega, hj, h2, rfl⟩
  · rintro (⟨j, hj, rfl⟩ | ⟨j, h1, hj, h2, rfl⟩)
    · refine ⟨.inl ⟨j, hj, rfl⟩, by have : ¬ (itE l (sg n t j)).at 500 (sg n t k) := fun h => itE_500 h
                                    simp [this]⟩
    · refine ⟨.inr ⟨j, by omega, hj, h2, rfl⟩, ?_⟩
      have : ¬ (fvE (sg n t j)).at 500 (sg n t k) := fun h => by
        have := sg_inj hj hk ht (fvE_at h).1
        omega
      simp [this]
theorem MvD.end {l : List Int} {n t : Nat} {M : List TE} (ht : t ≤ n) (h : MvD l n t n M) (hs : Srt M) (hl : Srt (trK l n)) : M = trK l n := by
  refine srt_eq hs hl (fun x => ?_)
  rw [h.2 x, trK_mem]
  constructor
  · rintro (⟨j, hj, rfl⟩ | ⟨j, h1, hj, _⟩)
    · exact ⟨sg n t j, sg_lt hj ht, rfl⟩
    · omega
  · rintro ⟨i, hi, rfl⟩
    obtain ⟨j, hj, rfl⟩ := sg_all hi ht
    exact .inl ⟨j, hj, rfl⟩
end Go.Proofs.Ytnibhkeleogjcaa
