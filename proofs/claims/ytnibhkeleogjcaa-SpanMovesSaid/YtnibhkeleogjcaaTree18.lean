/- Plain facts on lists of things in order: the next one, what is ahead, in which a number lies, putting and taking out. No condition. -/
import Derived.Test.YtnibhkeleogjcaaTree17
namespace Go.Proofs.Ytnibhkeleogjcaa
set_option linter.unusedVariables false
theorem TE.not_both {x : TE} {k i : Int} (h : x.before k i) : ¬ x.behind k i := by unfold TE.before TE.behind at *; omega
theorem ahead_mid {x : TE} {l r : List TE} (h : Srt (l ++ x :: r)) : aheadW x.key x.id (l ++ x :: r) = sumW l := by
  obtain ⟨h1, h2, h3, h4⟩ := h.mid
  rw [ahead_left (by unfold TE.before; omega) (fun y hy hh => by have := h4 y hy; unfold TE.before at *; omega)]
  unfold aheadW
  rw [List.filter_eq_self.2 (by simpa using h3)]
theorem next_mid {x : TE} {l r : List TE} (h : Srt (l ++ x :: r)) : nextE x.key x.id (l ++ x :: r) = r.head? := by
  obtain ⟨h1, h2, h3, h4⟩ := h.mid
  rw [nextE_right (by unfold TE.behind; omega) (fun y hy => TE.not_both (h3 y hy))]
  cases r with
  | nil => rfl
  | cons y r =>
    have := h4 y (by simp)
    have hb : y.behind x.key x.id := by unfold TE.before TE.behind at *; omega
    simp [nextE, hb]
theorem split_at {L : List TE} {i : Nat} (hi : i < L.length) : L = L.take i ++ L[i] :: L.drop (i + 1) := by
  rw [List.getElem_cons_drop, List.take_append_drop]
theorem ahead_at {L : List TE} {i : Nat} (h : Srt L) (hi : i < L.length) : aheadW L[i].key L[i].id L = sumW (L.take i) := by
  have e := split_at hi
  have h2 := ahead_mid (x := L[i]) (l := L.take i) (r := L.drop (i + 1)) (by rw [← e]; exact h)
  rwa [← e] at h2
theorem next_at {L : List TE} {i : Nat} (h : Srt L) (hi : i < L.length) : nextE L[i].key L[i].id L = L[i + 1]? := by
  have e := split_at hi
  have h2 := next_mid (x := L[i]) (l := L.take i) (r := L.drop (i + 1)) (by rw [← e]; exact h)
  rw [← e] at h2
  rw [h2, List.head?_drop]
theorem srt_get {L : List TE} {i : Nat} (h : Srt L) (hi : i + 1 < L.length) : L[i].before L[i + 1].key L[i + 1].id := List.pairwise_iff_getElem.1 h i (i + 1) (by omega) hi (by omega)
theorem inE_some {n : Int} {L : List TE} (hw : ∀ x ∈ L, 0 ≤ x.w) (h0 : 0 ≤ n) (h : n < sumW L) : ∃ l x r, L = l ++ x :: r ∧ inE n L = some x ∧ sumW l ≤ n ∧ n < sumW l + x.w := by
  induction L generalizing n with
  | nil => simp [sumW] at h; omega
  | cons y L ih =>
    rw [sumW_cons] at h
    by_cases hy : n < y.w
    · exact ⟨[], y, L, rfl, by simp [inE, hy], by simp [sumW]; omega, by simp [sumW]; omega⟩
    · obtain ⟨l, x, r, h1, h2, h3, h4⟩ := ih (n := n - y.w) (fun x hx => hw x (List.mem_cons_of_mem _ hx)) (by omega) (by omega)
      refine ⟨y :: l, x, r, by rw [h1]; rfl, ?_, by rw [sumW_cons]; omega, by rw [sumW_cons]; omega⟩
      rw [show inE n (y :: L) = if n < y.w then some y else inE (n - y.w) L from rfl, if_neg hy, h2]
theorem ahead_perm {k i : Int} {l m : List TE} (h : l.Perm m) : aheadW k i l = aheadW k i m := sumW_perm (h.filter _)
theorem ahead_ins (e : TE) (k i : Int) (L : List TE) : aheadW k i (insE e L) = aheadW k i L + if e.before k i then e.w else 0 := by
  rw [ahead_perm (insE_perm e L)]
  unfold aheadW
  rw [List.filter_cons]
  by_cases h : e.before k i
  · simp only [h, decide_true, if_true, sumW_cons]; omega
  · simp [h]
theorem sum_ins (e : TE) (L : List TE) : sumW (insE e L) = sumW L + e.w := by
  rw [sumW_perm (insE_perm e L), sumW_cons]; omega
theorem out_ins {e : TE} {L : List TE} (h : ∀ y ∈ L, ¬ y.at e.key e.id) : outE e.key e.id (insE e L) = L := by
  induction L with
  | nil => exact outE_at ⟨rfl, rfl⟩ _
  | cons y L ih =>
    unfold insE
    split
    · rw [outE_at ⟨rfl, rfl⟩, outE_none h]
    · rw [outE_not (h y (by simp)), ih (fun z hz => h z (List.mem_cons_of_mem _ hz))]
theorem srt_eq {L M : List TE} (hl : Srt L) (hm : Srt M) (h : ∀ x, x ∈ L ↔ x ∈ M) : L = M := by
  induction L generalizing M with
  | nil =>
    cases M with
    | nil => rfl
    | cons y M => exact absurd ((h y).2 (by simp)) (by simp)
  | cons x L ih =>
    cases M with
    | nil => exact absurd ((h x).1 (by simp)) (by simp)
    | cons y M =>
      unfold Srt at hl hm
      rw [List.pairwise_cons] at hl hm
      have hxy : x = y := by
        rcases List.mem_cons.1 ((h x).1 (by simp)) with rfl | hx
        · rfl
        · rcases List.mem_cons.1 ((h y).2 (by simp)) with rfl | hy
          · rfl
          · have a := hl.1 y hy
            have b := hm.1 x hx
            unfold TE.before at *; omega
      subst hxy
      congr 1
      refine ih hl.2 hm.2 (fun z => ?_)
      have irr : ∀ N : List TE, (∀ a ∈ N, x.before a.key a.id) → x ∉ N := fun N hN hx => by have := hN x hx; unfold TE.before at this; omega
      constructor
      · intro hz
        rcases List.mem_cons.1 ((h z).1 (List.mem_cons_of_mem _ hz)) with rfl | hz'
        · exact absurd hz (irr _ hl.1)
        · exact hz'
      · intro hz
        rcases List.mem_cons.1 ((h z).2 (List.mem_cons_of_mem _ hz)) with rfl | hz'
        · exact absurd hz (irr _ hm.1)
        · exact hz'
end Go.Proofs.Ytnibhkeleogjcaa
