/- Plain laws of the law GraceSafe: which calls are done, and which wait. No program in sight. -/
import Derived.Test.YtacmgjjpfdncgaaGraceRun
namespace Go.Proofs.Ytacmgjjpfdncgaa
set_option linter.unusedVariables false
/-- Of 'next' calls, each with what it waits for, l wait still; all others are over. -/
structure GS (next : Nat) (dp tn : Nat → Int) (l : List GCall) (wt : Nat → Nat → Int) : Prop where
  ids : ∀ x ∈ l, ∃ i : Nat, i < next ∧ x = ⟨(i : Int), wt i⟩
  nodup : (l.map GCall.id).Nodup
  len : l.length ≤ next
  le : ∀ i, i < next → ∀ j, j < 4 → 0 ≤ wt i j ∧ wt i j ≤ tn j
  over : ∀ i : Nat, i < next → (i : Int) ∉ l.map GCall.id → ovr dp tn ⟨(i : Int), wt i⟩ = true
theorem GS.start : GS 0 (fun _ => 0) (fun _ => 0) [] (fun _ _ => 0) := ⟨(fun x h => by cases h), List.nodup_nil, Nat.le_refl _, (fun i h => by omega), fun i h => by omega⟩
theorem ovr_iff {dp tn : Nat → Int} {x : GCall} : ovr dp tn x = true ↔ ∀ j, j < 4 → blk1 dp tn x j = false := by
  unfold ovr
  simp only [Bool.not_eq_true', Bool.or_eq_false_iff]
  constructor
  · rintro ⟨⟨⟨h0, h1⟩, h2⟩, h3⟩ j hj
    rcases j with _ | _ | _ | _ | j
    · exact h0
    · exact h1
    · exact h2
    · exact h3
    · omega
  · intro h
    exact ⟨⟨⟨h 0 (by omega), h 1 (by omega)⟩, h 2 (by omega)⟩, h 3 (by omega)⟩
theorem blk1_false {dp tn : Nat → Int} {x : GCall} {j : Nat} : blk1 dp tn x j = false ↔ ¬ (0 < x.wt j ∧ 0 < dp j ∧ tn j = x.wt j) := by
  unfold blk1
  cases h1 : decide (0 < x.wt j) <;> cases h2 : decide (0 < dp j) <;> cases h3 : (tn j == x.wt j) <;> simp_all
theorem GS.enter {next : Nat} {dp tn : Nat → Int} {l : List GCall} {wt : Nat → Nat → Int} (h : GS next dp tn l wt) (i : Nat) (hi : i < 4) (h0 : 0 ≤ dp i) : GS next (enterD dp i) (enterT dp tn i) l wt := by
  refine ⟨h.ids, h.nodup, h.len, fun k hk j hj => ?_, fun k hk hn => ovr_iff.2 (fun j hj => ?_)⟩
  · have := h.le k hk j hj
    unfold enterT
    split
    · unfold upI; split
      · rename_i e; subst e; omega
      · exact this
    · exact this
  · have h1 := (ovr_iff.1 (h.over k hk hn)) j hj
    have h2 := h.le k hk j hj
    rw [blk1_false] at h1 ⊢
    by_cases hji : j = i
    · subst hji
      unfold enterD enterT
      by_cases hz : dp j = 0
      · rw [if_pos hz]
        simp only [upI, if_true]
        show ¬ (0 < wt k j ∧ _ ∧ _)
        have h3 : (GCall.mk (k : Int) (wt k)).wt j = wt k j := rfl
        intro hh
        omega
      · rw [if_neg hz]
        intro hh
        exact h1 ⟨hh.1, by omega, hh.2.2⟩
    · have e1 : enterD dp i j = dp j := by unfold enterD upI; rw [if_neg hji]
      have e2 : enterT dp tn i j = tn j := by
        unfold enterT
        split
        · unfold upI; rw [if_neg hji]
        · rfl
      rw [e1, e2]; exact h1
theorem GS.leave {next : Nat} {dp tn : Nat → Int} {l : List GCall} {wt : Nat → Nat → Int} (h : GS next dp tn l wt) (i : Nat) : GS next (upI dp i (dp i - 1)) tn l wt := by
  refine ⟨h.ids, h.nodup, h.len, h.le, fun k hk hn => ovr_iff.2 (fun j hj => ?_)⟩
  have h1 := (ovr_iff.1 (h.over k hk hn)) j hj
  rw [blk1_false] at h1 ⊢
  intro hh
  refine h1 ⟨hh.1, ?_, hh.2.2⟩
  have := hh.2.1
  unfold upI at this
  split at this
  · rename_i e; subst e; omega
  · exact this
theorem GS.call {next : Nat} {dp tn : Nat → Int} {l : List GCall} {wt : Nat → Nat → Int} (h : GS next dp tn l wt) (ht : ∀ j, j < 4 → 0 ≤ tn j) : GS (next + 1) dp tn (l ++ [⟨(next : Int), waitsFor dp tn⟩]) (fun i => if i = next then waitsFor dp tn else wt i) := by
  refine ⟨fun x hx => ?_, ?_, by simp; exact h.len, fun i hi j hj => ?_, fun i hi hn => ?_⟩
  · rcases List.mem_append.1 hx with h1 | h1
    · obtain ⟨i, hi, e⟩ := h.ids x h1
      exact ⟨i, by omega, by rw [if_neg (by omega)]; exact e⟩
    · exact ⟨next, by omega, by rw [if_pos rfl]; exact List.mem_singleton.1 h1⟩
  · rw [List.map_append]
    refine List.nodup_append.2 ⟨h.nodup, by simp, fun a ha b hb => ?_⟩
    obtain ⟨x, hx, rfl⟩ := List.mem_map.1 ha
    obtain ⟨i, hi, rfl⟩ := h.ids x hx
    simp at hb
    subst hb
    show (i : Int) ≠ next
    omega
  · by_cases hin : i = next
    · rw [if_pos hin]
      have := ht j hj
      unfold waitsFor; split <;> omega
    · rw [if_neg hin]; exact h.le i (by omega) j hj
  · have hin : i ≠ next := fun hh => hn (by subst hh; simp)
    rw [if_neg hin]
    exact h.over i (by omega) (fun hh => hn (by rw [List.map_append]; exact List.mem_append_left _ hh))
theorem GS.run {next : Nat} {dp tn : Nat → Int} {l : List GCall} {wt : Nat → Nat → Int} (h : GS next dp tn l wt) : GS next dp tn (leftOf dp tn l) wt := by
  have hsub : (leftOf dp tn l).Sublist l := List.filter_sublist
  refine ⟨fun x hx => h.ids x (hsub.subset hx), h.nodup.sublist (hsub.map _), Nat.le_trans hsub.length_le h.len, h.le, fun i hi hn => ?_⟩
  by_cases hin : (i : Int) ∈ l.map GCall.id
  · obtain ⟨x, hx, hx2⟩ := List.mem_map.1 hin
    obtain ⟨k, hk, rfl⟩ := h.ids x hx
    have : k = i := by have : (k : Int) = i := hx2; omega
    subst this
    cases ho : ovr dp tn ⟨(k : Int), wt k⟩ with
    | true => rfl
    | false => exact absurd (List.mem_map.2 ⟨_, List.mem_filter.2 ⟨hx, by simp [ho]⟩, rfl⟩) hn
  · exact h.over i hi hin
end Go.Proofs.Ytacmgjjpfdncgaa
