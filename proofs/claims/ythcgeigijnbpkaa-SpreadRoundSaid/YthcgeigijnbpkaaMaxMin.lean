/- Contracts of slices.Max and slices.Min at rows of numbers. Condition: the row is not empty. -/
import Derived.Test.YthcgeigijnbpkaaSlices
namespace Go.Proofs.Ythcgeigijnbpkaa
open Go.ChangeShapes Go.WideShapes Go.ChangeAt Go.RowKit
set_option linter.unusedVariables false
def IsMax (l : List Int) (m : Int) : Prop := m ∈ l ∧ ∀ x ∈ l, x ≤ m
def IsMin (l : List Int) (m : Int) : Prop := m ∈ l ∧ ∀ x ∈ l, m ≤ x
def PMax (l : List Int) (w : World) (e : Ending) (w' : World) : Prop := ∃ m, IsMax l m ∧ e = .returned (.int .i64 m) ∧ w = w'
def PMin (l : List Int) (w : World) (e : Ending) (w' : World) : Prop := ∃ m, IsMin l m ∧ e = .returned (.int .i64 m) ∧ w = w'
theorem max_step {l : List Int} {k : Nat} {m : Int} (h : IsMax (l.take k) m) (hk : k < l.length) : (m < l[k] → IsMax (l.take (k + 1)) l[k]) ∧ (¬ m < l[k] → IsMax (l.take (k + 1)) m) := by
  rw [List.take_succ_eq_append_getElem hk]
  refine ⟨fun hlt => ⟨List.mem_append_right _ (List.mem_singleton.2 rfl), fun x hx => ?_⟩, fun hlt => ⟨by rw [List.mem_append]; exact .inl h.1, fun x hx => ?_⟩⟩
  · rcases List.mem_append.1 hx with hx | hx
    · have := h.2 x hx; omega
    · rw [List.mem_singleton.1 hx]; exact Int.le_refl _
  · rcases List.mem_append.1 hx with hx | hx
    · exact h.2 x hx
    · rw [List.mem_singleton.1 hx]; omega
theorem min_step {l : List Int} {k : Nat} {m : Int} (h : IsMin (l.take k) m) (hk : k < l.length) : (l[k] < m → IsMin (l.take (k + 1)) l[k]) ∧ (¬ l[k] < m → IsMin (l.take (k + 1)) m) := by
  rw [List.take_succ_eq_append_getElem hk]
  refine ⟨fun hlt => ⟨List.mem_append_right _ (List.mem_singleton.2 rfl), fun x hx => ?_⟩, fun hlt => ⟨by rw [List.mem_append]; exact .inl h.1, fun x hx => ?_⟩⟩
  · rcases List.mem_append.1 hx with hx | hx
    · have := h.2 x hx; omega
    · rw [List.mem_singleton.1 hx]; exact Int.le_refl _
  · rcases List.mem_append.1 hx with hx | hx
    · exact h.2 x hx
    · rw [List.mem_singleton.1 hx]; omega
theorem max_int (R : Nat → Prop) (a : Option Addr) (n c : Nat) (l : List Int) (w : World) (h : Rd w R 1 a n c (ints .i64 l)) (h0 : 0 < n) (hn : n ≤ 4294967296) :
    Calls Try.prog 19 #[.slice a n c] w (PMax l w) := by
  obtain rfl := h.ilen
  have H := hid h
  obtain ⟨g, off, rfl, _, _, hc⟩ := h.at h0
  have hc0 := hc 0 h0
  have I0 : Hid (IsMax (l.take 1) l[0]) := hid (by
    rw [List.take_succ_eq_append_getElem h0]
    exact ⟨by simp, fun x hx => by simp at hx; omega⟩)
  have hn1 : ¬ (l.length : Int) < 1 := by omega
  clear h hc
  obtain ⟨m0, hm0⟩ : ∃ m0, m0 = l[0] := ⟨_, rfl⟩
  rw [← hm0] at hc0 I0
  rw [Nat.add_zero] at hc0
  clear hm0
  go_enter Try.func19, Try.ntmps19
  go_wp2
  go_loop [3, 4] (fun s3 s4 => ∃ (k : Nat) (m : Int), k + 1 ≤ l.length ∧ s4 = .int .i64 ((k : Int) + 1) ∧ s3 = .int .i64 m ∧ Hid (IsMax (l.take (k + 1)) m)) (fun _ s4 => l.length - (intOf s4).toNat)
  case atStart => exact ⟨0, m0, by omega, rfl, rfl, I0⟩
  case round =>
    obtain ⟨k, m, hk, rfl, rfl, hJ⟩ := hrel
    by_cases hlt : k + 1 < l.length
    · obtain ⟨g', off', hg, _, _, hc⟩ := H.out.at hlt
      have hc1 := hc (k + 1) hlt
      injection hg with hg
      injection hg with hg1 hg2
      subst hg1; subst hg2
      clear hc
      have MS := max_step hJ.out hlt
      have i1 : (k : Int) + 1 < (l.length : Int) := by omega
      have hto : ((k : Int) + 1).toNat = k + 1 := by omega
      generalize l[k + 1] = x at hc1 MS
      by_cases hx : m < x
      · have M2 := hid (MS.1 hx)
        clear MS
        go_wp2
        go_round
        case rel => exact ⟨k + 1, x, by omega, by go_num, rfl, M2⟩
        case measure => simp [intOf]; omega
      · have M2 := hid (MS.2 hx)
        clear MS
        go_wp2
        go_round
        case rel => exact ⟨k + 1, m, by omega, by go_num, rfl, M2⟩
        case measure => simp [intOf]; omega
    · have e : l.take (k + 1) = l := List.take_of_length_le (by omega)
      have M2 : Hid (IsMax l m) := hid (by rw [← e]; exact hJ.out)
      clear e
      go_wp2
      go_ret
      exact ⟨m, M2.out, rfl, rfl⟩
theorem min_int (R : Nat → Prop) (a : Option Addr) (n c : Nat) (l : List Int) (w : World) (h : Rd w R 1 a n c (ints .i64 l)) (h0 : 0 < n) (hn : n ≤ 4294967296) :
    Calls Try.prog 20 #[.slice a n c] w (PMin l w) := by
  obtain rfl := h.ilen
  have H := hid h
  obtain ⟨g, off, rfl, _, _, hc⟩ := h.at h0
  have hc0 := hc 0 h0
  have I0 : Hid (IsMin (l.take 1) l[0]) := hid (by
    rw [List.take_succ_eq_append_getElem h0]
    exact ⟨by simp, fun x hx => by simp at hx; omega⟩)
  have hn1 : ¬ (l.length : Int) < 1 := by omega
  clear h hc
  obtain ⟨m0, hm0⟩ : ∃ m0, m0 = l[0] := ⟨_, rfl⟩
  rw [← hm0] at hc0 I0
  rw [Nat.add_zero] at hc0
  clear hm0
  go_enter Try.func20, Try.ntmps20
  go_wp2
  go_loop [3, 4] (fun s3 s4 => ∃ (k : Nat) (m : Int), k + 1 ≤ l.length ∧ s4 = .int .i64 ((k : Int) + 1) ∧ s3 = .int .i64 m ∧ Hid (IsMin (l.take (k + 1)) m)) (fun _ s4 => l.length - (intOf s4).toNat)
  case atStart => exact ⟨0, m0, by omega, rfl, rfl, I0⟩
  case round =>
    obtain ⟨k, m, hk, rfl, rfl, hJ⟩ := hrel
    by_cases hlt : k + 1 < l.length
    · obtain ⟨g', off', hg, _, _, hc⟩ := H.out.at hlt
      have hc1 := hc (k + 1) hlt
      injection hg with hg
      injection hg with hg1 hg2
      subst hg1; subst hg2
      clear hc
      have MS := min_step hJ.out hlt
      have i1 : (k : Int) + 1 < (l.length : Int) := by omega
      have hto : ((k : Int) + 1).toNat = k + 1 := by omega
      generalize l[k + 1] = x at hc1 MS
      by_cases hx : x < m
      · have M2 := hid (MS.1 hx)
        clear MS
        go_wp2
        go_round
        case rel => exact ⟨k + 1, x, by omega, by go_num, rfl, M2⟩
        case measure => simp [intOf]; omega
      · have M2 := hid (MS.2 hx)
        clear MS
        go_wp2
        go_round
        case rel => exact ⟨k + 1, m, by omega, by go_num, rfl, M2⟩
        case measure => simp [intOf]; omega
    · have e : l.take (k + 1) = l := List.take_of_length_le (by omega)
      have M2 : Hid (IsMin l m) := hid (by rw [← e]; exact hJ.out)
      clear e
      go_wp2
      go_ret
      exact ⟨m, M2.out, rfl, rfl⟩
end Go.Proofs.Ythcgeigijnbpkaa
