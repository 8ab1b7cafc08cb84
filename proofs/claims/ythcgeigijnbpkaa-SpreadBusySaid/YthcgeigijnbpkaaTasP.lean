/- Who is told to be there, and ready: what is noted. No program in sight; no condition. -/
import Derived.Test.YthcgeigijnbpkaaPlayT
namespace Go.Proofs.Ythcgeigijnbpkaa
set_option linter.unusedVariables false
theorem pl_fnd {c : Nat} {M : Int} {s : SR} {o : Note} (h : PlS c M s o) {t : Nat} (t1 : 1 ≤ t) (t2 : t ≤ 16) : (fndI s.ts (t : Int)).isSome = o.is t := by
  rcases pl_who h t1 t2 with ⟨hw, hi, _, hno⟩ | ⟨i, x, hw, hx, hN⟩
  · cases hf : fndI s.ts (t : Int) with
    | none => rw [hi]; rfl
    | some i =>
      obtain ⟨x, hx, hxt⟩ := fnd_get hf
      rw [who_some hf hx] at hw
      cases hw
  · cases hf : fndI s.ts (t : Int) with
    | none => rw [who_none hf] at hw; cases hw
    | some i => rw [hN.2.1]; rfl
theorem pl_ready {c : Nat} {M : Int} {s : SR} {o : Note} (h : PlS c M s o) {t : Nat} (t1 : 1 ≤ t) (t2 : t ≤ 16) : readyV s (t : Int) = .tuple #[.bool (o.is t && o.rd t), .int .i64 (if o.is t then 0 else 4)] := by
  unfold readyV
  rcases pl_who h t1 t2 with ⟨hw, hi, _, hno⟩ | ⟨i, x, hw, hx, hN⟩
  · rw [hw, hi]; rfl
  · rw [hw, hN.2.1, hN.2.2.1]; rfl
theorem tas_mem {c : Nat} {M : Int} {s : SR} {o : Note} (h : PlS c M s o) {k : Nat} (hk : k ≤ 16) (x : Int) : x ∈ tasK s k ↔ ∃ t : Nat, 1 ≤ t ∧ t ≤ k ∧ o.is t = true ∧ x = (t : Int) := by
  unfold tasK
  rw [List.mem_map]
  constructor
  · rintro ⟨i, hi, rfl⟩
    rw [List.mem_filter, List.mem_range] at hi
    have := pl_fnd h (t := i + 1) (by omega) (by omega)
    rw [show ((i + 1 : Nat) : Int) = (i : Int) + 1 by omega, hi.2] at this
    exact ⟨i + 1, by omega, by omega, this.symm, by omega⟩
  · rintro ⟨t, h1, h2, h3, rfl⟩
    refine ⟨t - 1, ?_, by omega⟩
    rw [List.mem_filter, List.mem_range]
    refine ⟨by omega, ?_⟩
    have := pl_fnd h (t := t) (by omega) (by omega)
    rw [show ((t - 1 : Nat) : Int) + 1 = (t : Int) by omega, this, h3]
theorem tas_has {c : Nat} {M : Int} {s : SR} {o : Note} (h : PlS c M s o) {t : Nat} (t1 : 1 ≤ t) (t2 : t ≤ 16) : hasI (tasK s 16) (t : Int) = o.is t := by
  have hm := tas_mem h (Nat.le_refl 16) (t : Int)
  cases ho : o.is t with
  | true =>
    have : (t : Int) ∈ tasK s 16 := hm.2 ⟨t, t1, t2, ho, rfl⟩
    unfold hasI
    simp [this]
  | false =>
    have : ¬ (t : Int) ∈ tasK s 16 := fun hh => by
      obtain ⟨u, _, _, hu, he⟩ := hm.1 hh
      rw [show u = t by omega, ho] at hu
      cases hu
    unfold hasI
    simp [this]
theorem tas_len {c : Nat} {M : Int} {s : SR} {o : Note} (h : PlS c M s o) {k : Nat} (hk : k < 16) : (tasK s (k + 1)).length = (tasK s k).length + if o.is (k + 1) then 1 else 0 := by
  have hf := pl_fnd h (t := k + 1) (by omega) (by omega)
  rw [show ((k + 1 : Nat) : Int) = (k : Int) + 1 by omega] at hf
  cases hx : fndI s.ts ((k : Int) + 1) with
  | none =>
    rw [hx] at hf
    rw [tasK_no hx, ← hf]
    rfl
  | some i =>
    rw [hx] at hf
    rw [tasK_yes hx, ← hf, List.length_append]
    rfl
theorem tas_sorted (s : SR) (k j : Nat) (h : j + 1 < (tasK s k).length) : (tasK s k)[j] ≤ (tasK s k)[j + 1] := by
  have hp : (tasK s k).Pairwise (fun a b => a < b) := by
    unfold tasK
    rw [List.pairwise_map]
    refine List.Pairwise.imp (fun {a b} hab => ?_) (List.Pairwise.filter _ (List.pairwise_lt_range))
    omega
  rw [List.pairwise_iff_getElem] at hp
  exact Int.le_of_lt (hp j (j + 1) (by omega) h (by omega))
end Go.Proofs.Ythcgeigijnbpkaa
