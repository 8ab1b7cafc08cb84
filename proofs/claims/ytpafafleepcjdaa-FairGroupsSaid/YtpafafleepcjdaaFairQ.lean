/- Plain facts on tasks with weights that are numbered from 1 on. No program in sight; no condition. -/
import Derived.Test.YtpafafleepcjdaaFairP
import Derived.Test.YtpafafleepcjdaaPlain
namespace Go.Proofs.Ytpafafleepcjdaa
open Go.RowKit
set_option linter.unusedVariables false
/-- The weight that a number stands for. -/
def wtF (z : Int) : Nat := (rest z 100).toNat + 1
theorem wtF_int (z : Int) : 1 + rest z 100 = (wtF z : Int) := by
  have := rest_nonneg z 100 (by omega)
  unfold wtF
  omega
theorem wtF_le (z : Int) : 1 ≤ wtF z ∧ wtF z ≤ 100 := by
  have h1 := rest_nonneg z 100 (by omega)
  have h2 := rest_lt z 100 (by omega)
  unfold wtF
  omega
def mkF (zs : List Int) (k : Nat) : List FT := (List.range k).map fun i => ⟨i + 1, wtF (zs.getD i 0), 0, 0, true⟩
theorem mkF_len (zs : List Int) (k : Nat) : (mkF zs k).length = k := by simp [mkF]
theorem mkF_get (zs : List Int) (k i : Nat) (h : i < k) : (mkF zs k)[i]? = some ⟨i + 1, wtF (zs.getD i 0), 0, 0, true⟩ := by simp [mkF, List.getElem?_range h]
theorem mkF_succ (zs : List Int) (k : Nat) (h : k < zs.length) : mkF zs (k + 1) = mkF zs k ++ [⟨k + 1, wtF zs[k], 0, 0, true⟩] := by
  unfold mkF
  rw [List.range_succ, List.map_append, List.map_singleton, List.getD_eq_getElem?_getD, List.getElem?_eq_getElem h]
  rfl
/-- Numbered from 1 on, each as it may be. -/
structure NInv (V n : Nat) (ts : List FT) : Prop where
  len : ts.length = n
  num : ∀ (i : Nat) x, ts[i]? = some x → x.t = i + 1
  ok : ∀ x ∈ ts, FOk V x
section
variable {V V' n : Nat} {ts : List FT}
theorem mem_at {α : Type} {l : List α} {x : α} (h : x ∈ l) : ∃ i : Nat, l[i]? = some x := by
  obtain ⟨i, hi, he⟩ := List.mem_iff_getElem.1 h
  exact ⟨i, by rw [List.getElem?_eq_getElem hi, he]⟩
theorem mkF_inv (zs : List Int) (k : Nat) (hk : k ≤ 16) : NInv 0 k (mkF zs k) := by
  refine ⟨mkF_len zs k, fun i x hx => ?_, fun x hx => ?_⟩
  · have hi : i < k := by have := (List.getElem?_eq_some_iff.1 hx).1; rwa [mkF_len] at this
    rw [mkF_get zs k i hi] at hx
    injection hx with hx
    rw [← hx]
  · obtain ⟨i, hi, rfl⟩ := List.mem_map.1 hx
    have := List.mem_range.1 hi
    have hw := wtF_le (zs.getD i 0)
    exact ⟨by simp, by simp; omega, hw.1, hw.2, rfl, Nat.le_refl _⟩
theorem NInv.absent (h : NInv V n ts) (t : Nat) (ht : n < t) : ∀ x ∈ ts, x.t ≠ t := by
  intro x hx
  obtain ⟨i, hi⟩ := mem_at hx
  have h1 := h.num i x hi
  have h2 := (List.getElem?_eq_some_iff.1 hi).1
  have h3 := h.len
  omega
theorem NInv.gz (h : NInv V n ts) : ∀ y ∈ ts, y.g = 0 := fun y hy => (h.ok y hy).g0
theorem NInv.set (h : NInv V n ts) {i : Nat} {x y : FT} (hx : ts[i]? = some x) (ht : y.t = x.t) (hV : V ≤ V') (hok : FOk V' y) : NInv V' n (ts.set i y) := by
  refine ⟨by rw [List.length_set]; exact h.len, fun j z hz => ?_, fun z hz => ?_⟩
  · rw [List.getElem?_set] at hz
    split at hz
    · rename_i hij
      subst hij
      split at hz
      · injection hz with hz
        subst hz
        rw [ht]; exact h.num i x hx
      · cases hz
    · exact h.num j z hz
  · rcases List.mem_or_eq_of_mem_set hz with h1 | h1
    · have := h.ok z h1
      exact ⟨this.t1, this.t2, this.w1, this.w2, this.g0, Nat.le_trans this.v2 hV⟩
    · rw [h1]; exact hok
theorem runF_ok {x : FT} (h : FOk V x) : FOk (V + 1048576) (runF x) := ⟨h.t1, h.t2, h.w1, h.w2, h.g0, Nat.add_le_add h.v2 (cost_le _)⟩
theorem NInv.mono (h : NInv V n ts) (hV : V ≤ V') : NInv V' n ts := ⟨h.len, h.num, fun x hx => by have := h.ok x hx; exact ⟨this.t1, this.t2, this.w1, this.w2, this.g0, Nat.le_trans this.v2 hV⟩⟩
theorem tickF_get {b : Option Nat} {i : Nat} : (tickF ts b)[i]? = (ts[i]?).map (fun x => if b = some i then runF x else x) := by
  cases b with
  | none => simp [tickF]
  | some j =>
    simp only [tickF]
    rw [List.getElem?_modify]
    cases ts[i]? with
    | none => simp
    | some x => by_cases hij : j = i <;> simp [hij]
theorem tickF_len {b : Option Nat} : (tickF ts b).length = ts.length := by cases b <;> simp [tickF]
theorem NInv.tick (h : NInv V n ts) (b : Option Nat) : NInv (V + 1048576) n (tickF ts b) := by
  refine ⟨by rw [tickF_len]; exact h.len, fun i x hx => ?_, fun x hx => ?_⟩
  · rw [tickF_get] at hx
    cases hk : ts[i]? with
    | none => rw [hk] at hx; cases hx
    | some v =>
      rw [hk] at hx
      simp only [Option.map_some, Option.some.injEq] at hx
      have := h.num i v hk
      rw [← hx]
      split <;> exact this
  · obtain ⟨i, hi⟩ := mem_at hx
    rw [tickF_get] at hi
    cases hk : ts[i]? with
    | none => rw [hk] at hi; cases hi
    | some v =>
      rw [hk] at hi
      simp only [Option.map_some, Option.some.injEq] at hi
      have hv := h.ok v (List.mem_of_getElem? hk)
      rw [← hi]
      split
      · exact runF_ok hv
      · exact ⟨hv.t1, hv.t2, hv.w1, hv.w2, hv.g0, by have := hv.v2; omega⟩
theorem NInv.numF (h : NInv V n ts) {j : Nat} (hj : j < n) : numF ts (some j) = j + 1 := by
  have hl : j < ts.length := by rw [h.len]; exact hj
  have := h.num j _ (List.getElem?_eq_getElem hl)
  simp only [Go.Proofs.Ytpafafleepcjdaa.numF, List.getElem?_eq_getElem hl, Option.map_some, Option.getD_some, this]
/-- Who is first is known, if one is ready, and ahead of all others that are. -/
theorem NInv.first (h : NInv V n ts) {b : Option Nat} (hb : FFirst ts ts.length b) {j : Nat} {y : FT} (hy : ts[j]? = some y) (hr : y.r = true) (hmin : ∀ (i : Nat) x, ts[i]? = some x → x.r = true → aheadF y x) : b = some j := by
  have hj : j < ts.length := (List.getElem?_eq_some_iff.1 hy).1
  cases b with
  | none => have := hb j y hj hy; rw [this] at hr; cases hr
  | some i =>
    obtain ⟨x, x1, x2, x3, x4⟩ := hb
    have a1 := x4 j y hj hy hr
    have a2 := hmin i x x2 x3
    have n1 := h.num i x x2
    have n2 := h.num j y hy
    unfold aheadF at a1 a2
    congr 1
    omega
end
theorem mkF_woken (zs : List Int) (k : Nat) (o : Option Nat) (h : FLeast (mkF zs k) (mkF zs k).length o) (t wt : Nat) : wokenF o ⟨t, wt, 0, 0, false⟩ = ⟨t, wt, 0, 0, true⟩ := by
  cases o with
  | none => rfl
  | some m =>
    obtain ⟨⟨i, x, h1, h2, h3, h4⟩, _⟩ := h
    rw [mkF_len] at h1
    rw [mkF_get zs k i h1] at h2
    injection h2 with h2
    have : m = 0 := by rw [← h4, ← h2]
    subst this
    rfl
end Go.Proofs.Ytpafafleepcjdaa
