/- Plain facts on tasks that weigh the same: they go round. No program in sight; no condition. -/
import Derived.Test.YtpafafleepcjdaaFairQ
import Derived.Test.YtpafafleepcjdaaLateP
namespace Go.Proofs.Ytpafafleepcjdaa
open Go.RowKit
set_option linter.unusedVariables false
theorem cost_pos (w : Nat) (h1 : 1 ≤ w) (h2 : w ≤ 100) : 1 ≤ cost w := by
  unfold cost
  exact (Nat.le_div_iff_mul_le (by omega)).2 (by omega)
/-- Where they stand, i ticks later. -/
structure AlikeI (k wt i : Nat) (ts : List FT) : Prop where
  inv : NInv (i * 1048576) k ts
  each : ∀ (j : Nat) x, ts[j]? = some x → x.r = true ∧ x.w = wt ∧ x.v = if j < i % k then (i / k + 1) * cost wt else i / k * cost wt
theorem alike_new (k : Nat) (z : Int) (hk : k ≤ 16) : AlikeI k (wtF z) 0 (mkF (List.replicate k z) k) := by
  refine ⟨by rw [Nat.zero_mul]; exact mkF_inv _ k hk, fun j x hx => ?_⟩
  have hj : j < k := by have := (List.getElem?_eq_some_iff.1 hx).1; rwa [mkF_len] at this
  rw [mkF_get _ k j hj] at hx
  injection hx with hx
  rw [← hx]
  refine ⟨rfl, ?_, ?_⟩
  · show wtF _ = wtF z
    congr 1
    rw [List.getD_eq_getElem?_getD, List.getElem?_replicate, if_pos hj]; rfl
  · simp
theorem alike_first {k wt i : Nat} {ts : List FT} (h : AlikeI k wt i ts) (hk : 1 ≤ k) (hw : 1 ≤ wt) (hw2 : wt ≤ 100) : ∃ y, ts[i % k]? = some y ∧ y.r = true ∧ ∀ (j : Nat) x, ts[j]? = some x → x.r = true → aheadF y x := by
  have hr : i % k < k := Nat.mod_lt _ (by omega)
  have hl : i % k < ts.length := by rw [h.inv.len]; exact hr
  obtain ⟨e1, e2, e3⟩ := h.each _ _ (List.getElem?_eq_getElem hl)
  rw [if_neg (Nat.lt_irrefl _)] at e3
  refine ⟨_, List.getElem?_eq_getElem hl, e1, fun j x hx _ => ?_⟩
  obtain ⟨_, _, x3⟩ := h.each j x hx
  have n1 := h.inv.num _ _ (List.getElem?_eq_getElem hl)
  have n2 := h.inv.num j x hx
  have hc := cost_pos wt hw hw2
  unfold aheadF
  rw [e3, x3, n1, n2]
  by_cases hj : j < i % k
  · rw [if_pos hj, Nat.add_mul]; omega
  · rw [if_neg hj]; omega
theorem alike_tick {k wt i : Nat} {ts : List FT} (h : AlikeI k wt i ts) (hk : 1 ≤ k) : AlikeI k wt (i + 1) (tickF ts (some (i % k))) := by
  have hr : i % k < k := Nat.mod_lt _ (by omega)
  refine ⟨by rw [Nat.add_mul, Nat.one_mul]; exact h.inv.tick _, fun j x hx => ?_⟩
  rw [tickF_get] at hx
  cases hv : ts[j]? with
  | none => rw [hv] at hx; cases hx
  | some v =>
    rw [hv] at hx
    simp only [Option.map_some, Option.some.injEq] at hx
    obtain ⟨e1, e2, e3⟩ := h.each j v hv
    have hj : j < k := by have := (List.getElem?_eq_some_iff.1 hv).1; rw [h.inv.len] at this; exact this
    have hdm := Nat.div_add_mod i k
    have key : ((i + 1) % k = i % k + 1 ∧ (i + 1) / k = i / k) ∨ (i % k + 1 = k ∧ (i + 1) % k = 0 ∧ (i + 1) / k = i / k + 1) := by
      by_cases hrk : i % k + 1 = k
      · right
        have e : i + 1 = k * (i / k + 1) := by rw [Nat.mul_add]; omega
        refine ⟨hrk, ?_, ?_⟩
        · rw [e]; exact Nat.mul_mod_right _ _
        · rw [e]; exact Nat.mul_div_cancel_left _ (by omega)
      · left
        have e : i + 1 = k * (i / k) + (i % k + 1) := by omega
        refine ⟨?_, ?_⟩
        · rw [e, Nat.mul_add_mod, Nat.mod_eq_of_lt (by omega)]
        · conv => lhs; rw [e]
          rw [Nat.mul_add_div (by omega), Nat.div_eq_of_lt (show i % k + 1 < k by omega)]; omega
    by_cases hij : i % k = j
    · rw [if_pos (by rw [hij])] at hx
      rw [← hx]
      refine ⟨e1, e2, ?_⟩
      show v.v + cost v.w = _
      rw [e2, e3, if_neg (by omega)]
      rcases key with ⟨k1, k2⟩ | ⟨k0, k1, k2⟩
      · rw [k1, k2, if_pos (by omega), Nat.add_mul, Nat.one_mul]
      · rw [k1, k2, if_neg (by omega), Nat.add_mul, Nat.one_mul]
    · rw [if_neg (by simpa using hij)] at hx
      rw [← hx]
      refine ⟨e1, e2, ?_⟩
      rw [e3]
      rcases key with ⟨k1, k2⟩ | ⟨k0, k1, k2⟩
      · rw [k1, k2]
        by_cases hlt : j < i % k
        · rw [if_pos hlt, if_pos (by omega)]
        · rw [if_neg hlt, if_neg (by omega)]
      · rw [k1, k2, if_pos (by omega), if_neg (by omega)]
/-- A row of one number. -/
theorem cellsN_fill (n v : Nat) : cellsN n (fun _ => v) = (List.replicate n (v : Int)).map (Value.int .i64) := by
  unfold cellsN
  rw [List.map_const', List.map_replicate]
  simp
def fillN (v k : Nat) : Nat → Nat := fun i => if i < k then v else 0
end Go.Proofs.Ytpafafleepcjdaa
