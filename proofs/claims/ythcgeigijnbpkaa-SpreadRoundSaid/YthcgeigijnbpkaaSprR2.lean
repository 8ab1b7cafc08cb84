/- Plain model of package spread: tasks of one priority come, and go round; how often each goes. No program in sight; no condition. -/
import Derived.Test.YthcgeigijnbpkaaSprR
import Derived.Test.YthcgeigijnbpkaaSpreadSharesWalk
namespace Go.Proofs.Ythcgeigijnbpkaa
set_option linter.unusedVariables false
theorem rr_0 (n i : Nat) : rr n 0 i = i := by rcases rr_is n 0 i with h | h <;> omega
theorem cq_0 {c i : Nat} (h : i < c) : cq c 0 i = i := by rcases cq_is c 0 i with h1 | h1 <;> omega
theorem ro_add {c k : Nat} {v : Int} {s : SR} (hs : RoS c k v 0 0 s) (hc0 : 0 < c) : (s.doAdd ((k : Int) + 1) 2 v).2 = 0 ∧ RoS c (k + 1) v 0 0 (s.doAdd ((k : Int) + 1) 2 v).1 := by
  have hil : ∀ (i : Nat) (x : ST), s.ts[i]? = some x → i < k := fun i x hx => by have := (List.getElem?_eq_some_iff.1 hx).1; rw [hs.len] at this; exact this
  have hw : s.who ((k : Int) + 1) = none := who_none (fnd_no (fun j y hy => by
    have := (hs.each j y hy).1
    have := hil j y hy
    omega))
  have e : s.doAdd ((k : Int) + 1) 2 v = (s.enter (newS ((k : Int) + 1) 2 v), 0) := by unfold SR.doAdd; rw [hw]
  rw [e]
  refine ⟨rfl, ?_⟩
  show RoS c (k + 1) v 0 0 (s.enter (newS ((k : Int) + 1) 2 v))
  obtain ⟨y, hy⟩ : ∃ y : ST, y = { entT s (newS ((k : Int) + 1) 2 v) with cpu := -1, si := s.st + 1 } := ⟨_, rfl⟩
  have y1 : y.t = (k : Int) + 1 ∧ y.cl = 2 ∧ y.va = v ∧ y.mo = 0 ∧ y.r = true ∧ y.o = false ∧ y.pin = 2 ^ c - 1 ∧ y.cpu = -1 ∧ y.si = s.st + 1 := by
    rw [hy]
    refine ⟨rfl, rfl, rfl, rfl, rfl, rfl, ?_, rfl, rfl⟩
    show 2 ^ s.n - 1 = _
    rw [hs.nn]
  obtain ⟨us, hus⟩ : ∃ us, us = s.ts ++ [y] := ⟨_, rfl⟩
  have e2 : s.enter (newS ((k : Int) + 1) 2 v) = ⟨s.n, s.tk, s.st + 1, fillK us c⟩ := by
    unfold SR.enter SR.fill SR.wait
    show SR.mk s.n s.tk (s.st + 1) (fillK (upd (s.ts ++ [entT s (newS ((k : Int) + 1) 2 v)]) s.ts.length _) s.n) = _
    rw [upd_of (x := entT s (newS ((k : Int) + 1) 2 v)) (by simp), hs.nn, hus, hy]
    simp
  rw [e2]
  have hul : us.length = k + 1 := by rw [hus, List.length_append, hs.len]; rfl
  have uk : us[k]? = some y := by rw [hus, List.getElem?_append_right (by rw [hs.len]; exact Nat.le_refl _), hs.len, Nat.sub_self]; rfl
  have key : ∀ (i : Nat) (x : ST), us[i]? = some x → (i = k ∧ x = y) ∨ (i < k ∧ s.ts[i]? = some x) := by
    intro i x hx
    by_cases hi : i < k
    · rw [hus, List.getElem?_append_left (by rw [hs.len]; exact hi)] at hx
      exact .inr ⟨hi, hx⟩
    · have hik : i = k := by have := (List.getElem?_eq_some_iff.1 hx).1; omega
      subst hik
      rw [uk] at hx
      injection hx with hx
      exact .inl ⟨rfl, hx.symm⟩
  have old : ∀ (i : Nat) (x : ST), s.ts[i]? = some x → (i < c ∧ x.cpu = (i : Int)) ∨ (c ≤ i ∧ x.cpu = -1) := by
    intro i x hx
    rcases hs.run hx with ⟨h1, h2⟩ | ⟨h1, h2⟩
    · rw [rr_0] at h1 h2
      rw [cq_0 h1] at h2
      exact .inl ⟨h1, h2⟩
    · rw [rr_0] at h1
      exact .inr ⟨h1, h2⟩
  have busy : ∀ m, m < c → m < k → ∃ (j : Nat) (x : ST), us[j]? = some x ∧ x.cpu = (m : Int) := by
    intro m hm hmk
    obtain ⟨x, hx⟩ : ∃ x, s.ts[m]? = some x := ⟨_, List.getElem?_eq_getElem (by rw [hs.len]; exact hmk)⟩
    refine ⟨m, x, by rw [hus, List.getElem?_append_left (by rw [hs.len]; exact hmk)]; exact hx, ?_⟩
    rcases old m x hx with h1 | h1
    · exact h1.2
    · omega
  by_cases hkc : k < c
  · have ef : fillK us c = upd us k (fun x => { x with cpu := (k : Nat) }) := by
      refine fill_first hkc uk (one_wait y1.2.2.2.2.1 y1.2.2.2.2.2.1 y1.2.2.2.2.2.2.2.1) (fun m hm => all_pin y1.2.2.2.2.2.2.1 hm) (fun j z hz hj => ?_) (fun m hm => busy m (by omega) hm) (fun j z hz => ?_)
      · rcases key j z hz with h1 | ⟨h1, h2⟩
        · exact absurd h1.1 hj
        · cases hwz : waitB z with
          | false => rfl
          | true =>
            have := (wait_cpu hwz).1
            rcases old j z h2 with h3 | h3 <;> omega
      · rcases key j z hz with ⟨h1, rfl⟩ | ⟨h1, h2⟩
        · have := y1.2.2.2.2.2.2.2.1; omega
        · rcases old j z h2 with h3 | h3 <;> omega
    rw [ef]
    refine ⟨hs.nn, by show (upd us k _).length = _; rw [upd_len]; exact hul, fun i x hx => ?_, fun i j x z hx hz hri hrij => ?_⟩
    · have hx' : (upd us k (fun x => { x with cpu := (k : Nat) }))[i]? = some x := hx
      rw [upd_get] at hx'
      split at hx'
      · rename_i hi
        subst hi
        rw [uk] at hx'
        simp only [Option.map_some, Option.some.injEq] at hx'
        subst hx'
        refine ⟨y1.1, y1.2.1, y1.2.2.1, y1.2.2.2.1, y1.2.2.2.2.1, y1.2.2.2.2.2.1, y1.2.2.2.2.2.2.1, by show y.si ≤ s.st + 1; rw [y1.2.2.2.2.2.2.2.2]; omega, ?_⟩
        rw [rr_0, if_pos hkc, cq_0 hkc]
      · rename_i hi
        rcases key i x hx' with h1 | ⟨h1, h2⟩
        · omega
        · have e := hs.each i x h2
          refine ⟨e.1, e.2.1, e.2.2.1, e.2.2.2.1, e.2.2.2.2.1, e.2.2.2.2.2.1, e.2.2.2.2.2.2.1, by have := e.2.2.2.2.2.2.2.1; show x.si ≤ s.st + 1; omega, ?_⟩
          rw [e.2.2.2.2.2.2.2.2, rr_0, rr_0]
    · rw [rr_0] at hri
      have := (List.getElem?_eq_some_iff.1 hx).1
      have h2 : (upd us k (fun x => { x with cpu := (k : Nat) })).length = k + 1 := by rw [upd_len]; exact hul
      have h3 : i < (upd us k (fun x => { x with cpu := (k : Nat) })).length := this
      omega
  · have ef : fillK us c = us := fill_busy (fun m hm => busy m hm (by omega))
    rw [ef]
    refine ⟨hs.nn, hul, fun i x hx => ?_, fun i j x z hx hz hri hrij => ?_⟩
    · rcases key i x hx with ⟨h1, rfl⟩ | ⟨h1, h2⟩
      · subst h1
        refine ⟨y1.1, y1.2.1, y1.2.2.1, y1.2.2.2.1, y1.2.2.2.2.1, y1.2.2.2.2.2.1, y1.2.2.2.2.2.2.1, by show x.si ≤ s.st + 1; rw [y1.2.2.2.2.2.2.2.2]; omega, ?_⟩
        rw [rr_0, if_neg hkc, y1.2.2.2.2.2.2.2.1]
      · have e := hs.each i x h2
        refine ⟨e.1, e.2.1, e.2.2.1, e.2.2.2.1, e.2.2.2.2.1, e.2.2.2.2.2.1, e.2.2.2.2.2.2.1, by have := e.2.2.2.2.2.2.2.1; show x.si ≤ s.st + 1; omega, ?_⟩
        rw [e.2.2.2.2.2.2.2.2, rr_0, rr_0]
    · rw [rr_0] at hri
      rw [rr_0, rr_0] at hrij
      rcases key i x hx with ⟨h1, rfl⟩ | ⟨h1, h2⟩
      · rcases key j z hz with ⟨h3, rfl⟩ | ⟨h3, h4⟩ <;> omega
      · rcases key j z hz with ⟨h3, rfl⟩ | ⟨h3, h4⟩
        · rw [y1.2.2.2.2.2.2.2.2]
          have := (hs.each i x h2).2.2.2.2.2.2.2.1
          omega
        · exact hs.fifo i j x z h2 h4 (by rw [rr_0]; exact hri) (by rw [rr_0, rr_0]; exact hrij)
/-- How often the i-th went, of so many ticks. -/
def cntR (n S : Nat) (i : Nat) : Int := ((S / n + if i < S % n then 1 else 0 : Nat) : Int)
theorem mod_succ {S n : Nat} (h : 0 < n) : (S % n + 1 = n ∧ (S + 1) % n = 0 ∧ (S + 1) / n = S / n + 1) ∨ (S % n + 1 < n ∧ (S + 1) % n = S % n + 1 ∧ (S + 1) / n = S / n) := by
  have h1 : S % n < n := Nat.mod_lt _ h
  have h2 := Nat.div_add_mod S n
  by_cases he : S % n + 1 = n
  · refine .inl ⟨he, ?_, ?_⟩
    · rw [← Nat.mod_add_mod, he, Nat.mod_self]
    · have : S + 1 = n * (S / n + 1) := by rw [Nat.mul_add, Nat.mul_one]; omega
      rw [this, Nat.mul_div_cancel_left _ h]
  · refine .inr ⟨by omega, ?_, ?_⟩
    · rw [← Nat.mod_add_mod, Nat.mod_eq_of_lt (by omega)]
    · have : S + 1 = (S % n + 1) + n * (S / n) := by omega
      rw [this, Nat.add_mul_div_left _ _ h, Nat.div_eq_of_lt (by omega), Nat.zero_add]
theorem cntR_succ {n S : Nat} (h : 0 < n) (i : Nat) (hi : i < n) : cntR n (S + 1) i = cntR n S i + if i = S % n then 1 else 0 := by
  unfold cntR
  rcases mod_succ (S := S) h with ⟨h1, h2, h3⟩ | ⟨h1, h2, h3⟩
  · rw [h2, h3]
    by_cases hi2 : i = S % n
    · rw [if_neg (by omega), if_neg (by omega), if_pos hi2]; omega
    · rw [if_neg (by omega), if_pos (by omega), if_neg hi2]; omega
  · rw [h2, h3]
    by_cases hi2 : i = S % n
    · rw [if_pos (by omega), if_neg (by omega), if_pos hi2]; omega
    · rw [if_neg hi2]
      by_cases hi3 : i < S % n
      · rw [if_pos (by omega), if_pos hi3]; omega
      · rw [if_neg (by omega), if_neg hi3]; omega
theorem cntR_full {n K : Nat} (h : 0 < n) (i : Nat) : cntR n (n * K) i = K := by
  unfold cntR
  rw [Nat.mul_div_cancel_left _ h, Nat.mul_mod_right, if_neg (by omega)]
  simp
/-- The row of what was given; the first place is nobody's. -/
def rowR (n S : Nat) : List Int := 0 :: rowG n (cntR n S)
theorem rowR_succ {n S : Nat} (h : 0 < n) : (rowR n S).set (S % n + 1) (cntR n S (S % n) + 1) = rowR n (S + 1) := by
  unfold rowR
  rw [List.set_cons_succ, rowG_set _ 1 (Nat.mod_lt _ h)]
  congr 1
  unfold rowG
  refine List.map_congr_left (fun i hi => ?_)
  have hi' := List.mem_range.1 hi
  unfold addG
  rw [cntR_succ h i hi']
  split <;> omega
theorem rowR_get {n S : Nat} (h : 0 < n) : (rowR n S)[S % n + 1]? = some (cntR n S (S % n)) := by
  unfold rowR
  rw [List.getElem?_cons_succ, rowG_get _ (Nat.mod_lt _ h)]
theorem rowR_len (n S : Nat) : (rowR n S).length = n + 1 := by unfold rowR; simp [rowG_len]
theorem rowR_drop (n S : Nat) : (rowR n S).drop 1 = rowG n (cntR n S) := rfl
theorem rowR_zero {n : Nat} (h : 0 < n) : rowR n 0 = List.replicate (n + 1) 0 := by
  unfold rowR
  rw [List.replicate_succ]
  congr 1
  rw [← rowG_zero]
  unfold rowG
  refine List.map_congr_left (fun i hi => ?_)
  unfold cntR
  simp
theorem cntR_bd (n S i : Nat) : 0 ≤ cntR n S i ∧ cntR n S i ≤ S + 1 := by
  have h1 := Nat.div_le_self S n
  have h2 : S / n + (if i < S % n then 1 else 0) ≤ S + 1 := by split <;> omega
  unfold cntR
  exact ⟨Int.natCast_nonneg _, by exact_mod_cast h2⟩
end Go.Proofs.Ythcgeigijnbpkaa
