/- Plain facts on a class of tasks that was filled from a list of uses: what its calls keep. No program in sight; no condition. -/
import Derived.Test.YthcgeigijnbpkaaCbsP
namespace Go.Proofs.Ythcgeigijnbpkaa
open Go.RowKit
set_option linter.unusedVariables false
/-- The class that a list of uses makes, so far as k of them are there. -/
def addTs (l : List Use) (k : Nat) : List DT := (List.range k).map fun i => newT (i + 1) (co l i) (pe l i) 0
theorem addTs_len (l : List Use) (k : Nat) : (addTs l k).length = k := by simp [addTs]
theorem addTs_get (l : List Use) (k i : Nat) (h : i < k) : (addTs l k)[i]? = some (newT (i + 1) (co l i) (pe l i) 0) := by simp [addTs, List.getElem?_range h]
theorem addTs_succ (l : List Use) (k : Nat) (h : k < l.length) : addTs l (k + 1) = addTs l k ++ [newT (k + 1) l[k].c l[k].p 0] := by
  unfold addTs
  rw [List.range_succ, List.map_append, List.map_singleton, co_at l k h, pe_at l k h]
theorem addTs_new (l : List Use) (k : Nat) : ∀ x ∈ addTs l k, x.t ≠ k + 1 := by
  intro x hx
  obtain ⟨i, hi, rfl⟩ := List.mem_map.1 hx
  have := List.mem_range.1 hi
  simp [newT]; omega
/-- What is so at each time. -/
structure BInv (l : List Use) (now : Nat) (ts : List DT) : Prop where
  len : ts.length = l.length
  at_ : ∀ (i : Nat) x, ts[i]? = some x → x.t = i + 1 ∧ x.b = co l i ∧ x.p = pe l i
  ok : ∀ x ∈ ts, DOk now x
  past : ∀ x ∈ ts, DPast now x
  cbs : Cbs ts now
section
variable {l : List Use} {now : Nat} {ts : List DT}
theorem mem_atD {α : Type} {l : List α} {x : α} (h : x ∈ l) : ∃ i : Nat, l[i]? = some x := by
  obtain ⟨i, hi, he⟩ := List.mem_iff_getElem.1 h
  exact ⟨i, by rw [List.getElem?_eq_getElem hi, he]⟩
theorem binv_new (hok : ∀ u ∈ l, u.ok) (hl : l.length ≤ 16) : BInv l 0 (addTs l l.length) := by
  have hx : ∀ x ∈ addTs l l.length, ∃ i, i < l.length ∧ x = newT (i + 1) (co l i) (pe l i) 0 := by
    intro x hx
    obtain ⟨i, hi, rfl⟩ := List.mem_map.1 hx
    exact ⟨i, List.mem_range.1 hi, rfl⟩
  refine ⟨addTs_len _ _, fun i x h => ?_, fun x h => ?_, fun x h => ?_, fun d hd => ⟨0, fun _ => 0, Nat.le_refl _, by rw [sumN_zero], fun i x h => ?_⟩⟩
  · have hi : i < l.length := by have := (List.getElem?_eq_some_iff.1 h).1; rwa [addTs_len] at this
    rw [addTs_get l _ i hi] at h
    injection h with h
    subst h
    exact ⟨rfl, rfl, rfl⟩
  · obtain ⟨i, hi, rfl⟩ := hx x h
    have := pe_ok hok i
    exact ok_new (by omega) (by omega) (by omega) (by omega) (by omega)
  · obtain ⟨i, hi, rfl⟩ := hx x h
    intro ho; cases ho
  · have hi : i < l.length := by have := (List.getElem?_eq_some_iff.1 h).1; rwa [addTs_len] at this
    rw [addTs_get l _ i hi] at h
    injection h with h
    subst h
    unfold Cond
    simp only [newT]
    split
    · refine .inl ⟨by omega, ?_⟩
      rw [Nat.zero_add, Nat.zero_add, Nat.sub_zero, Nat.mul_comm]
      exact Nat.le_refl _
    · simp
theorem BInv.uses (h : BInv l now ts) : usesOf ts = l := by
  apply List.ext_getElem?
  intro i
  unfold usesOf
  rw [List.getElem?_map]
  by_cases hi : i < l.length
  · have hi' : i < ts.length := by rw [h.len]; exact hi
    rw [List.getElem?_eq_getElem hi', List.getElem?_eq_getElem hi]
    obtain ⟨_, h2, h3⟩ := h.at_ i _ (List.getElem?_eq_getElem hi')
    rw [co_at l i hi] at h2
    rw [pe_at l i hi] at h3
    simp only [Option.map_some, h2, h3]
  · rw [List.getElem?_eq_none (by rw [h.len]; omega), List.getElem?_eq_none (by omega)]; rfl
theorem BInv.set (h : BInv l now ts) {i : Nat} {x y : DT} (hx : ts[i]? = some x) (ht : y.t = x.t) (hb : y.b = x.b) (hp : y.p = x.p) (hok : DOk now y) (hpast : DPast now y) (hc : ∀ d t0 A, t0 ≤ now → now ≤ d → Cond now d t0 A x → Cond now d t0 A y) : BInv l now (ts.set i y) := by
  refine ⟨by rw [List.length_set]; exact h.len, fun j z hz => ?_, fun z hz => ?_, fun z hz => ?_, cbs_set h.cbs hx hc⟩
  · rw [List.getElem?_set] at hz
    split at hz
    · rename_i hij
      subst hij
      split at hz
      · injection hz with hz
        subst hz
        rw [ht, hb, hp]
        exact h.at_ i x hx
      · cases hz
    · exact h.at_ j z hz
  · rcases List.mem_or_eq_of_mem_set hz with h1 | h1
    · exact h.ok z h1
    · rw [h1]; exact hok
  · rcases List.mem_or_eq_of_mem_set hz with h1 | h1
    · exact h.past z h1
    · rw [h1]; exact hpast
theorem BInv.block (h : BInv l now ts) {i : Nat} {x : DT} (hx : ts[i]? = some x) : BInv l now (ts.set i { x with r := false }) :=
  h.set hx rfl rfl rfl (h.ok x (List.mem_of_getElem? hx)).block (h.past x (List.mem_of_getElem? hx)) (fun d t0 A _ _ hc => hc.block)
theorem wakeT_same (now : Nat) (x : DT) : (wakeT now x).t = x.t ∧ (wakeT now x).b = x.b ∧ (wakeT now x).p = x.p := by unfold wakeT; split <;> exact ⟨rfl, rfl, rfl⟩
theorem wakeT_past {now : Nat} {x : DT} (h : DPast now x) : DPast now (wakeT now x) := by
  unfold wakeT
  split
  · rename_i hc
    intro ho
    rw [show ({ x with r := true, l := x.b, d := now + x.p } : DT).o = x.o from rfl, hc.1] at ho
    cases ho
  · exact h
theorem BInv.wake (h : BInv l now ts) {i : Nat} {x : DT} (hx : ts[i]? = some x) : BInv l now (ts.set i (if x.r then x else wakeT now x)) := by
  have hm := List.mem_of_getElem? hx
  cases x.r with
  | true => exact h.set hx rfl rfl rfl (h.ok x hm) (h.past x hm) (fun d t0 A _ _ hc => hc)
  | false =>
    have hs := wakeT_same now x
    exact h.set hx hs.1 hs.2.1 hs.2.2 (h.ok x hm).wake (wakeT_past (h.past x hm)) (fun d t0 A h1 h2 hc => hc.wake (h.ok x hm) h1 h2)
theorem tickTs_eq (now : Nat) (ts : List DT) (b : Option Nat) : tickTs now ts b = (ranTs ts b).map (passT (now + 1)) := by cases b <;> rfl
theorem ran_mem {b : Option Nat} {x : DT} (hok : ∀ x ∈ ts, DOk now x) (hb : IsFirst ts ts.length b) (h : x ∈ ranTs ts b) : DOk now x := by
  obtain ⟨i, hi⟩ := mem_atD h
  rw [ranTs_get] at hi
  cases hk : ts[i]? with
  | none => rw [hk] at hi; cases hi
  | some v =>
    rw [hk] at hi
    simp only [Option.map_some, Option.some.injEq] at hi
    by_cases hbi : b = some i
    · rw [if_pos hbi] at hi
      subst hbi
      obtain ⟨y, _, hy, hey, _⟩ := hb
      rw [hk] at hy; injection hy with hy; subst hy
      rw [← hi]
      exact (hok v (List.mem_of_getElem? hk)).run hey
    · rw [if_neg hbi] at hi
      rw [← hi]
      exact hok v (List.mem_of_getElem? hk)
theorem tick_at {b : Option Nat} {i : Nat} {x : DT} (hx : ts[i]? = some x) : (tickTs now ts b)[i]? = some (passT (now + 1) (if b = some i then runD x else x)) := by
  rw [tickTs_eq, List.getElem?_map, ranTs_get, hx]
  by_cases hb : b = some i
  · simp [hb]
  · simp [hb]
theorem BInv.tick (h : BInv l now ts) {b : Option Nat} (hb : IsFirst ts ts.length b) : BInv l (now + 1) (tickTs now ts b) := by
  have hpas : ∀ x ∈ tickTs now ts b, DOk (now + 1) x ∧ DPast (now + 1) x := by
    intro x hx
    rw [tickTs_eq] at hx
    obtain ⟨y, hy, rfl⟩ := List.mem_map.1 hx
    exact (ran_mem h.ok hb hy).pass
  refine ⟨by rw [tickTs_eq, List.length_map, ranTs_len]; exact h.len, fun i x hx => ?_, fun x hx => (hpas x hx).1, fun x hx => (hpas x hx).2, ?_⟩
  · have hi : i < ts.length := by
      have := (List.getElem?_eq_some_iff.1 hx).1
      rwa [tickTs_eq, List.length_map, ranTs_len] at this
    rw [tick_at (List.getElem?_eq_getElem hi)] at hx
    injection hx with hx
    have := h.at_ i _ (List.getElem?_eq_getElem hi)
    rw [← hx]
    have e : ∀ y : DT, (passT (now + 1) y).t = y.t ∧ (passT (now + 1) y).b = y.b ∧ (passT (now + 1) y).p = y.p := fun y => by unfold passT; split <;> exact ⟨rfl, rfl, rfl⟩
    rw [(e _).1, (e _).2.1, (e _).2.2]
    split <;> exact this
  · rw [tickTs_eq]
    exact cbs_pass (cbs_ran h.cbs h.ok h.past hb) (fun x hx => (ran_mem h.ok hb hx).oz.1)
/-- What one that is always ready has had, a tick later. -/
theorem BInv.giv (h : BInv l now ts) (hf : fit l 1) {b : Option Nat} (hb : IsFirst ts ts.length b) {i g : Nat} {x : DT} (hx : ts[i]? = some x) (hg : Giv now g x) : Giv (now + 1) (g + if b = some i then 1 else 0) (passT (now + 1) (if b = some i then runD x else x)) := by
  have hy : (ranTs ts b)[i]? = some (if b = some i then runD x else x) := by
    rw [ranTs_get, hx]
    by_cases hbi : b = some i <;> simp [hbi]
  have hoy : DOk now (if b = some i then runD x else x) := ran_mem h.ok hb (List.mem_of_getElem? hy)
  have hl1 : b = some i → 1 ≤ x.l := by
    intro hbi
    subst hbi
    obtain ⟨y, _, hy, hey, _⟩ := hb
    rw [hx] at hy; injection hy with hy; subst hy
    have h0 : x.o = false := by unfold elig at hey; simp at hey; exact hey.2
    rcases Nat.eq_zero_or_pos x.l with hl | hl
    · have := (h.ok x (List.mem_of_getElem? hx)).oz.2 hl; rw [h0] at this; cases this
    · exact hl
  have hu : fit (usesOf (ranTs ts b)) 1 := by
    have : usesOf (ranTs ts b) = usesOf ts := by
      apply List.ext_getElem?
      intro k
      unfold usesOf
      rw [List.getElem?_map, List.getElem?_map, ranTs_get]
      cases ts[k]? with
      | none => rfl
      | some v => by_cases hbk : b = some k <;> simp [hbk, runD]
    rw [this, h.uses]; exact hf
  have hcb := cbs_ran h.cbs h.ok h.past hb
  have hok1 : ∀ x ∈ ranTs ts b, DOk (now + 1) x := fun x hx => by
    have := ran_mem h.ok hb hx
    exact ⟨this.t1, this.t2, this.b1, this.b2, this.p2, this.l2, this.oz, by have := this.d2; omega⟩
  have hr : (if b = some i then runD x else x).r = true := by split <;> exact hg.r
  have hdue := fun hd => cbs_due hcb hok1 hu hy hr hd
  refine giv_pass hoy hr ?_ ?_ ?_ ?_ hdue
  · split <;> exact hg.dv
  · by_cases hbi : b = some i
    · have := hl1 hbi
      have hgl := hg.gl
      rw [if_pos hbi, if_pos hbi]
      show g + 1 + (x.l - 1) = x.d / x.p * x.b
      omega
    · rw [if_neg hbi, if_neg hbi]
      exact hg.gl
  · split <;> exact hg.lo
  · split <;> exact hg.hi
theorem BInv.num (h : BInv l now ts) {i : Nat} {x : DT} (hx : ts[i]? = some x) : x.t = i + 1 := (h.at_ i x hx).1
end
/-- Of one task alone. -/
theorem first_yes {x : DT} {b : Option Nat} (h : IsFirst [x] 1 b) (he : elig x = true) : b = some 0 := by
  cases b with
  | none => have := h 0 x (by omega) rfl; rw [this] at he; cases he
  | some j => obtain ⟨y, hj, _⟩ := h; congr 1; omega
theorem first_none {x : DT} {b : Option Nat} (h : IsFirst [x] 1 b) (he : elig x = false) : b = none := by
  cases b with
  | none => rfl
  | some j =>
    obtain ⟨y, hj, hy, hey, _⟩ := h
    obtain rfl : j = 0 := by omega
    injection hy with hy
    subst hy
    rw [he] at hey; cases hey
end Go.Proofs.Ythcgeigijnbpkaa
