/- Plain facts on budgets: whatever others do, who is ready has its budget by each of its deadlines, if all fit. No program in sight; no condition. -/
import Derived.Test.YthcgeigijnbpkaaLateP
import Derived.Test.YthcgeigijnbpkaaDeadP
namespace Go.Proofs.Ythcgeigijnbpkaa
open Go.RowKit
set_option linter.unusedVariables false
def usesOf (ts : List DT) : List Use := ts.map fun x => ⟨x.b, x.p⟩
/-- What one has had since t0, A, and what it has left, is no more than its share, by d. -/
def Cond (now d t0 A : Nat) (x : DT) : Prop :=
  if x.d ≤ d then (t0 ≤ x.d ∧ (A + x.l) * x.p ≤ (x.d - t0) * x.b) ∨ (x.r = false ∧ x.o = false ∧ A * x.p ≤ (now - t0) * x.b) else A * x.p ≤ (d - t0) * x.b
def CbsAt (ts : List DT) (now d : Nat) : Prop := ∃ (t0 : Nat) (A : Nat → Nat), t0 ≤ now ∧ sumN ts.length A + t0 = now ∧ ∀ (i : Nat) x, ts[i]? = some x → Cond now d t0 (A i) x
def Cbs (ts : List DT) (now : Nat) : Prop := ∀ d, now ≤ d → CbsAt ts now d
section
variable {now d t0 A : Nat} {x : DT}
theorem mul_sub_split (a b c k : Nat) (h1 : a ≤ b) (h2 : b ≤ c) : (c - a) * k = (c - b) * k + (b - a) * k := by
  rw [← Nat.add_mul]; congr 1; omega
theorem Cond.mul_le (h : Cond now d t0 A x) (ht : t0 ≤ now) (hd : now ≤ d) : A * x.p ≤ (d - t0) * x.b := by
  unfold Cond at h
  split at h
  · rename_i hx
    rcases h with ⟨h1, h2⟩ | ⟨_, _, h2⟩
    · have : A * x.p ≤ (A + x.l) * x.p := Nat.mul_le_mul_right _ (Nat.le_add_right _ _)
      exact Nat.le_trans this (Nat.le_trans h2 (Nat.mul_le_mul_right _ (by omega)))
    · exact Nat.le_trans h2 (Nat.mul_le_mul_right _ (by omega))
  · exact h
theorem Cond.block (h : Cond now d t0 A x) : Cond now d t0 A { x with r := false } := by
  unfold Cond at *
  split
  · rename_i hx
    rw [if_pos hx] at h
    rcases h with h | ⟨h1, h2, h3⟩
    · exact .inl h
    · exact .inr ⟨rfl, h2, h3⟩
  · rename_i hx
    rw [if_neg hx] at h
    exact h
theorem Cond.wake (h : Cond now d t0 A x) (hok : DOk now x) (ht : t0 ≤ now) (hd : now ≤ d) : Cond now d t0 A (wakeT now x) := by
  have hle := h.mul_le ht hd
  unfold wakeT
  split
  · rename_i hc
    obtain ⟨ho, hc⟩ := hc
    unfold Cond at *
    simp only
    split
    · rename_i hnd
      have hxd : x.d ≤ d := by have := hok.d2; omega
      rw [if_pos hxd] at h
      refine .inl ⟨by omega, ?_⟩
      have key : A * x.p ≤ (now - t0) * x.b := by
        rcases h with ⟨h1, h2⟩ | ⟨_, _, h2⟩
        · rw [Nat.add_mul] at h2
          rcases hc with hc | hc
          · have : (x.d - t0) * x.b ≤ (now - t0) * x.b := Nat.mul_le_mul_right _ (by omega)
            omega
          · by_cases hdn : now ≤ x.d
            · have := mul_sub_split t0 now x.d x.b ht hdn
              omega
            · have : (x.d - t0) * x.b ≤ (now - t0) * x.b := Nat.mul_le_mul_right _ (by omega)
              omega
        · exact h2
      have e : (now + x.p - t0) * x.b = (now - t0) * x.b + x.p * x.b := by rw [← Nat.add_mul]; congr 1; omega
      rw [e, Nat.add_mul, Nat.mul_comm x.b]
      omega
    · exact hle
  · rename_i hc
    unfold Cond at *
    simp only
    split
    · rename_i hx
      rw [if_pos hx] at h
      rcases h with h | ⟨h1, h2, h3⟩
      · exact .inl h
      · have hn : ¬ (x.d ≤ now ∨ (x.d - now) * x.b < x.l * x.p) := fun hh => hc ⟨h2, hh⟩
        refine .inl ⟨by omega, ?_⟩
        have := mul_sub_split t0 now x.d x.b ht (by omega)
        rw [Nat.add_mul]
        omega
    · rename_i hx
      rw [if_neg hx] at h
      exact h
/-- A tick goes by, that it has not. -/
theorem Cond.wait (h : Cond now d t0 A x) : Cond (now + 1) d t0 A x := by
  unfold Cond at *
  split
  · rename_i hx
    rw [if_pos hx] at h
    rcases h with h | ⟨h1, h2, h3⟩
    · exact .inl h
    · exact .inr ⟨h1, h2, Nat.le_trans h3 (Nat.mul_le_mul_right _ (by omega))⟩
  · rename_i hx
    rw [if_neg hx] at h
    exact h
/-- It has a tick. -/
theorem Cond.run (h : Cond now d t0 A x) (he : elig x = true) (hx : x.d ≤ d) (hl : 1 ≤ x.l) : Cond (now + 1) d t0 (A + 1) (runD x) := by
  unfold Cond at *
  rw [if_pos hx] at h
  rw [if_pos (show (runD x).d ≤ d from hx)]
  rcases h with ⟨h1, h2⟩ | ⟨h1, h2, h3⟩
  · refine .inl ⟨h1, ?_⟩
    show (A + 1 + (x.l - 1)) * x.p ≤ (x.d - t0) * x.b
    rw [show A + 1 + (x.l - 1) = A + x.l by omega]
    exact h2
  · unfold elig at he; rw [h1] at he; cases he
/-- Nobody goes who must be done by d: all begins anew. -/
theorem Cond.anew (hok : DOk now x) (hp : DPast now x) (hn : ¬ (elig x = true ∧ x.d ≤ d)) : Cond (now + 1) d (now + 1) 0 x := by
  unfold Cond
  split
  · rename_i hx
    cases ho : x.o with
    | true =>
      have := hp ho
      have hl := hok.oz.1 ho
      exact .inl ⟨by omega, by rw [hl]; simp⟩
    | false =>
      refine .inr ⟨?_, rfl, by simp⟩
      cases hr : x.r with
      | false => rfl
      | true => exact absurd ⟨by simp [elig, hr, ho], hx⟩ hn
  · simp
theorem Cond.pass (h : Cond now d t0 A x) (hoz : x.o = true → x.l = 0) (hd : now ≤ d) : Cond now d t0 A (passT now x) := by
  unfold passT
  split
  · rename_i hc
    have hl := hoz hc.1
    unfold Cond at *
    rw [if_pos (by omega)] at h
    simp only
    rcases h with ⟨h1, h2⟩ | ⟨_, h2, _⟩
    · rw [hl, Nat.add_zero] at h2
      split
      · refine .inl ⟨by omega, ?_⟩
        have e : (x.d + x.p - t0) * x.b = (x.d - t0) * x.b + x.p * x.b := by rw [← Nat.add_mul]; congr 1; omega
        rw [e, Nat.add_mul, Nat.mul_comm x.b]
        omega
      · exact Nat.le_trans h2 (Nat.mul_le_mul_right _ (by omega))
    · rw [hc.1] at h2; cases h2
  · exact h
end
theorem cbs_set {ts : List DT} {now i : Nat} {x y : DT} (h : Cbs ts now) (hx : ts[i]? = some x) (hy : ∀ d t0 A, t0 ≤ now → now ≤ d → Cond now d t0 A x → Cond now d t0 A y) : Cbs (ts.set i y) now := by
  intro d hd
  obtain ⟨t0, A, h1, h2, h3⟩ := h d hd
  refine ⟨t0, A, h1, by rw [List.length_set]; exact h2, fun j z hz => ?_⟩
  rw [List.getElem?_set] at hz
  split at hz
  · rename_i hij
    subst hij
    split at hz
    · injection hz with hz
      subst hz
      exact hy d t0 _ h1 hd (h3 i x hx)
    · cases hz
  · exact h3 j z hz
/-- What a tick makes of all, ahead of its going by. -/
def ranTs (ts : List DT) : Option Nat → List DT
  | none => ts
  | some j => ts.modify j runD
theorem ranTs_len (ts : List DT) (b : Option Nat) : (ranTs ts b).length = ts.length := by cases b <;> simp [ranTs]
theorem ranTs_get (ts : List DT) (b : Option Nat) (i : Nat) : (ranTs ts b)[i]? = (ts[i]?).map (if b = some i then runD else id) := by
  cases b with
  | none => simp [ranTs]
  | some j =>
    simp only [ranTs]
    rw [List.getElem?_modify]
    cases ts[i]? with
    | none => simp
    | some x =>
      by_cases hij : j = i
      · subst hij; simp
      · simp [hij]
theorem sumN_one (n j : Nat) (A : Nat → Nat) (hj : j < n) : sumN n (fun i => if i = j then A i + 1 else A i) = sumN n A + 1 := by
  have := sumN_dec (g := fun i => if i = j then A i + 1 else A i) (h := A) n j hj (fun i hi => by simp [hi]) (by simp)
  omega
theorem cbs_ran {ts : List DT} {now : Nat} {b : Option Nat} (h : Cbs ts now) (hok : ∀ x ∈ ts, DOk now x) (hpast : ∀ x ∈ ts, DPast now x) (hb : IsFirst ts ts.length b) : Cbs (ranTs ts b) (now + 1) := by
  intro d hd
  by_cases hex : ∃ (i : Nat) (x : DT), ts[i]? = some x ∧ elig x = true ∧ x.d ≤ d
  · obtain ⟨i, x, hx, hex, hxd⟩ := hex
    obtain ⟨t0, A, h1, h2, h3⟩ := h d (by omega)
    have hi : i < ts.length := (List.getElem?_eq_some_iff.1 hx).1
    cases b with
    | none => have := hb i x hi hx; rw [this] at hex; cases hex
    | some j =>
      obtain ⟨y, hj, hy, hey, hmin⟩ := hb
      have ha := hmin i x hi hx hex
      have hyd : y.d ≤ d := by unfold ahead at ha; omega
      have hoy := hok y (List.mem_of_getElem? hy)
      have hl1 : 1 ≤ y.l := by
        have h0 : y.o = false := by unfold elig at hey; simp at hey; exact hey.2
        rcases Nat.eq_zero_or_pos y.l with hl | hl
        · have := hoy.oz.2 hl; rw [h0] at this; cases this
        · exact hl
      refine ⟨t0, fun i => if i = j then A i + 1 else A i, by omega, ?_, fun k z hz => ?_⟩
      · rw [ranTs_len, sumN_one _ _ _ hj]; omega
      · rw [ranTs_get] at hz
        cases hk : ts[k]? with
        | none => rw [hk] at hz; cases hz
        | some v =>
          rw [hk] at hz
          simp only [Option.map_some, Option.some.injEq] at hz
          have hv := h3 k v hk
          by_cases hkj : k = j
          · subst hkj
            rw [hy] at hk; injection hk with hk; subst hk
            simp only [if_true] at hz ⊢
            rw [← hz]
            exact hv.run hey hyd hl1
          · rw [if_neg (fun hh => hkj hh.symm)] at hz
            simp only [id] at hz
            subst hz
            simp only [hkj, if_false]
            exact hv.wait
  · refine ⟨now + 1, fun _ => 0, Nat.le_refl _, ?_, fun k z hz => ?_⟩
    · rw [sumN_zero]; omega
    · rw [ranTs_get] at hz
      cases hk : ts[k]? with
      | none => rw [hk] at hz; cases hz
      | some v =>
        rw [hk] at hz
        simp only [Option.map_some, Option.some.injEq] at hz
        have hm := List.mem_of_getElem? hk
        have hv : ¬ (elig v = true ∧ v.d ≤ d) := fun hh => hex ⟨k, v, hk, hh.1, hh.2⟩
        by_cases hkb : b = some k
        · rw [if_pos hkb] at hz
          subst hkb
          obtain ⟨y, hj, hy, hey, hmin⟩ := hb
          rw [hk] at hy; injection hy with hy; subst hy
          have : ¬ v.d ≤ d := fun hh => hv ⟨hey, hh⟩
          rw [← hz]
          unfold Cond
          rw [if_neg (show ¬ (runD v).d ≤ d from this)]
          simp
        · rw [if_neg hkb] at hz
          simp only [id] at hz
          subst hz
          exact Cond.anew (hok v hm) (hpast v hm) hv
theorem cbs_pass {ts : List DT} {now : Nat} (h : Cbs ts now) (hoz : ∀ x ∈ ts, x.o = true → x.l = 0) : Cbs (ts.map (passT now)) now := by
  intro d hd
  obtain ⟨t0, A, h1, h2, h3⟩ := h d hd
  refine ⟨t0, A, h1, by rw [List.length_map]; exact h2, fun i z hz => ?_⟩
  rw [List.getElem?_map] at hz
  cases hk : ts[i]? with
  | none => rw [hk] at hz; cases hz
  | some v =>
    rw [hk] at hz
    simp only [Option.map_some, Option.some.injEq] at hz
    rw [← hz]
    exact (h3 i v hk).pass (hoz v (List.mem_of_getElem? hk)) hd
/-- Shares that fit come to no more than there is. -/
theorem fit_sum {l : List Use} (hok : ∀ u ∈ l, u.ok) (hf : fit l 1) {B : Nat → Nat} {X : Nat} (h : ∀ i, i < l.length → B i * pe l i ≤ X * co l i) : sumN l.length B ≤ X := by
  have hD := rnd_pos hok
  have hfd : dem (rnd l) l ≤ rnd l := by unfold fit at hf; omega
  refine Nat.le_of_mul_le_mul_right (c := rnd l) ?_ hD
  have e1 : ∀ n, n ≤ l.length → sumN n B * rnd l ≤ X * sumN n (fun i => rnd l / pe l i * co l i) := by
    intro n
    induction n with
    | zero => intro _; simp [sumN]
    | succ n ih =>
      intro hn
      rw [sumN, sumN, Nat.add_mul, Nat.mul_add]
      refine Nat.add_le_add (ih (by omega)) ?_
      have hp := pe_ok hok n
      obtain ⟨q, hq⟩ : pe l n ∣ rnd l := by rw [pe_at l n (by omega)]; exact mem_rnd (List.getElem_mem _)
      have hh := h n (by omega)
      rw [hq, Nat.mul_div_cancel_left _ (by omega)]
      have := Nat.mul_le_mul_right q hh
      rw [← Nat.mul_assoc, Nat.mul_comm q, ← Nat.mul_assoc]
      exact this
  have := e1 l.length (Nat.le_refl _)
  rw [← dem_sumN] at this
  exact Nat.le_trans this (Nat.mul_le_mul_left _ hfd)
theorem uses_at (ts : List DT) (i : Nat) (x : DT) (h : ts[i]? = some x) : pe (usesOf ts) i = x.p ∧ co (usesOf ts) i = x.b := by
  unfold pe co usesOf
  simp [List.getD_eq_getElem?_getD, h]
theorem uses_ok {ts : List DT} {now : Nat} (h : ∀ x ∈ ts, DOk now x) : ∀ u ∈ usesOf ts, u.ok := by
  intro u hu
  obtain ⟨x, hx, rfl⟩ := List.mem_map.1 hu
  exact ⟨(h x hx).b1, (h x hx).b2, (h x hx).p2⟩
/-- Who is ready has nothing left at its deadline. -/
theorem cbs_due {ts : List DT} {now : Nat} (h : Cbs ts now) (hok : ∀ x ∈ ts, DOk now x) (hf : fit (usesOf ts) 1) {i : Nat} {x : DT} (hx : ts[i]? = some x) (hr : x.r = true) (hd : x.d ≤ now) : x.l = 0 := by
  obtain ⟨t0, A, h1, h2, h3⟩ := h now (Nat.le_refl _)
  have hi : i < ts.length := (List.getElem?_eq_some_iff.1 hx).1
  have hlen : (usesOf ts).length = ts.length := by simp [usesOf]
  have := fit_sum (uses_ok hok) hf (B := fun j => A j + if j = i then x.l else 0) (X := now - t0) (fun j hj => by
    rw [hlen] at hj
    obtain ⟨u1, u2⟩ := uses_at ts j ts[j] (List.getElem?_eq_getElem hj)
    rw [u1, u2]
    by_cases hji : j = i
    · subst hji
      have e : ts[j] = x := (List.getElem?_eq_some_iff.1 hx).2
      rw [e]
      have hc := h3 j x hx
      unfold Cond at hc
      rw [if_pos hd] at hc
      rcases hc with ⟨c1, c2⟩ | ⟨c1, _⟩
      · simp only [if_true]
        exact Nat.le_trans c2 (Nat.mul_le_mul_right _ (by omega))
      · rw [hr] at c1; cases c1
    · simp only [hji, if_false, Nat.add_zero]
      exact (h3 j _ (List.getElem?_eq_getElem hj)).mul_le h1 (Nat.le_refl _))
  rw [hlen, sumN_add] at this
  have hs := sumN_mem (g := fun j => if j = i then x.l else 0) ts.length i hi
  simp only [if_true] at hs
  omega
/-- What one that is always ready has had. -/
structure Giv (now g : Nat) (x : DT) : Prop where
  r : x.r = true
  dv : x.p ∣ x.d
  gl : g + x.l = x.d / x.p * x.b
  lo : now < x.d
  hi : x.d ≤ now + x.p
  fresh : x.p ∣ now → x.l = x.b
theorem giv_new {t b p : Nat} (hp : 1 ≤ p) : Giv 0 0 (newT t b p 0) := by
  refine ⟨rfl, ?_, ?_, ?_, ?_, fun _ => rfl⟩
  · simp [newT]
  · simp only [newT, Nat.zero_add]; rw [Nat.div_self (by omega)]; omega
  · simp [newT]; omega
  · simp [newT]
/-- Once a tick goes by. -/
theorem giv_pass {now g : Nat} {x : DT} (hok : DOk now x) (hr : x.r = true) (hdv : x.p ∣ x.d) (hgl : g + x.l = x.d / x.p * x.b) (hlo : now < x.d) (hhi : x.d ≤ now + x.p) (hdue : x.d ≤ now + 1 → x.l = 0) : Giv (now + 1) g (passT (now + 1) x) := by
  have hp := hok.b1
  have hp2 := hok.b2
  by_cases hd : x.d ≤ now + 1
  · have hl := hdue hd
    have ho := hok.oz.2 hl
    have e : passT (now + 1) x = { x with o := false, l := x.b, d := x.d + x.p } := by simp [passT, ho, hd]
    rw [e]
    refine ⟨hr, Nat.dvd_add hdv (Nat.dvd_refl _), ?_, ?_, ?_, fun _ => rfl⟩
    · show g + x.b = (x.d + x.p) / x.p * x.b
      rw [Nat.add_div_right _ (by omega), Nat.succ_mul, ← hgl, hl]; omega
    · show now + 1 < x.d + x.p
      omega
    · show x.d + x.p ≤ now + 1 + x.p
      omega
  · have e : passT (now + 1) x = x := by simp [passT, hd]
    rw [e]
    refine ⟨hr, hdv, hgl, by omega, by omega, fun hdn => ?_⟩
    obtain ⟨q, hq⟩ := hdv
    obtain ⟨m, hm⟩ := hdn
    have h1 : m < q := by
      refine Nat.lt_of_mul_lt_mul_left (a := x.p) ?_
      omega
    have h2 : x.p * (m + 1) ≤ x.p * q := Nat.mul_le_mul_left _ h1
    rw [Nat.mul_add] at h2
    omega
/-- At the end of a period it has had just its budgets. -/
theorem Giv.done {now g : Nat} {x : DT} (h : Giv now g x) (hp : 1 ≤ x.p) (hn : now % x.p = 0) : g = now / x.p * x.b := by
  have hd := Nat.dvd_of_mod_eq_zero hn
  have hf := h.fresh hd
  obtain ⟨m, rfl⟩ := hd
  obtain ⟨q, hq⟩ := h.dv
  have hlo := h.lo
  have hhi := h.hi
  rw [hq] at hlo hhi
  have h1 : m < q := Nat.lt_of_mul_lt_mul_left hlo
  have h2 : q ≤ m + 1 := by
    have h4 : x.p * q ≤ x.p * (m + 1) := by rw [Nat.mul_add]; omega
    exact Nat.le_of_mul_le_mul_left h4 (by omega)
  have h3 : q = m + 1 := by omega
  have hg := h.gl
  rw [hq, h3, Nat.mul_div_cancel_left _ (by omega), hf, Nat.succ_mul] at hg
  rw [Nat.mul_div_cancel_left _ (by omega)]
  omega
end Go.Proofs.Ythcgeigijnbpkaa
