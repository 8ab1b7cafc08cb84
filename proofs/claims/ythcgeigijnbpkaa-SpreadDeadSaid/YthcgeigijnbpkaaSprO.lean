/- Plain model of package spread on one processor, where all are ready all the time. No program in sight; no condition. -/
import Derived.Test.YthcgeigijnbpkaaSprM
namespace Go.Proofs.Ythcgeigijnbpkaa
set_option linter.unusedVariables false
/-- On one processor: so many tasks, by their numbers, all ready, and who runs. -/
structure OneS (P : Nat → ST → Prop) (n run : Nat) (s : SR) : Prop where
  nn : s.n = 1
  len : s.ts.length = n
  each : ∀ (i : Nat) (x : ST), s.ts[i]? = some x → P i x ∧ x.t = (i : Int) + 1 ∧ x.cl ≠ 3 ∧ x.r = true ∧ x.o = false ∧ x.pin = 1 ∧ x.cpu = if i = run then 0 else -1
/-- A property that does not ask where a task runs, and since when. -/
def Free (P : Nat → ST → Prop) : Prop := ∀ i x c k, P i x → P i { x with cpu := c, si := k }
theorem one_wait {x : ST} (h1 : x.r = true) (h2 : x.o = false) (h3 : x.cpu = -1) : waitB x = true := by unfold waitB; rw [h1, h2, h3]; rfl
theorem one_pin {x : ST} (h : x.pin = 1) : pinB x 0 = true := by unfold pinB; rw [h]; rfl
theorem one_new {P : Nat → ST → Prop} : OneS P 0 0 ⟨1, 0, 0, []⟩ := ⟨rfl, rfl, fun i x h => by simp at h⟩
theorem one_on {P : Nat → ST → Prop} {n run : Nat} {s : SR} (h : OneS P n run s) (hr : run < n) : onI s.ts 0 = some run := by
  have hx := List.getElem?_eq_getElem (l := s.ts) (i := run) (by rw [h.len]; exact hr)
  have := (h.each run _ hx).2.2.2.2.2.2
  rw [if_pos rfl] at this
  refine on_is hx this (fun j y hy hc => ?_)
  have h2 := (h.each j y hy).2.2.2.2.2.2
  rw [hc] at h2
  by_cases hj : j = run
  · exact hj
  · rw [if_neg hj] at h2; omega
theorem one_add {P : Nat → ST → Prop} (hP : Free P) {n : Nat} {s : SR} (h : OneS P n 0 s) {cl va : Int} (hcl : cl ≠ 3) (hp : P n (entT s (newS ((n : Int) + 1) cl va))) :
    (s.doAdd ((n : Int) + 1) cl va).2 = 0 ∧ OneS P (n + 1) 0 (s.doAdd ((n : Int) + 1) cl va).1 := by
  have hw : s.who ((n : Int) + 1) = none := who_none (fnd_no (fun j y hy => by
    have := (h.each j y hy).2.1
    have := (List.getElem?_eq_some_iff.1 hy).1
    have := h.len
    omega))
  have e : s.doAdd ((n : Int) + 1) cl va = (s.enter (newS ((n : Int) + 1) cl va), 0) := by unfold SR.doAdd; rw [hw]
  rw [e]
  refine ⟨rfl, ?_⟩
  show OneS P (n + 1) 0 (s.enter (newS ((n : Int) + 1) cl va))
  obtain ⟨y, hy⟩ : ∃ y, y = entT s (newS ((n : Int) + 1) cl va) := ⟨_, rfl⟩
  rw [← hy] at hp
  have y1 : y.t = (n : Int) + 1 ∧ y.cl ≠ 3 ∧ y.r = true ∧ y.o = false ∧ y.pin = 1 := by
    rw [hy]
    refine ⟨rfl, hcl, rfl, rfl, ?_⟩
    show 2 ^ s.n - 1 = 1
    rw [h.nn]
  obtain ⟨y1, y2, y3, y4, y5⟩ := y1
  -- the run with the new task, that waits
  have key : ∀ (i : Nat) (x : ST), (upd (s.ts ++ [y]) n (fun x => { x with cpu := -1, si := s.st + 1 }))[i]? = some x → P i x ∧ x.t = (i : Int) + 1 ∧ x.cl ≠ 3 ∧ x.r = true ∧ x.o = false ∧ x.pin = 1 ∧ x.cpu = if i = 0 ∧ 0 < n then 0 else -1 := by
    intro i x hx
    rw [upd_get] at hx
    split at hx
    · rename_i hi
      subst hi
      rw [List.getElem?_append_right (by rw [h.len]; exact Nat.le_refl _), h.len, Nat.sub_self] at hx
      simp at hx
      subst hx
      exact ⟨hP _ _ _ _ hp, y1, y2, y3, y4, y5, by rw [if_neg (by omega)]⟩
    · rename_i hi
      have hl : i < n := by
        have := (List.getElem?_eq_some_iff.1 hx).1
        rw [List.length_append, h.len] at this
        simp at this
        omega
      rw [List.getElem?_append_left (by rw [h.len]; exact hl)] at hx
      obtain ⟨a1, a2, a3, a4, a5, a6, a7⟩ := h.each i x hx
      refine ⟨a1, a2, a3, a4, a5, a6, ?_⟩
      rw [a7]
      by_cases h0 : i = 0
      · rw [if_pos h0, if_pos ⟨h0, by omega⟩]
      · rw [if_neg h0, if_neg (fun hh => h0 hh.1)]
  have e2 : s.enter (newS ((n : Int) + 1) cl va) = (⟨s.n, s.tk, s.st + 1, upd (s.ts ++ [y]) n (fun x => { x with cpu := -1, si := s.st + 1 })⟩ : SR).fill := by
    unfold SR.enter SR.wait
    rw [hy, h.len]
  rw [e2]
  obtain ⟨us, hus⟩ : ∃ us, us = upd (s.ts ++ [y]) n (fun x => { x with cpu := -1, si := s.st + 1 }) := ⟨_, rfl⟩
  have hul : us.length = n + 1 := by rw [hus, upd_len, List.length_append, h.len]; rfl
  rw [← hus] at key ⊢
  have hx0 := List.getElem?_eq_getElem (l := us) (i := 0) (by omega)
  generalize us[0] = x0 at hx0
  obtain ⟨a1, a2, a3, a4, a5, a6, a7⟩ := key 0 x0 hx0
  by_cases hn : 0 < n
  · rw [if_pos ⟨rfl, hn⟩] at a7
    have hon : onI us 0 = some 0 := on_is hx0 a7 (fun j z hz hc => by
      have := (key j z hz).2.2.2.2.2.2
      rw [hc] at this
      by_cases hj : j = 0
      · exact hj
      · rw [if_neg (fun hh => hj hh.1)] at this; omega)
    rw [fill_one_on (s := ⟨s.n, s.tk, s.st + 1, us⟩) h.nn hon]
    refine ⟨h.nn, hul, fun i x hx => ?_⟩
    obtain ⟨b1, b2, b3, b4, b5, b6, b7⟩ := key i x hx
    refine ⟨b1, b2, b3, b4, b5, b6, ?_⟩
    rw [b7]
    by_cases h0 : i = 0
    · rw [if_pos ⟨h0, hn⟩, if_pos h0]
    · rw [if_neg (fun hh => h0 hh.1), if_neg h0]
  · rw [if_neg (fun hh => hn hh.2)] at a7
    have h1 : ∀ (j : Nat) (z : ST), us[j]? = some z → j = 0 := fun j z hz => by have := (List.getElem?_eq_some_iff.1 hz).1; omega
    have hon : onI us 0 = none := on_no (fun j z hz => by
      have := (key j z hz).2.2.2.2.2.2
      rw [if_neg (fun hh => hn hh.2)] at this
      omega)
    have hbest : bestI us 0 = some 0 := best_is hx0 (one_wait a4 a5 a7) (one_pin a6) (fun j z hz hj => absurd (h1 j z hz) hj)
    rw [fill_one_to (s := ⟨s.n, s.tk, s.st + 1, us⟩) h.nn hon hbest]
    refine ⟨h.nn, by show (upd us 0 _).length = _; rw [upd_len]; exact hul, fun i x hx => ?_⟩
    have hx' : (upd us 0 (fun x => { x with cpu := 0 }))[i]? = some x := hx
    have hi : i = 0 := by have := (List.getElem?_eq_some_iff.1 hx').1; rw [upd_len] at this; omega
    subst hi
    rw [upd_get, if_pos rfl, hx0] at hx'
    simp at hx'
    subst hx'
    exact ⟨by have := hP _ _ 0 x0.si a1; exact this, a2, a3, a4, a5, a6, by rw [if_pos rfl]⟩
theorem gone_f (st : Int) (x : ST) : (gone st x).t = x.t ∧ (gone st x).cl = x.cl ∧ (gone st x).r = x.r ∧ (gone st x).pin = x.pin ∧ (gone st x).cpu = -1 := by
  unfold gone runT
  split
  · exact ⟨rfl, rfl, rfl, rfl, rfl⟩
  · split <;> exact ⟨rfl, rfl, rfl, rfl, rfl⟩
/-- A tick: who ran waits, and the best of all runs. -/
theorem one_tick {P P' : Nat → ST → Prop} (hP' : Free P') {n run : Nat} {s : SR} (h : OneS P n run s) (hr : run < n) (h1 : ∀ i x, i ≠ run → P i x → P' i x) (h2 : ∀ x, s.ts[run]? = some x → P run x → P' run (gone s.st x)) :
    ∃ j, j < n ∧ OneS P' n j (s.tick 0) ∧ (∀ (k : Nat) (y x : ST), (upd s.ts run (gone s.st))[k]? = some y → (upd s.ts run (gone s.st))[j]? = some x → ¬ Better y x) ∧ (s.tick 0).st = s.st + 1 ∧ (s.tick 0).tk = s.tk + 1 ∧
      (s.tick 0).ts = upd (upd s.ts run (gone s.st)) j (fun x => { x with cpu := 0 }) := by
  have hon := one_on h hr
  have et := tick_calm (c := 0) hon (fun x hx => by
    obtain ⟨i, hi⟩ := List.mem_iff_getElem?.1 hx
    exact (h.each i x hi).2.2.2.2.1) (fun x hx => (h.each run x hx).2.2.1)
  obtain ⟨us, hus⟩ : ∃ us, us = upd s.ts run (gone s.st) := ⟨_, rfl⟩
  rw [← hus] at et ⊢
  have hul : us.length = n := by rw [hus, upd_len, h.len]
  have key : ∀ (i : Nat) (x : ST), us[i]? = some x → P' i x ∧ x.t = (i : Int) + 1 ∧ x.cl ≠ 3 ∧ x.r = true ∧ x.o = false ∧ x.pin = 1 ∧ x.cpu = -1 := by
    intro i x hx
    rw [hus, upd_get] at hx
    split at hx
    · rename_i hi
      subst hi
      obtain ⟨z, hz⟩ : ∃ z, s.ts[run]? = some z := ⟨_, List.getElem?_eq_getElem (by rw [h.len]; exact hr)⟩
      rw [hz] at hx
      simp at hx
      subst hx
      obtain ⟨a1, a2, a3, a4, a5, a6, a7⟩ := h.each run z hz
      obtain ⟨g1, g2, g3, g4, g5⟩ := gone_f s.st z
      exact ⟨h2 z hz a1, by rw [g1]; exact a2, by rw [g2]; exact a3, by rw [g3]; exact a4, run_o a3 a5, by rw [g4]; exact a6, g5⟩
    · rename_i hi
      obtain ⟨a1, a2, a3, a4, a5, a6, a7⟩ := h.each i x hx
      exact ⟨h1 i x (fun hh => hi hh.symm) a1, a2, a3, a4, a5, a6, by rw [a7, if_neg (fun hh => hi hh.symm)]⟩
  have hon2 : onI us 0 = none := on_no (fun j z hz => by have := (key j z hz).2.2.2.2.2.2; omega)
  cases hb : bestI us 0 with
  | none =>
    exfalso
    have hz := List.getElem?_eq_getElem (l := us) (i := run) (by rw [hul]; exact hr)
    obtain ⟨_, _, _, a4, a5, a6, a7⟩ := key run _ hz
    exact bestK_none hb (by rw [hul]; exact hr) hz ⟨one_wait a4 a5 a7, one_pin a6⟩
  | some j =>
    obtain ⟨hj, xj, hxj, _⟩ := bestK_lt hb
    rw [hul] at hj
    rw [fill_one_to (s := ⟨s.n, s.tk + 1, s.st + 1, us⟩) h.nn hon2 hb] at et
    refine ⟨j, hj, ?_, fun k y x hy hx => ?_, by rw [et], by rw [et], by rw [et]⟩
    · rw [et]
      refine ⟨h.nn, by show (upd us j _).length = _; rw [upd_len, hul], fun i x hx => ?_⟩
      have hx' : (upd us j (fun x => { x with cpu := 0 }))[i]? = some x := hx
      rw [upd_get] at hx'
      split at hx'
      · rename_i hi
        subst hi
        rw [hxj] at hx'
        simp at hx'
        subst hx'
        obtain ⟨a1, a2, a3, a4, a5, a6, a7⟩ := key j xj hxj
        exact ⟨by have := hP' _ _ 0 xj.si a1; exact this, a2, a3, a4, a5, a6, by rw [if_pos rfl]⟩
      · rename_i hi
        obtain ⟨a1, a2, a3, a4, a5, a6, a7⟩ := key i x hx'
        exact ⟨a1, a2, a3, a4, a5, a6, by rw [a7, if_neg (fun hh => hi hh.symm)]⟩
    · obtain ⟨_, _, _, a4, a5, a6, a7⟩ := key k y hy
      exact bestK_best hb hx (by have := (List.getElem?_eq_some_iff.1 hy).1; exact this) hy (one_wait a4 a5 a7) (one_pin a6)
theorem one_pick {P : Nat → ST → Prop} {n run : Nat} {s : SR} (h : OneS P n run s) (hr : run < n) : pickV s 0 = .tuple #[.int .i64 ((run : Int) + 1), .int .i64 0] := by
  have hx := List.getElem?_eq_getElem (l := s.ts) (i := run) (by rw [h.len]; exact hr)
  rw [pick_some (one_on h hr) hx, (h.each run _ hx).2.1]
end Go.Proofs.Ythcgeigijnbpkaa
