/- Plain facts on tasks with budgets beside others on one processor: a tick of the run is a tick of the class of budgets. No program in sight; no condition. -/
import Derived.Test.YthcgeigijnbpkaaSpr12
import Derived.Test.YthcgeigijnbpkaaSprO
import Derived.Test.YthcgeigijnbpkaaCbsQ
namespace Go.Proofs.Ythcgeigijnbpkaa
set_option linter.unusedVariables false
/-- A task of a run is one with a budget. -/
structure DV (x : ST) (y : DT) : Prop where
  t : x.t = (y.t : Int)
  cl : x.cl = 3
  mo : x.mo = 0
  bu : x.bu = (y.b : Int)
  pe : x.pe = (y.p : Int)
  le : x.le = (y.l : Int)
  du : x.du = (y.d : Int)
  r : x.r = true
  yr : y.r = true
  o : x.o = y.o
  pin : x.pin = 1
/-- Another task. -/
structure OV (x : ST) : Prop where
  t : 9 ≤ x.t
  cl : x.cl = 1 ∨ x.cl = 2
  mo : x.mo = 0
  r : x.r = true
  o : x.o = false
  pin : x.pin = 1
/-- The run is the class of budgets, and others behind it; who runs. -/
structure DI (now : Nat) (ds : List DT) (run : Option Nat) (s : SR) : Prop where
  nn : s.n = 1
  tk : s.tk = (now : Int)
  dl : ds.length ≤ s.ts.length
  dv : ∀ (i : Nat) y x, ds[i]? = some y → s.ts[i]? = some x → DV x y
  ov : ∀ (i : Nat) x, ds.length ≤ i → s.ts[i]? = some x → OV x
  cpu : ∀ (i : Nat) x, s.ts[i]? = some x → x.cpu = if run = some i then 0 else -1
  rl : ∀ i, run = some i → i < s.ts.length
/-- Who runs, of the class. -/
def dOf (m : Nat) : Option Nat → Option Nat
  | none => none
  | some i => if i < m then some i else none
/-- Who runs at first. -/
def runOf (n : Nat) : Option Nat := if n = 0 then none else some 0
section
variable {now : Nat} {ds : List DT} {run : Option Nat} {s : SR}
theorem DI.on (h : DI now ds run s) : onI s.ts 0 = run := by
  cases hr : run with
  | none =>
    refine on_no (fun j y hy hc => ?_)
    have := h.cpu j y hy
    rw [hc, hr] at this
    simp at this
  | some i =>
    have hx := List.getElem?_eq_getElem (h.rl i hr)
    have h0 := h.cpu i _ hx
    rw [if_pos hr] at h0
    refine on_is hx h0 (fun j y hy hc => ?_)
    have h1 := h.cpu j y hy
    rw [hc, hr] at h1
    by_cases hj : some i = some j
    · injection hj with hj; exact hj.symm
    · rw [if_neg hj] at h1; omega
theorem DI.tm (h : DI now ds run s) : s.time = (now : Int) := by
  unfold SR.time
  rw [h.nn, h.tk]
  simp
theorem as_dv {x : ST} {y : DT} (h : DV x y) : asC x = 3 := by unfold asC; rw [if_neg (by rw [h.mo]; omega)]; exact h.cl
theorem as_ov {x : ST} (h : OV x) : asC x = 1 ∨ asC x = 2 := by unfold asC; rw [if_neg (by rw [h.mo]; omega)]; exact h.cl
theorem dv_better {x x' : ST} {y y' : DT} (h : DV x y) (h' : DV x' y') : Better x x' ↔ (y.d < y'.d ∨ y.d = y'.d ∧ y.t < y'.t) := by
  have a1 := as_dv h
  have a2 := as_dv h'
  have k1 : key1 x = (y.d : Int) := by unfold key1; rw [if_pos a1]; exact h.du
  have k2 : key2 x = (y.t : Int) := by unfold key2; rw [if_pos a1]; exact h.t
  have l1 : key1 x' = (y'.d : Int) := by unfold key1; rw [if_pos a2]; exact h'.du
  have l2 : key2 x' = (y'.t : Int) := by unfold key2; rw [if_pos a2]; exact h'.t
  unfold Better
  rw [a1, a2, k1, k2, l1, l2]
  omega
theorem dv_ov {x z : ST} {y : DT} (h : DV x y) (h' : OV z) : Better x z := by
  have a1 := as_dv h
  have a2 := as_ov h'
  unfold Better
  omega
theorem dv_wait {x : ST} {y : DT} (h : DV x y) (hc : x.cpu = -1) : waitB x = elig y := by
  unfold waitB elig
  rw [h.r, hc, h.o, h.mo, h.yr]
  simp
theorem DV.put {x : ST} {y : DT} (h : DV x y) (c k : Int) : DV { x with cpu := c, si := k } y := ⟨h.t, h.cl, h.mo, h.bu, h.pe, h.le, h.du, h.r, h.yr, h.o, h.pin⟩
theorem DV.onto {x : ST} {y : DT} (h : DV x y) (c : Int) : DV { x with cpu := c } y := h.put c x.si
theorem OV.put {x : ST} (h : OV x) (c k : Int) : OV { x with cpu := c, si := k } := ⟨h.t, h.cl, h.mo, h.r, h.o, h.pin⟩
theorem OV.onto {x : ST} (h : OV x) (c : Int) : OV { x with cpu := c } := h.put c x.si
theorem DV.ran {x : ST} {y : DT} (h : DV x y) (ho : y.o = false) (hl : 1 ≤ y.l) : DV (runT x) (runD y) := by
  have e : runT x = { x with le := x.le - 1, o := decide (x.le - 1 = 0) } := by
    unfold runT
    rw [if_neg (by rw [h.cl]; omega), if_pos ⟨h.cl, by rw [h.o]; exact ho⟩]
  rw [e]
  refine ⟨h.t, h.cl, h.mo, h.bu, h.pe, ?_, h.du, h.r, h.yr, ?_, h.pin⟩
  · show x.le - 1 = ((y.l - 1 : Nat) : Int)
    have := h.le
    omega
  · show decide (x.le - 1 = 0) = decide (y.l = 1)
    have := h.le
    rw [decide_eq_decide]
    omega
theorem OV.ran {x : ST} (h : OV x) : OV (runT x) := by
  unfold runT
  split
  · exact ⟨h.t, h.cl, h.mo, h.r, h.o, h.pin⟩
  · rw [if_neg (fun hh => by have := h.cl; omega)]
    exact h
theorem DV.ref {x : ST} {y : DT} (h : DV x y) (n : Nat) : DV (refT (n : Int) x) (passT n y) := by
  unfold refT passT
  have hd := h.du
  have ho := h.o
  by_cases hc : y.o = true ∧ y.d ≤ n
  · rw [if_pos hc, if_pos ⟨by rw [ho]; exact hc.1, by omega⟩]
    refine ⟨h.t, h.cl, h.mo, h.bu, h.pe, h.bu, ?_, h.r, h.yr, rfl, h.pin⟩
    show x.du + x.pe = ((y.d + y.p : Nat) : Int)
    have := h.pe
    omega
  · rw [if_neg hc, if_neg (fun hh => hc ⟨by rw [← ho]; exact hh.1, by omega⟩)]
    exact h
theorem OV.ref {x : ST} (h : OV x) (n : Int) : OV (refT n x) := by rw [ref_no h.o]; exact h
theorem ref_cpu (n : Int) (x : ST) : (refT n x).cpu = x.cpu := by unfold refT; split <;> rfl
/-- What a tick makes of a task, ahead of who is best. -/
def tkd (run : Option Nat) (now st : Int) (i : Nat) (x : ST) : ST := if run = some i then { refT now (runT x) with cpu := -1, si := st + 1 } else refT now x
theorem tick3_at (h : DI now ds run s) : (s.tick3 0).n = 1 ∧ (s.tick3 0).tk = ((now + 1 : Nat) : Int) ∧ (s.tick3 0).ts.length = s.ts.length ∧ ∀ i, (s.tick3 0).ts[i]? = (s.ts[i]?).map (tkd run ((now + 1 : Nat) : Int) s.st i) := by
  have hon := h.on
  cases hr : run with
  | none =>
    rw [hr] at hon
    have e1 : s.tick1 0 = { s with tk := s.tk + 1 } := by unfold SR.tick1; rw [hon]
    have et : (s.tick1 0).time = ((now + 1 : Nat) : Int) := by rw [e1]; unfold SR.time; show (s.tk + 1) / (s.n : Int) = _; rw [h.nn, h.tk]; simp
    have e2 : s.tick2 0 = { s with tk := s.tk + 1, ts := s.ts.map (refT ((now + 1 : Nat) : Int)) } := by unfold SR.tick2; rw [et, e1]
    have hon2 : onI (s.tick2 0).ts 0 = none := by
      rw [e2]
      refine on_no (fun j y hy hc => ?_)
      have hy' : (s.ts.map (refT ((now + 1 : Nat) : Int)))[j]? = some y := hy
      rw [List.getElem?_map] at hy'
      cases hz : s.ts[j]? with
      | none => rw [hz] at hy'; cases hy'
      | some z =>
        rw [hz] at hy'
        simp only [Option.map_some, Option.some.injEq] at hy'
        subst hy'
        rw [ref_cpu] at hc
        exact on_none_iff hon j z hz hc
    have e3 : s.tick3 0 = s.tick2 0 := by unfold SR.tick3; rw [hon2]
    rw [e3, e2]
    refine ⟨h.nn, ?_, ?_, fun i => ?_⟩
    · show s.tk + 1 = _; rw [h.tk]; omega
    · show (s.ts.map _).length = _; simp
    · show (s.ts.map _)[i]? = _
      rw [List.getElem?_map]
      cases s.ts[i]? with
      | none => rfl
      | some z => simp only [Option.map_some]; unfold tkd; rw [if_neg (by simp)]
  | some k =>
    rw [hr] at hon
    have e1 : s.tick1 0 = { s with tk := s.tk + 1, ts := upd s.ts k runT } := by unfold SR.tick1; rw [hon]
    have et : (s.tick1 0).time = ((now + 1 : Nat) : Int) := by rw [e1]; unfold SR.time; show (s.tk + 1) / (s.n : Int) = _; rw [h.nn, h.tk]; simp
    have e2 : s.tick2 0 = { s with tk := s.tk + 1, ts := (upd s.ts k runT).map (refT ((now + 1 : Nat) : Int)) } := by unfold SR.tick2; rw [et, e1]
    obtain ⟨x, hx, hxc, _⟩ := idx_get hon
    have hxc := of_decide_eq_true hxc
    have hon2 : onI (s.tick2 0).ts 0 = some k := by
      rw [e2]
      refine on_is (x := refT ((now + 1 : Nat) : Int) (runT x)) ?_ (by rw [ref_cpu, run_cpu]; exact hxc) (fun j y hy hc => ?_)
      · show ((upd s.ts k runT).map _)[k]? = _
        rw [List.getElem?_map, upd_get, if_pos rfl, hx]; rfl
      · have hy' : ((upd s.ts k runT).map (refT ((now + 1 : Nat) : Int)))[j]? = some y := hy
        rw [List.getElem?_map, upd_get] at hy'
        by_cases hkj : k = j
        · exact hkj.symm
        · rw [if_neg hkj] at hy'
          cases hz : s.ts[j]? with
          | none => rw [hz] at hy'; cases hy'
          | some z =>
            rw [hz] at hy'
            simp only [Option.map_some, Option.some.injEq] at hy'
            subst hy'
            rw [ref_cpu] at hc
            have h1 := h.cpu j z hz
            rw [hc, hr, if_neg (fun hh => hkj (by injection hh))] at h1
            omega
    have e3 : s.tick3 0 = (s.tick2 0).wait k := by unfold SR.tick3; rw [hon2]
    rw [e3, e2]
    refine ⟨h.nn, ?_, ?_, fun i => ?_⟩
    · show s.tk + 1 = _; rw [h.tk]; omega
    · show (upd ((upd s.ts k runT).map _) k _).length = _; rw [upd_len, List.length_map, upd_len]
    · show (upd ((upd s.ts k runT).map _) k _)[i]? = _
      rw [upd_get, List.getElem?_map, upd_get]
      unfold tkd
      by_cases hki : k = i
      · subst hki
        rw [if_pos rfl, if_pos rfl, hx]
        simp only [Option.map_some, if_true]
      · rw [if_neg hki, if_neg hki]
        cases s.ts[i]? with
        | none => rfl
        | some z => simp only [Option.map_some]; rw [if_neg (fun hh => hki (by injection hh))]
/-- Who goes behind it. -/
theorem di_fill {s : SR} (h : DI now ds none s) : ∃ run', DI now ds run' s.fill ∧ IsFirst ds ds.length (dOf ds.length run') ∧ s.fill.ts.length = s.ts.length := by
  have hon := h.on
  have hw : ∀ (i : Nat) (x : ST), s.ts[i]? = some x → x.cpu = -1 := fun i x hx => by have := h.cpu i x hx; rw [if_neg (by simp)] at this; exact this
  have hbd : ∀ (i : Nat) (y : DT), ds[i]? = some y → ∃ x, s.ts[i]? = some x ∧ DV x y := fun i y hy => by
    have hi : i < s.ts.length := Nat.lt_of_lt_of_le (List.getElem?_eq_some_iff.1 hy).1 h.dl
    exact ⟨_, List.getElem?_eq_getElem hi, h.dv i y _ hy (List.getElem?_eq_getElem hi)⟩
  have hpin : ∀ (i : Nat) (x : ST), s.ts[i]? = some x → pinB x 0 = true := fun i x hx => by
    by_cases hi : i < ds.length
    · exact one_pin (h.dv i _ x (List.getElem?_eq_getElem hi) hx).pin
    · exact one_pin (h.ov i x (by omega) hx).pin
  cases hb : bestI s.ts 0 with
  | none =>
    have e : s.fill = s := by rw [fill_one h.nn, hon]; simp only; rw [hb]
    rw [e]
    refine ⟨none, h, fun i y hi hy => ?_, rfl⟩
    obtain ⟨x, hx, hv⟩ := hbd i y hy
    have := bestK_none hb (List.getElem?_eq_some_iff.1 hx).1 hx
    rw [dv_wait hv (hw i x hx)] at this
    cases he : elig y with
    | false => rfl
    | true => exact absurd ⟨he, hpin i x hx⟩ this
  | some j =>
    have e := fill_one_to h.nn hon hb
    obtain ⟨hj, xj, hxj, hwj, hpj⟩ := bestK_lt hb
    have hget : ∀ (i : Nat) (x : ST), s.fill.ts[i]? = some x → ∃ z, s.ts[i]? = some z ∧ x = if j = i then { z with cpu := 0 } else z := by
      intro i x hx
      rw [e] at hx
      have hx' : (upd s.ts j (fun x => { x with cpu := 0 }))[i]? = some x := hx
      rw [upd_get] at hx'
      by_cases hji : j = i
      · rw [if_pos hji] at hx'
        subst hji
        rw [hxj] at hx'
        simp only [Option.map_some, Option.some.injEq] at hx'
        exact ⟨xj, hxj, by rw [if_pos rfl, hx']⟩
      · rw [if_neg hji] at hx'
        exact ⟨x, hx', by rw [if_neg hji]⟩
    have hlen : s.fill.ts.length = s.ts.length := by rw [e]; show (upd s.ts j _).length = _; rw [upd_len]
    refine ⟨some j, ⟨by rw [e]; exact h.nn, by rw [e]; exact h.tk, by rw [hlen]; exact h.dl, fun i y x hy hx => ?_, fun i x hi hx => ?_, fun i x hx => ?_, fun i hi => by injection hi with hi; rw [hlen, ← hi]; exact hj⟩, ?_, hlen⟩
    · obtain ⟨z, hz, rfl⟩ := hget i x hx
      have := h.dv i y z hy hz
      split
      · exact this.onto 0
      · exact this
    · obtain ⟨z, hz, rfl⟩ := hget i x hx
      have := h.ov i z hi hz
      split
      · exact this.onto 0
      · exact this
    · obtain ⟨z, hz, rfl⟩ := hget i x hx
      by_cases hji : j = i
      · rw [if_pos hji, if_pos (by rw [hji])]
      · rw [if_neg hji, if_neg (fun hh => hji (by injection hh))]
        exact hw i z hz
    · show IsFirst ds ds.length (if j < ds.length then some j else none)
      by_cases hjd : j < ds.length
      · rw [if_pos hjd]
        have hy := List.getElem?_eq_getElem hjd
        have hv := h.dv j _ xj hy hxj
        refine ⟨_, hjd, hy, by rw [← dv_wait hv (hw j xj hxj)]; exact hwj, fun i y hi hyi he => ?_⟩
        obtain ⟨x, hx, hvx⟩ := hbd i y hyi
        have := bestK_best hb hxj (List.getElem?_eq_some_iff.1 hx).1 hx (by rw [dv_wait hvx (hw i x hx)]; exact he) (hpin i x hx)
        rw [dv_better hvx hv] at this
        unfold ahead
        omega
      · rw [if_neg hjd]
        intro i y hi hyi
        obtain ⟨x, hx, hvx⟩ := hbd i y hyi
        cases he : elig y with
        | false => rfl
        | true => exact absurd (dv_ov hvx (h.ov j xj (by omega) hxj)) (bestK_best hb hxj (List.getElem?_eq_some_iff.1 hx).1 hx (by rw [dv_wait hvx (hw i x hx)]; exact he) (hpin i x hx))
/-- A tick of the run is a tick of the class. -/
theorem di_tick (h : DI now ds run s) (hok : ∀ x ∈ ds, DOk now x) (hf : IsFirst ds ds.length (dOf ds.length run)) :
    ∃ run', DI (now + 1) (tickTs now ds (dOf ds.length run)) run' (s.tick 0) ∧ IsFirst (tickTs now ds (dOf ds.length run)) (tickTs now ds (dOf ds.length run)).length (dOf (tickTs now ds (dOf ds.length run)).length run') ∧ (s.tick 0).ts.length = s.ts.length := by
  obtain ⟨t1, t2, t3, t4⟩ := tick3_at h
  have hl : (tickTs now ds (dOf ds.length run)).length = ds.length := by rw [tickTs_eq, List.length_map, ranTs_len]
  have hD : DI (now + 1) (tickTs now ds (dOf ds.length run)) none (s.tick3 0) := by
    refine ⟨t1, t2, by rw [hl, t3]; exact h.dl, fun i y x hy hx => ?_, fun i x hi hx => ?_, fun i x hx => ?_, fun i hi => by cases hi⟩
    · have hi : i < ds.length := by have := (List.getElem?_eq_some_iff.1 hy).1; rwa [hl] at this
      have hy0 := List.getElem?_eq_getElem hi
      rw [tick_at hy0] at hy
      injection hy with hy
      rw [t4] at hx
      cases hz : s.ts[i]? with
      | none => rw [hz] at hx; cases hx
      | some z =>
        rw [hz] at hx
        simp only [Option.map_some, Option.some.injEq] at hx
        have hv := h.dv i _ z hy0 hz
        rw [← hx, ← hy]
        unfold tkd
        by_cases hr : run = some i
        · rw [if_pos hr]
          have hdo : dOf ds.length run = some i := by rw [hr]; unfold dOf; simp only; rw [if_pos hi]
          rw [if_pos hdo]
          rw [hdo] at hf
          obtain ⟨y', _, hy', he, _⟩ := hf
          rw [hy0] at hy'
          injection hy' with hy'
          rw [← hy'] at he
          have ho : ds[i].o = false := by unfold elig at he; simp at he; exact he.2
          have hoz := (hok _ (List.getElem_mem hi)).oz
          have hl1 : 1 ≤ ds[i].l := by
            rcases Nat.eq_zero_or_pos ds[i].l with hl | hl
            · have := hoz.2 hl; rw [ho] at this; cases this
            · exact hl
          exact ((hv.ran ho hl1).ref (now + 1)).put _ _
        · rw [if_neg hr]
          have hdo : ¬ dOf ds.length run = some i := by
            intro hh
            cases hrr : run with
            | none => rw [hrr] at hh; cases hh
            | some k =>
              rw [hrr] at hh hr
              unfold dOf at hh
              simp only at hh
              split at hh
              · exact hr hh
              · cases hh
          rw [if_neg hdo]
          exact hv.ref (now + 1)
    · rw [hl] at hi
      rw [t4] at hx
      cases hz : s.ts[i]? with
      | none => rw [hz] at hx; cases hx
      | some z =>
        rw [hz] at hx
        simp only [Option.map_some, Option.some.injEq] at hx
        have hv := h.ov i z hi hz
        rw [← hx]
        unfold tkd
        split
        · exact (hv.ran.ref _).put _ _
        · exact hv.ref _
    · rw [if_neg (by simp)]
      rw [t4] at hx
      cases hz : s.ts[i]? with
      | none => rw [hz] at hx; cases hx
      | some z =>
        rw [hz] at hx
        simp only [Option.map_some, Option.some.injEq] at hx
        rw [← hx]
        unfold tkd
        split
        · rfl
        · rename_i hr
          rw [ref_cpu]
          have := h.cpu i z hz
          rwa [if_neg hr] at this
  obtain ⟨run', k1, k2, k3⟩ := di_fill hD
  exact ⟨run', k1, k2, k3.trans t3⟩
/-- A new task, behind all that are there. -/
theorem enter_at (h : DI 0 ds (runOf s.ts.length) s) (x : ST) (hw : waitB { entT s x with cpu := -1, si := s.st + 1 } = true) :
    (s.enter x).n = 1 ∧ (s.enter x).tk = 0 ∧ (s.enter x).ts.length = s.ts.length + 1 ∧ ∀ (i : Nat) z, (s.enter x).ts[i]? = some z → ∃ u, (if i = s.ts.length then u = entT s x else s.ts[i]? = some u) ∧ ∃ c k, z = { u with cpu := c, si := k } ∧ c = if runOf (s.ts.length + 1) = some i then 0 else -1 := by
  have hon := h.on
  have hpin : pinB { entT s x with cpu := -1, si := s.st + 1 } 0 = true := one_pin (by show 2 ^ s.n - 1 = 1; rw [h.nn])
  unfold SR.enter
  obtain ⟨s1, hs1⟩ : ∃ s1, s1 = (({ s with ts := s.ts ++ [entT s x] } : SR).wait s.ts.length) := ⟨_, rfl⟩
  rw [← hs1]
  have n1 : s1.n = 1 := by rw [hs1]; exact h.nn
  have k1 : s1.tk = 0 := by rw [hs1]; exact h.tk
  have l1 : s1.ts.length = s.ts.length + 1 := by rw [hs1]; show (upd _ _ _).length = _; rw [upd_len]; simp
  have g1 : ∀ i : Nat, i ≠ s.ts.length → s1.ts[i]? = s.ts[i]? := fun i hi => by
    rw [hs1]
    show (upd _ _ _)[i]? = _
    rw [upd_get, if_neg (fun hh => hi hh.symm)]
    by_cases hlt : i < s.ts.length
    · exact List.getElem?_append_left hlt
    · rw [List.getElem?_eq_none (by simp; omega), List.getElem?_eq_none (by omega)]
  have g2 : s1.ts[s.ts.length]? = some { entT s x with cpu := -1, si := s.st + 1 } := by
    rw [hs1]
    show (upd _ _ _)[s.ts.length]? = _
    rw [upd_get, if_pos rfl, List.getElem?_append_right (Nat.le_refl _), Nat.sub_self]
    rfl
  by_cases h0 : s.ts.length = 0
  · rw [h0] at g2 l1 hon ⊢
    have hon1 : onI s1.ts 0 = none := on_no (fun j z hz hc => by
      have := (List.getElem?_eq_some_iff.1 hz).1
      obtain rfl : j = 0 := by omega
      rw [g2] at hz
      injection hz with hz
      rw [← hz] at hc
      have : (-1 : Int) = 0 := hc
      omega)
    have hb : bestI s1.ts 0 = some 0 := best_is g2 hw hpin (fun j z hz hj => by have := (List.getElem?_eq_some_iff.1 hz).1; omega)
    rw [fill_one_to n1 hon1 hb]
    refine ⟨n1, k1, by show (upd s1.ts 0 _).length = _; rw [upd_len]; exact l1, fun i z hz => ?_⟩
    have hz' : (upd s1.ts 0 (fun x => { x with cpu := 0 }))[i]? = some z := hz
    have hi := (List.getElem?_eq_some_iff.1 hz').1
    rw [upd_len] at hi
    obtain rfl : i = 0 := by omega
    rw [upd_get, if_pos rfl, g2] at hz'
    simp only [Option.map_some, Option.some.injEq] at hz'
    exact ⟨_, by rw [if_pos rfl], 0, s.st + 1, hz'.symm, by rfl⟩
  · have hr : runOf s.ts.length = some 0 := by unfold runOf; rw [if_neg h0]
    rw [hr] at hon
    have hon1 : onI s1.ts 0 = some 0 := by
      obtain ⟨z, hz, hzc, _⟩ := idx_get hon
      have hzc := of_decide_eq_true hzc
      refine on_is (x := z) (by rw [g1 0 (fun hh => h0 hh.symm)]; exact hz) hzc (fun j y hy hc => ?_)
      by_cases hj : j = s.ts.length
      · subst hj
        rw [g2] at hy
        injection hy with hy
        rw [← hy] at hc
        have : (-1 : Int) = 0 := hc
        omega
      · rw [g1 j hj] at hy
        have := h.cpu j y hy
        rw [hc, hr] at this
        by_cases hj0 : some 0 = some j
        · injection hj0 with hj0; exact hj0.symm
        · rw [if_neg hj0] at this; omega
    rw [fill_one_on n1 hon1]
    refine ⟨n1, k1, l1, fun i z hz => ?_⟩
    have hr2 : runOf (s.ts.length + 1) = some 0 := by unfold runOf; rw [if_neg (by omega)]
    by_cases hi : i = s.ts.length
    · subst hi
      rw [g2] at hz
      injection hz with hz
      refine ⟨_, by rw [if_pos rfl], -1, s.st + 1, hz.symm, ?_⟩
      rw [hr2, if_neg (fun hh => h0 (by injection hh with hh; exact hh.symm))]
    · rw [g1 i hi] at hz
      refine ⟨z, by rw [if_neg hi]; exact hz, z.cpu, z.si, rfl, ?_⟩
      rw [h.cpu i z hz, hr, hr2]
theorem fit_part {l m : List Use} (hl : ∀ u ∈ l, u.ok ∧ u.p ∣ 120) (hf : fit l 1) (hm : ∀ u ∈ m, u.p ∣ 120) (hd : dem 120 m ≤ dem 120 l) : fit m 1 := by
  rw [fit_at (D := 120) hm (by omega)]
  rw [fit_at (D := 120) (fun u hu => (hl u hu).2) (by omega)] at hf
  omega
theorem usesK_of {l : List Use} (hlt : ds.length ≤ l.length) (hds : ds = addTs l ds.length) (h : DI 0 ds run s) (hlen : s.ts.length = ds.length) (u : Use) : ∀ k, k ≤ ds.length → usesK u s.ts k = u :: l.take k := by
  intro k
  induction k with
  | zero => intro _; simp [usesK]
  | succ k ih =>
    intro hk
    have hx := List.getElem?_eq_getElem (l := s.ts) (i := k) (by omega)
    have hy : ds[k]? = some (newT (k + 1) (co l k) (pe l k) 0) := by rw [hds]; exact addTs_get l _ k (by omega)
    have hv := h.dv k _ _ hy hx
    rw [usesK_at hx, if_pos hv.cl, ih (by omega)]
    have hul : useT s.ts[k] = l[k] := by
      unfold useT
      rw [hv.bu, hv.pe]
      simp only [newT, Int.toNat_natCast]
      rw [co_at l k (by omega), pe_at l k (by omega)]
    rw [hul, List.cons_append, List.take_succ_eq_append_getElem (by omega)]
/-- A task with a budget more. -/
theorem di_dead {l : List Use} {k : Nat} (hk : k < l.length) (hl : ∀ u ∈ l, u.ok ∧ u.p ∣ 120) (hf : fit l 1) (hs : s.ts.length = k) (h : DI 0 (addTs l k) (runOf k) s) :
    s.who (((k + 1 : Nat)) : Int) = none ∧ (s.doDead ((k + 1 : Nat) : Int) l[k].c l[k].p).2 = 0 ∧ (s.doDead ((k + 1 : Nat) : Int) l[k].c l[k].p).1 = s.enter (newD s ((k + 1 : Nat) : Int) l[k].c l[k].p) ∧
      (s.doDead ((k + 1 : Nat) : Int) l[k].c l[k].p).1.ts.length = k + 1 ∧ DI 0 (addTs l (k + 1)) (runOf (k + 1)) (s.doDead ((k + 1 : Nat) : Int) l[k].c l[k].p).1 := by
  have hal := addTs_len l k
  have hw : s.who (((k + 1 : Nat)) : Int) = none := by
    refine who_none (fnd_no (fun i x hx he => ?_))
    have hi := (List.getElem?_eq_some_iff.1 hx).1
    have := (h.dv i _ x (addTs_get l k i (by omega)) hx).t
    rw [he] at this
    simp only [newT] at this
    omega
  have hfb : fitsB s ⟨l[k].c, l[k].p⟩ = true := by
    unfold fitsB
    rw [decide_eq_true_eq, h.nn, hs, usesK_of (l := l) (by omega) (by rw [hal]) h (by omega) _ k (by omega)]
    have e : dem 120 ((⟨l[k].c, l[k].p⟩ : Use) :: l.take k) = dem 120 (l.take (k + 1)) := by rw [dem_take _ _ _ hk]; simp [dem]; omega
    refine fit_part hl hf (fun u hu => ?_) ?_
    · rcases List.mem_cons.1 hu with rfl | hu
      · exact (hl _ (List.getElem_mem hk)).2
      · exact (hl u (List.mem_of_mem_take hu)).2
    · rw [e]
      have : dem 120 l = dem 120 (l.take (k + 1)) + dem 120 (l.drop (k + 1)) := by rw [← dem_append, List.take_append_drop]
      omega
  have ed : s.doDead ((k + 1 : Nat) : Int) l[k].c l[k].p = (s.enter (newD s ((k + 1 : Nat) : Int) l[k].c l[k].p), 0) := by unfold SR.doDead; rw [hw]; simp only; rw [if_pos hfb]
  rw [ed]
  refine ⟨hw, rfl, rfl, ?_⟩
  show (s.enter _).ts.length = k + 1 ∧ DI 0 _ _ (s.enter _)
  have h' : DI 0 (addTs l k) (runOf s.ts.length) s := by rw [hs]; exact h
  obtain ⟨e1, e2, e3, e4⟩ := enter_at h' (newD s ((k + 1 : Nat) : Int) l[k].c l[k].p) (by rfl)
  rw [hs] at e3 e4
  refine ⟨e3, e1, e2, by rw [addTs_len, e3]; exact Nat.le_refl _, fun i y x hy hx => ?_, fun i x hi hx => ?_, fun i x hx => ?_, fun i hi => ?_⟩
  · have hi : i < k + 1 := by have := (List.getElem?_eq_some_iff.1 hy).1; rwa [addTs_len] at this
    rw [addTs_get l _ i hi] at hy
    injection hy with hy
    rw [← hy]
    obtain ⟨u, hu, c, q, rfl, hc⟩ := e4 i x hx
    refine DV.put ?_ c q
    by_cases hik : i = k
    · subst hik
      rw [if_pos rfl] at hu
      rw [hu]
      refine ⟨rfl, rfl, rfl, ?_, ?_, ?_, ?_, rfl, rfl, rfl, ?_⟩
      · show ((l[i].c : Nat) : Int) = ((co l i : Nat) : Int); rw [co_at l i hk]
      · show ((l[i].p : Nat) : Int) = ((pe l i : Nat) : Int); rw [pe_at l i hk]
      · show ((l[i].c : Nat) : Int) = ((co l i : Nat) : Int); rw [co_at l i hk]
      · show s.time + ((l[i].p : Nat) : Int) = ((0 + pe l i : Nat) : Int); rw [pe_at l i hk, h.tm]; simp
      · show 2 ^ s.n - 1 = 1; rw [h.nn]
    · rw [if_neg hik] at hu
      exact h.dv i _ u (addTs_get l k i (by omega)) hu
  · rw [addTs_len] at hi
    have := (List.getElem?_eq_some_iff.1 hx).1
    omega
  · obtain ⟨u, hu, c, q, rfl, hc⟩ := e4 i x hx
    exact hc
  · unfold runOf at hi
    rw [if_neg (by omega)] at hi
    injection hi with hi
    rw [e3]; omega
/-- Another task more. -/
theorem di_more {k : Nat} {cl va : Int} (hcl : cl = 1 ∨ cl = 2) (hk : ∀ (i : Nat) x, s.ts[i]? = some x → ds.length ≤ i → x.t = 9 + ((i - ds.length : Nat) : Int)) (hd8 : ∀ y ∈ ds, y.t ≤ 8) (hs : s.ts.length = ds.length + k) (h : DI 0 ds (runOf s.ts.length) s) :
    (s.doAdd (9 + (k : Int)) cl va).2 = 0 ∧ (s.doAdd (9 + (k : Int)) cl va).1 = s.enter (newS (9 + (k : Int)) cl va) ∧ (s.doAdd (9 + (k : Int)) cl va).1.ts.length = ds.length + (k + 1) ∧
      (∀ (i : Nat) x, (s.doAdd (9 + (k : Int)) cl va).1.ts[i]? = some x → ds.length ≤ i → x.t = 9 + ((i - ds.length : Nat) : Int)) ∧ DI 0 ds (runOf (s.doAdd (9 + (k : Int)) cl va).1.ts.length) (s.doAdd (9 + (k : Int)) cl va).1 := by
  have hw : s.who (9 + (k : Int)) = none := by
    refine who_none (fnd_no (fun i x hx he => ?_))
    have hi := (List.getElem?_eq_some_iff.1 hx).1
    by_cases hid : i < ds.length
    · have h1 := (h.dv i _ x (List.getElem?_eq_getElem hid) hx).t
      have h2 := hd8 _ (List.getElem_mem hid)
      rw [he] at h1
      omega
    · have := hk i x hx (by omega)
      rw [he] at this
      omega
  have ed : s.doAdd (9 + (k : Int)) cl va = (s.enter (newS (9 + (k : Int)) cl va), 0) := by unfold SR.doAdd; rw [hw]
  rw [ed]
  refine ⟨rfl, rfl, ?_⟩
  show (s.enter _).ts.length = _ ∧ (∀ (i : Nat) x, (s.enter _).ts[i]? = some x → _) ∧ DI 0 ds (runOf (s.enter _).ts.length) (s.enter _)
  obtain ⟨e1, e2, e3, e4⟩ := enter_at h (newS (9 + (k : Int)) cl va) (by rfl)
  refine ⟨by rw [e3]; omega, fun i x hx hi => ?_, e1, e2, by rw [e3, hs]; omega, fun i y x hy hx => ?_, fun i x hi hx => ?_, fun i x hx => ?_, fun i hi => ?_⟩
  · obtain ⟨u, hu, c, q, rfl, hc⟩ := e4 i x hx
    by_cases hik : i = s.ts.length
    · rw [if_pos hik] at hu
      rw [hu]
      show 9 + (k : Int) = _
      omega
    · rw [if_neg hik] at hu
      exact hk i u hu hi
  · have hi := (List.getElem?_eq_some_iff.1 hy).1
    obtain ⟨u, hu, c, q, rfl, hc⟩ := e4 i x hx
    rw [if_neg (by omega)] at hu
    exact (h.dv i y u hy hu).put c q
  · obtain ⟨u, hu, c, q, rfl, hc⟩ := e4 i x hx
    refine OV.put ?_ c q
    by_cases hik : i = s.ts.length
    · rw [if_pos hik] at hu
      rw [hu]
      exact ⟨by show 9 ≤ 9 + (k : Int); omega, hcl, rfl, rfl, rfl, by show 2 ^ s.n - 1 = 1; rw [h.nn]⟩
    · rw [if_neg hik] at hu
      exact h.ov i u hi hu
  · obtain ⟨u, hu, c, q, rfl, hc⟩ := e4 i x hx
    rw [e3]
    exact hc
  · unfold runOf at hi
    rw [if_neg (by omega)] at hi
    injection hi with hi
    omega
/-- At first the one of the least period goes. -/
theorem first_begun {l : List Use} (hs : ∀ (i j : Nat) (hi : i < l.length) (hj : j < l.length), i < j → l[i].p ≤ l[j].p) (hok : ∀ u ∈ l, u.ok) {n : Nat} (hn : l.length ≤ n) : IsFirst (addTs l l.length) (addTs l l.length).length (dOf (addTs l l.length).length (runOf n)) := by
  rw [addTs_len]
  by_cases h0 : l.length = 0
  · have : dOf l.length (runOf n) = none := by
      unfold runOf
      split
      · rfl
      · show (if 0 < l.length then some 0 else none) = none
        rw [if_neg (by omega)]
    rw [this]
    intro i x hi
    omega
  · have : dOf l.length (runOf n) = some 0 := by
      unfold runOf
      rw [if_neg (by omega)]
      show (if 0 < l.length then some 0 else none) = some 0
      rw [if_pos (by omega)]
    rw [this]
    refine ⟨_, by omega, addTs_get l _ 0 (by omega), rfl, fun i x hi hx _ => ?_⟩
    rw [addTs_get l _ i hi] at hx
    injection hx with hx
    rw [← hx]
    unfold ahead
    simp only [newT]
    rw [pe_at l 0 (by omega), pe_at l i hi]
    by_cases hi0 : i = 0
    · subst hi0; omega
    · have := hs 0 i (by omega) hi (by omega)
      omega
/-- Who is told to run. -/
theorem di_pick (h : DI now ds run s) (hd : ∀ (i : Nat) y, ds[i]? = some y → y.t = i + 1) :
    (run = none ∧ pickV s 0 = .tuple #[.int .i64 0, .int .i64 4]) ∨ ∃ i t : Nat, run = some i ∧ pickV s 0 = .tuple #[.int .i64 (t : Int), .int .i64 0] ∧ ((i < ds.length ∧ t = i + 1) ∨ (ds.length ≤ i ∧ 9 ≤ t)) := by
  cases hr : run with
  | none => exact .inl ⟨rfl, pick_none (by rw [← hr]; exact h.on)⟩
  | some i =>
    have hx := List.getElem?_eq_getElem (h.rl i hr)
    have hp := pick_some (by rw [h.on]; exact hr) hx
    have hil := h.rl i hr
    by_cases hi : i < ds.length
    · have hy := List.getElem?_eq_getElem hi
      have h1 := (h.dv i _ _ hy hx).t
      have h2 := hd i _ hy
      refine .inr ⟨i, i + 1, rfl, ?_, .inl ⟨hi, rfl⟩⟩
      rw [hp, h1, h2]
    · have h1 := (h.ov i _ (by omega) hx).t
      refine .inr ⟨i, s.ts[i].t.toNat, rfl, ?_, .inr ⟨by omega, by omega⟩⟩
      rw [hp, Int.toNat_of_nonneg (by omega)]
end
end Go.Proofs.Ythcgeigijnbpkaa
