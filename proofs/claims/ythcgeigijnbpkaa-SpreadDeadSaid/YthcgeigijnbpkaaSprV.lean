/- Plain model of package spread: what of each task a caller knows, and what each call makes of it. No program in sight; no condition. -/
import Derived.Test.YthcgeigijnbpkaaSprI2
namespace Go.Proofs.Ythcgeigijnbpkaa
set_option linter.unusedVariables false
/-- What a caller knows of a task. -/
structure VW where
  t : Int
  pin : Nat
  cl : Int
  mo : Int
  r : Bool
def vw (x : ST) : VW := ⟨x.t, x.pin, x.cl, x.mo, x.r⟩
def SR.vs (s : SR) : List VW := s.ts.map vw
theorem vs_len (s : SR) : s.vs.length = s.ts.length := by unfold SR.vs; rw [List.length_map]
theorem vs_get {s : SR} {i : Nat} {x : ST} (h : s.ts[i]? = some x) : s.vs[i]? = some (vw x) := by unfold SR.vs; rw [List.getElem?_map, h]; rfl
theorem vs_of {s : SR} {i : Nat} {v : VW} (h : s.vs[i]? = some v) : ∃ x, s.ts[i]? = some x ∧ vw x = v := by
  unfold SR.vs at h
  rw [List.getElem?_map] at h
  cases hx : s.ts[i]? with
  | none => rw [hx] at h; cases h
  | some x => rw [hx] at h; simp at h; exact ⟨x, rfl, h⟩
theorem vs_fill (s : SR) : s.fill.vs = s.vs := by
  refine List.ext_getElem? (fun i => ?_)
  unfold SR.vs
  rw [List.getElem?_map, List.getElem?_map]
  cases hx : s.ts[i]? with
  | none =>
    have hl : s.fill.ts[i]? = none := List.getElem?_eq_none (by
      have e : s.fill.ts.length = s.ts.length := fillK_len s.ts s.n
      have := List.getElem?_eq_none_iff.1 hx
      omega)
    rw [hl]
  | some x =>
    obtain ⟨y, hy, c, rfl, _⟩ := fillK_rel s.ts s.n i x hx
    have hy' : s.fill.ts[i]? = some { x with cpu := c } := hy
    rw [hy']
    rfl
theorem vs_upd (ts : List ST) (i : Nat) (f : ST → ST) (g : VW → VW) (hf : ∀ x, vw (f x) = g (vw x)) : (upd ts i f).map vw = (ts.map vw).modify i g := by
  refine List.ext_getElem? (fun j => ?_)
  rw [List.getElem?_map, upd_get, List.getElem?_modify, List.getElem?_map]
  by_cases hij : i = j
  · rw [if_pos hij, hij]
    cases ts[j]? with
    | none => simp
    | some x => simp [hf]
  · rw [if_neg hij]
    cases ts[j]? with
    | none => simp
    | some x => simp [hij]
theorem mod_id (l : List VW) (i : Nat) : l.modify i (fun v => v) = l := by
  refine List.ext_getElem? (fun j => ?_)
  rw [List.getElem?_modify]
  cases l[j]? with
  | none => simp
  | some x => simp
theorem vs_same (ts : List ST) (i : Nat) (f : ST → ST) (hf : ∀ x, vw (f x) = vw x) : (upd ts i f).map vw = ts.map vw := by
  rw [vs_upd ts i f (fun v => v) hf, mod_id]
theorem vs_wait (s : SR) (i : Nat) : (s.wait i).vs = s.vs := vs_same s.ts i _ (fun x => rfl)
theorem vw_run (x : ST) : vw (runT x) = vw x := by
  obtain ⟨h1, h2, h3, h4, h5, h6⟩ := run_f x
  unfold vw
  rw [h1, h3, h4, h5, h6]
theorem vw_ref (now : Int) (x : ST) : vw (refT now x) = vw x := by unfold refT; split <;> rfl
theorem vs_tick (s : SR) (c : Int) : (s.tick c).vs = s.vs := by
  have h1 : (s.tick1 c).vs = s.vs := by
    unfold SR.tick1
    split
    · rfl
    · exact vs_same s.ts _ runT vw_run
  have h2 : (s.tick2 c).vs = s.vs := by
    rw [← h1]
    unfold SR.tick2 SR.vs
    show ((s.tick1 c).ts.map _).map vw = _
    rw [List.map_map]
    exact List.map_congr_left (fun x _ => vw_ref _ x)
  have h3 : (s.tick3 c).vs = s.vs := by
    unfold SR.tick3
    split
    · exact h2
    · rw [vs_wait, h2]
  unfold SR.tick
  rw [vs_fill, h3]
theorem vs_block (s : SR) (i : Nat) : (s.block i).vs = s.vs.modify i (fun v => { v with r := false }) := by
  unfold SR.block
  rw [vs_fill]
  exact vs_upd s.ts i _ _ (fun x => rfl)
theorem vw_wok (s : SR) (x : ST) : vw (wokS s x) = { vw x with r := true } := by
  obtain ⟨h1, h2, h3, h4, h5, h6, _⟩ := wok_t s x
  unfold vw
  rw [h1, h2, h3, h4, h6]
theorem vs_wake (s : SR) (i : Nat) : (s.wake i).vs = s.vs.modify i (fun v => { v with r := true }) := by
  unfold SR.wake
  rw [vs_fill, vs_wait]
  exact vs_upd s.ts i _ _ (vw_wok s)
theorem vs_boost (s : SR) (i : Nat) (cl va : Int) : (s.boost i cl va).vs = s.vs.modify i (fun v => { v with mo := cl }) := by
  unfold SR.boost
  rw [vs_fill]
  exact vs_upd s.ts i _ _ (fun x => rfl)
theorem vs_calm (s : SR) {i : Nat} {x : ST} (h : s.ts[i]? = some x) : (s.calm i).vs = s.vs.modify i (fun v => { v with mo := 0 }) := by
  unfold SR.calm
  rw [h]
  simp only
  split
  · rw [vs_fill, vs_wait]
    exact vs_upd s.ts i _ _ (fun x => rfl)
  · rw [vs_fill]
    exact vs_upd s.ts i _ _ (fun x => rfl)
theorem vs_pin (s : SR) {i : Nat} {x : ST} (h : s.ts[i]? = some x) (m : Nat) : (s.pinTo i m).vs = s.vs.modify i (fun v => { v with pin := m }) := by
  unfold SR.pinTo
  rw [h]
  simp only
  split
  · rw [vs_fill, vs_wait]
    exact vs_upd s.ts i _ _ (fun x => rfl)
  · rw [vs_fill]
    exact vs_upd s.ts i _ _ (fun x => rfl)
theorem vs_leave (s : SR) (i : Nat) : (s.leave i).vs = s.vs.eraseIdx i := by
  unfold SR.leave
  rw [vs_fill]
  unfold SR.vs
  show (s.ts.eraseIdx i).map vw = _
  rw [List.eraseIdx_eq_take_drop_succ, List.eraseIdx_eq_take_drop_succ, List.map_append, List.map_take, List.map_drop]
theorem vs_enter (s : SR) (x : ST) : (s.enter x).vs = s.vs ++ [⟨x.t, 2 ^ s.n - 1, x.cl, x.mo, true⟩] := by
  unfold SR.enter
  rw [vs_fill, vs_wait]
  unfold SR.vs
  rw [List.map_append]
  rfl
theorem n_tick (s : SR) (c : Int) : (s.tick c).n = s.n := by
  unfold SR.tick SR.fill SR.tick3
  split
  · exact tick1_n s c
  · exact tick1_n s c
theorem n_calm (s : SR) (i : Nat) : (s.calm i).n = s.n := by unfold SR.calm; split <;> (try split) <;> rfl
theorem n_pin (s : SR) (i m : Nat) : (s.pinTo i m).n = s.n := by unfold SR.pinTo; split <;> (try split) <;> rfl
end Go.Proofs.Ythcgeigijnbpkaa
