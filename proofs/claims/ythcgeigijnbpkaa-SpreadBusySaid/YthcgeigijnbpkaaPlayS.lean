/- What the laws note goes with the run: each call that may be asked. No program in sight; no condition. -/
import Derived.Test.YthcgeigijnbpkaaSprB
namespace Go.Proofs.Ythcgeigijnbpkaa
set_option linter.unusedVariables false
/-- A run and its notes. -/
structure PlS (c : Nat) (M : Int) (s : SR) (o : Note) : Prop where
  inv : InvS s
  nt : NoteV s.vs o
  bud : BudOk s
  ok : SOk M s
  nn : s.n = c
  z : o.is 0 = false
theorem pl_who {c : Nat} {M : Int} {s : SR} {o : Note} (h : PlS c M s o) {t : Nat} (t1 : 1 ≤ t) (t2 : t ≤ 16) :
    (s.who (t : Int) = none ∧ o.is t = false ∧ s.ts.length ≤ 15 ∧ ∀ y ∈ s.ts, y.t ≠ (t : Int)) ∨ ∃ i x, s.who (t : Int) = some (i, x) ∧ s.ts[i]? = some x ∧ Noted o t (vw x) := by
  cases hw : s.who (t : Int) with
  | none =>
    have hno := who_none_iff hw
    have hnv : ∀ v ∈ s.vs, v.t ≠ (t : Int) := by
      intro v hv he
      obtain ⟨i, hi⟩ := List.mem_iff_getElem?.1 hv
      obtain ⟨x, hx, rfl⟩ := vs_of hi
      exact hno x (List.mem_of_getElem? hx) he
    refine .inl ⟨rfl, ?_, by have := note_few h.nt (numV h.inv.toInvP) t1 t2 hnv; rwa [vs_len] at this, hno⟩
    cases hi : o.is t with
    | false => rfl
    | true =>
      obtain ⟨i, v, hv, hvt⟩ := h.nt.b t t1 t2 hi
      exact absurd hvt (hnv v (List.mem_of_getElem? hv))
  | some ix =>
    obtain ⟨i, x⟩ := ix
    obtain ⟨hx, hxt⟩ := who_get hw
    obtain ⟨u, u1, u2, hN⟩ := h.nt.a i _ (vs_get hx)
    have hut : u = t := by have := hN.1; have h2 : (vw x).t = x.t := rfl; omega
    subst hut
    exact .inr ⟨i, x, rfl, hx, hN⟩
theorem PlS.tick {c : Nat} {M : Int} {s : SR} {o : Note} (h : PlS c M s o) (q : Int) : PlS c (M + 1) (s.tick q) o :=
  ⟨h.inv.toInvP.tick q, by rw [vs_tick]; exact h.nt, h.bud.tick q, h.ok.tick q, by rw [n_tick]; exact h.nn, h.z⟩
theorem PlS.same {c : Nat} {M : Int} {s : SR} {o : Note} (h : PlS c M s o) : PlS c (M + 1) s o := ⟨h.inv, h.nt, h.bud, h.ok.more (by omega), h.nn, h.z⟩
def noteR (o : Note) (t : Nat) (b : Bool) : Note := { o with rd := upN o.rd t b }
def noteM (o : Note) (t : Nat) (b : Bool) : Note := { o with mo := upN o.mo t b }
def noteP (o : Note) (t : Nat) (m : Int) : Note := { o with pn := upN o.pn t m }
def noteO (o : Note) (t : Nat) : Note := { o with is := upN o.is t false, rd := upN o.rd t false }
def noteN (o : Note) (t : Nat) (d : Bool) (m : Int) : Note := ⟨upN o.is t true, upN o.rd t true, upN o.dd t d, upN o.mo t false, upN o.pn t m⟩
theorem PlS.block {c : Nat} {M : Int} {s : SR} {o : Note} (h : PlS c M s o) {t i : Nat} {x : ST} (hx : s.ts[i]? = some x) (hN : Noted o t (vw x)) : PlS c (M + 1) (s.block i) (noteR o t false) := by
  refine ⟨h.inv.toInvP.block i, ?_, h.bud.block i, (h.ok.block i).more (by omega), h.nn, h.z⟩
  rw [vs_block]
  exact note_mod (t := t) h.nt (numV h.inv.toInvP) (vs_get hx) hN.1 rfl ⟨hN.1, hN.2.1, upN_same _ _ _, hN.2.2.2.1, hN.2.2.2.2.1, hN.2.2.2.2.2⟩ (fun u hu => ⟨rfl, upN_ne _ _ hu, rfl, rfl, rfl⟩)
theorem PlS.wake {c : Nat} {M : Int} {s : SR} {o : Note} (h : PlS c M s o) {t i : Nat} {x : ST} (hx : s.ts[i]? = some x) (hN : Noted o t (vw x)) : PlS c (M + 1) (s.wake i) (noteR o t true) := by
  refine ⟨h.inv.toInvP.wake i, ?_, h.bud.wake i, h.ok.wake i, h.nn, h.z⟩
  rw [vs_wake]
  exact note_mod (t := t) h.nt (numV h.inv.toInvP) (vs_get hx) hN.1 rfl ⟨hN.1, hN.2.1, upN_same _ _ _, hN.2.2.2.1, hN.2.2.2.2.1, hN.2.2.2.2.2⟩ (fun u hu => ⟨rfl, upN_ne _ _ hu, rfl, rfl, rfl⟩)
theorem PlS.boost {c : Nat} {M : Int} {s : SR} {o : Note} (h : PlS c M s o) {t i : Nat} {x : ST} (hx : s.ts[i]? = some x) (hN : Noted o t (vw x)) {va : Int} (h1 : 0 ≤ va) (h2 : va ≤ 100) : PlS c (M + 1) (s.boost i 2 va) (noteM o t true) := by
  refine ⟨h.inv.toInvP.boost i 2 va, ?_, h.bud.boost i 2 va, (h.ok.boost i (by omega) (by omega) h1 h2).more (by omega), h.nn, h.z⟩
  rw [vs_boost]
  exact note_mod (t := t) h.nt (numV h.inv.toInvP) (vs_get hx) hN.1 rfl ⟨hN.1, hN.2.1, hN.2.2.1, hN.2.2.2.1, by show upN o.mo t true t = _; rw [upN_same]; rfl, hN.2.2.2.2.2⟩ (fun u hu => ⟨rfl, rfl, rfl, upN_ne _ _ hu, rfl⟩)
theorem PlS.calm {c : Nat} {M : Int} {s : SR} {o : Note} (h : PlS c M s o) {t i : Nat} {x : ST} (hx : s.ts[i]? = some x) (hN : Noted o t (vw x)) : PlS c (M + 1) (s.calm i) (noteM o t false) := by
  refine ⟨h.inv.calm i, ?_, h.bud.calm i, h.ok.calm i, by rw [n_calm]; exact h.nn, h.z⟩
  rw [vs_calm s hx]
  exact note_mod (t := t) h.nt (numV h.inv.toInvP) (vs_get hx) hN.1 rfl ⟨hN.1, hN.2.1, hN.2.2.1, hN.2.2.2.1, by show upN o.mo t false t = _; rw [upN_same]; rfl, hN.2.2.2.2.2⟩ (fun u hu => ⟨rfl, rfl, rfl, upN_ne _ _ hu, rfl⟩)
theorem PlS.pin {c : Nat} {M : Int} {s : SR} {o : Note} (h : PlS c M s o) {t i : Nat} {x : ST} (hx : s.ts[i]? = some x) (hN : Noted o t (vw x)) {m : Nat} (hm : m < 16) : PlS c (M + 1) (s.pinTo i m) (noteP o t m) := by
  refine ⟨h.inv.pinTo i m, ?_, h.bud.pinTo i m, h.ok.pinTo i hm, by rw [n_pin]; exact h.nn, h.z⟩
  rw [vs_pin s hx]
  exact note_mod (t := t) h.nt (numV h.inv.toInvP) (vs_get hx) hN.1 rfl ⟨hN.1, hN.2.1, hN.2.2.1, hN.2.2.2.1, hN.2.2.2.2.1, upN_same _ _ _⟩ (fun u hu => ⟨rfl, rfl, rfl, rfl, upN_ne _ _ hu⟩)
theorem PlS.leave {c : Nat} {M : Int} {s : SR} {o : Note} (h : PlS c M s o) {t i : Nat} {x : ST} (hx : s.ts[i]? = some x) (hN : Noted o t (vw x)) : PlS c (M + 1) (s.leave i) (noteO o t) := by
  refine ⟨h.inv.toInvP.leave i, ?_, h.bud.leave i, (h.ok.leave i).more (by omega), h.nn, ?_⟩
  · rw [vs_leave]
    exact note_out (t := t) h.nt (numV h.inv.toInvP) (vs_get hx) hN.1 (upN_same _ _ _) (fun u hu => ⟨upN_ne _ _ hu, upN_ne _ _ hu, rfl, rfl, rfl⟩)
  · show upN o.is t false 0 = false
    unfold upN
    split
    · rfl
    · exact h.z
theorem PlS.enter {c : Nat} {M : Int} {s : SR} {o : Note} (h : PlS c M s o) {t : Nat} (t1 : 1 ≤ t) (t2 : t ≤ 16) {x : ST} (hxt : x.t = (t : Int)) (hmo : x.mo = 0) (hno : ∀ y ∈ s.ts, y.t ≠ (t : Int)) (hb : x.cl = 3 → 1 ≤ x.bu ∧ x.bu ≤ x.pe ∧ x.pe ≤ 30) (ho : TOk M x) (hv : x.v = 0) (hl : s.ts.length ≤ 15) :
    PlS c (M + 1) (s.enter x) (noteN o t (decide (x.cl = 3)) (2 ^ c - 1 : Nat)) := by
  refine ⟨h.inv.toInvP.enter (x := x) (fun y hy => by rw [hxt]; exact hno y hy), ?_, h.bud.enter hb, h.ok.enter ho hv (by omega), h.nn, by show upN o.is t true 0 = false; rw [upN_ne _ _ (by omega)]; exact h.z⟩
  rw [vs_enter]
  refine note_add (t := t) h.nt t1 t2 (fun v hv2 he => ?_) ⟨hxt, upN_same _ _ _, upN_same _ _ _, upN_same _ _ _, ?_, ?_⟩ (fun u hu => ⟨upN_ne _ _ hu, upN_ne _ _ hu, upN_ne _ _ hu, upN_ne _ _ hu, upN_ne _ _ hu⟩)
  · obtain ⟨i, hi⟩ := List.mem_iff_getElem?.1 hv2
    obtain ⟨y, hy, rfl⟩ := vs_of hi
    exact hno y (List.mem_of_getElem? hy) he
  · show upN o.mo t false t = decide (0 < x.mo)
    rw [upN_same, hmo]
    rfl
  · show upN o.pn t _ t = ((2 ^ s.n - 1 : Nat) : Int)
    rw [upN_same, h.nn]
end Go.Proofs.Ythcgeigijnbpkaa
