/- Plain model of package spread, on: each call leaves a run as it may be. No program in sight; no condition. -/
import Derived.Test.YtdelelpfombfbaaSprP
namespace Go.Proofs.Ytdelelpfombfbaa
set_option linter.unusedVariables false
theorem SOk.upd {m k : Int} {s : SR} {i : Nat} {f : ST → ST} (h : SOk m s) (hk : m ≤ k) (hf : ∀ x, s.ts[i]? = some x → TOk m x → TOk k (f x)) : SOk k { s with ts := upd s.ts i f } :=
  { n1 := h.n1, n2 := h.n2, tk1 := h.tk1, tk2 := Int.le_trans h.tk2 hk, st1 := h.st1, st2 := Int.le_trans h.st2 hk, len := by show (Go.Proofs.Ytdelelpfombfbaa.upd s.ts i f).length ≤ 1000; rw [upd_len]; exact h.len, each := upd_ok h.each hk hf }
theorem SOk.more {m k : Int} {s : SR} (h : SOk m s) (hk : m ≤ k) : SOk k s :=
  { n1 := h.n1, n2 := h.n2, tk1 := h.tk1, tk2 := Int.le_trans h.tk2 hk, st1 := h.st1, st2 := Int.le_trans h.st2 hk, len := h.len, each := fun x hx => (h.each x hx).more hk }
theorem TOk.off {m : Int} {x : ST} (h : TOk m x) : TOk m { x with r := false, cpu := -1 } := { h with q1 := by show (-1 : Int) ≤ -1; omega, q2 := by show (-1 : Int) ≤ 3; omega }
theorem TOk.boost {m : Int} {x : ST} (h : TOk m x) {cl va : Int} (a : 0 ≤ cl) (b : cl ≤ 2) (c : 0 ≤ va) (d : va ≤ 100) : TOk m { x with mo := cl, wi := va } := { h with mo1 := a, mo2 := b, wi1 := c, wi2 := d }
theorem TOk.pinned {m : Int} {x : ST} (h : TOk m x) {k : Nat} (a : k < 16) : TOk m { x with pin := k } := { h with pi := a }
theorem TOk.ref {m now : Int} {x : ST} (h : TOk m x) (hn : now ≤ m) : TOk m (refT now x) := by
  unfold refT
  split
  · rename_i hc
    have h1 := h.d1
    have h2 := h.p1
    have h3 := h.p2
    have h4 := hc.2
    have hcl : x.cl = 3 := Classical.byContradiction fun hh => by have := h.o1 hh; rw [hc.1] at this; cases this
    exact { h with l1 := h.b1, l2 := h.b2, l3 := fun _ _ => h.b3 hcl, d1 := by show 0 ≤ x.du + x.pe; omega, d2 := by show x.du + x.pe ≤ m + 30; omega, o1 := fun _ => rfl }
  · exact h
theorem cost_bd {v : Int} (h : 1 ≤ v) : 0 ≤ costI v ∧ costI v ≤ 1048576 := by
  unfold costI
  exact ⟨Int.ediv_nonneg (by omega) (by omega), Int.ediv_le_self _ (by omega)⟩
theorem TOk.run {m : Int} {x : ST} (h : TOk m x) : TOk (m + 1) (runT x) := by
  have hm := h.more (show m ≤ m + 1 by omega)
  unfold runT
  split
  · rename_i hc
    have h1 := cost_bd (h.va3 hc)
    have h2 := h.v1
    have h3 := h.v2
    exact { hm with v1 := by show 0 ≤ x.v + costI x.va; omega, v2 := by show x.v + costI x.va ≤ (m + 1) * 1048576; omega }
  · split
    · rename_i hc hc2
      have h1 := h.l3 hc2.1 hc2.2
      have h2 := h.l2
      exact { hm with l1 := by show 0 ≤ x.le - 1; omega, l2 := by show x.le - 1 ≤ 30; omega, l3 := (fun _ ho => by have ho' : decide (x.le - 1 = 0) = false := ho; simp at ho'; show 1 ≤ x.le - 1; omega), o1 := fun hh => absurd hc2.1 hh }
    · exact hm
theorem lowI_ok {m : Int} {s : SR} (h : SOk m s) {v : Int} (hv : lowI s.ts = some v) : 0 ≤ v ∧ v ≤ m * 1048576 := lowK_ok h.each hv
theorem wok_ok {m : Int} {s : SR} (h : SOk m s) {x : ST} (hx : TOk m x) : TOk m (wokS s x) := by
  have ht := h.time
  have h1 : TOk m (if x.cl = 1 then { x with v := match lowI s.ts with
    | none => x.v
    | some m => max x.v m } else x) := by
    split
    · cases hl : lowI s.ts with
      | none => exact hx
      | some v =>
        have a := lowI_ok h hl
        have b := hx.v1
        have c := hx.v2
        exact { hx with v1 := by show 0 ≤ max x.v v; omega, v2 := by show max x.v v ≤ _; omega }
    · exact hx
  unfold wokS
  generalize (if x.cl = 1 then { x with v := match lowI s.ts with
    | none => x.v
    | some m => max x.v m } else x) = y at h1
  have h2 : TOk m (if y.cl = 3 ∧ y.o = false ∧ (y.du ≤ s.time ∨ (y.du - s.time) * y.bu < y.le * y.pe) then { y with le := y.bu, du := s.time + y.pe } else y) := by
    split
    · rename_i hc
      have a := h1.p1
      have b := h1.p2
      exact { h1 with l1 := h1.b1, l2 := h1.b2, l3 := fun hh _ => h1.b3 hh, d1 := by show 0 ≤ s.time + y.pe; omega, d2 := by show s.time + y.pe ≤ m + 30; omega }
    · exact h1
  exact { h2 with }
theorem ent_ok {m : Int} {s : SR} (h : SOk m s) {x : ST} (hx : TOk m x) (hv : x.v = 0) : TOk m (entT s x) := by
  have h1 := h.n1
  have h2 := h.n2
  have hp : 2 ^ s.n - 1 < 16 := by
    have : 2 ^ s.n ≤ 2 ^ 4 := Nat.pow_le_pow_right (by omega) h2
    omega
  have h3 : 0 ≤ (if x.cl = 1 then (lowI s.ts).getD x.v else x.v) ∧ (if x.cl = 1 then (lowI s.ts).getD x.v else x.v) ≤ m * 1048576 := by
    have hx1 := hx.v1
    have hx2 := hx.v2
    split
    · cases hl : lowI s.ts with
      | none => exact ⟨hx1, hx2⟩
      | some v => exact lowI_ok h hl
    · exact ⟨hx1, hx2⟩
  unfold entT
  exact { hx with pi := hp, v1 := h3.1, v2 := h3.2 }
theorem SOk.app {m : Int} {s : SR} (h : SOk m s) {x : ST} (hx : TOk m x) (hl : s.ts.length < 1000) : SOk m { s with ts := s.ts ++ [x] } :=
  { n1 := h.n1, n2 := h.n2, tk1 := h.tk1, tk2 := h.tk2, st1 := h.st1, st2 := h.st2, len := by show (s.ts ++ [x]).length ≤ 1000; simp; omega, each := fun y hy => by
      rcases List.mem_append.1 hy with hy | hy
      · exact h.each y hy
      · rw [List.mem_singleton.1 hy]; exact hx }
theorem SOk.erase {m : Int} {s : SR} (h : SOk m s) (i : Nat) : SOk m { s with ts := s.ts.eraseIdx i } :=
  { n1 := h.n1, n2 := h.n2, tk1 := h.tk1, tk2 := h.tk2, st1 := h.st1, st2 := h.st2, len := by show (s.ts.eraseIdx i).length ≤ 1000; have := h.len; have := List.length_eraseIdx_le s.ts i; omega, each := fun y hy => h.each y (List.mem_of_mem_eraseIdx hy) }
theorem SOk.tick1 {m : Int} {s : SR} (h : SOk m s) (cpu : Int) : SOk (m + 1) (s.tick1 cpu) := by
  have h1 := h.tk1
  have h2 := h.tk2
  have hm := h.more (show m ≤ m + 1 by omega)
  unfold SR.tick1
  split
  · exact { hm with tk1 := by show 0 ≤ s.tk + 1; omega, tk2 := by show s.tk + 1 ≤ m + 1; omega }
  · rename_i i _
    have hu := h.upd (k := m + 1) (i := i) (f := runT) (by omega) (fun x _ hx => hx.run)
    exact { n1 := hu.n1, n2 := hu.n2, tk1 := by show 0 ≤ s.tk + 1; omega, tk2 := by show s.tk + 1 ≤ m + 1; omega, st1 := hu.st1, st2 := hu.st2, len := hu.len, each := hu.each }
theorem SOk.tick2 {m : Int} {s : SR} (h : SOk m s) (cpu : Int) : SOk (m + 1) (s.tick2 cpu) := by
  have hu := h.tick1 cpu
  have ht := hu.time
  have hl : ((s.tick1 cpu).ts.map (refT (s.tick1 cpu).time)).length ≤ 1000 := by rw [List.length_map]; exact hu.len
  refine ⟨hu.n1, hu.n2, hu.tk1, hu.tk2, hu.st1, hu.st2, hl, fun y hy => ?_⟩
  obtain ⟨z, hz, rfl⟩ := List.mem_map.1 hy
  exact (hu.each z hz).ref ht.2
theorem tick1_n (s : SR) (cpu : Int) : (s.tick1 cpu).n = s.n := by unfold SR.tick1; split <;> rfl
theorem tick1_st (s : SR) (cpu : Int) : (s.tick1 cpu).st = s.st := by unfold SR.tick1; split <;> rfl
theorem SOk.wait' {m k : Int} {s : SR} (h : SOk m s) (i : Nat) (hs : s.st + 1 ≤ k) (hk : m ≤ k) : SOk k (s.wait i) := by
  have hm := h.more hk
  have hl : (Go.Proofs.Ytdelelpfombfbaa.upd s.ts i (fun x => { x with cpu := -1, si := s.st + 1 })).length ≤ 1000 := by rw [upd_len]; exact h.len
  have h1 := h.st1
  have h2 : 0 ≤ s.st + 1 := by omega
  refine ⟨hm.n1, hm.n2, hm.tk1, hm.tk2, h2, hs, hl, upd_ok hm.each (Int.le_refl _) (fun x _ hx => ?_)⟩
  exact { hx with s1 := h2, s2 := hs, q1 := by show (-1 : Int) ≤ -1; omega, q2 := by show (-1 : Int) ≤ 3; omega }
theorem SOk.tick3 {m : Int} {s : SR} (h : SOk m s) (cpu : Int) : SOk (m + 1) (s.tick3 cpu) := by
  have hu := h.tick2 cpu
  unfold SR.tick3
  split
  · exact hu
  · rename_i i _
    refine hu.wait' i ?_ (Int.le_refl _)
    show (s.tick1 cpu).st + 1 ≤ m + 1
    rw [tick1_st]
    have := h.st2
    omega
theorem SOk.tick {m : Int} {s : SR} (h : SOk m s) (cpu : Int) : SOk (m + 1) (s.tick cpu) := (h.tick3 cpu).fill
theorem SOk.block {m : Int} {s : SR} (h : SOk m s) (i : Nat) : SOk m (s.block i) := (h.upd (Int.le_refl _) (fun x _ hx => hx.off)).fill
theorem SOk.wake {m : Int} {s : SR} (h : SOk m s) (i : Nat) : SOk (m + 1) (s.wake i) := ((h.upd (Int.le_refl _) (fun x _ hx => wok_ok h hx)).wait i).fill
theorem SOk.leave {m : Int} {s : SR} (h : SOk m s) (i : Nat) : SOk m (s.leave i) := (h.erase i).fill
theorem SOk.boost {m : Int} {s : SR} (h : SOk m s) (i : Nat) {cl va : Int} (a : 0 ≤ cl) (b : cl ≤ 2) (c : 0 ≤ va) (d : va ≤ 100) : SOk m (s.boost i cl va) := (h.upd (Int.le_refl _) (fun x _ hx => hx.boost a b c d)).fill
theorem SOk.pinTo {m : Int} {s : SR} (h : SOk m s) (i : Nat) {k : Nat} (a : k < 16) : SOk (m + 1) (s.pinTo i k) := by
  have hu := h.upd (i := i) (f := fun x => { x with pin := k }) (Int.le_refl _) (fun x _ hx => hx.pinned a)
  unfold SR.pinTo
  split
  · exact h.more (by omega)
  · split
    · exact (hu.wait i).fill
    · exact (hu.more (by omega)).fill
theorem SOk.calm {m : Int} {s : SR} (h : SOk m s) (i : Nat) : SOk (m + 1) (s.calm i) := by
  have hu := h.upd (i := i) (f := fun x => { x with mo := 0, wi := 0 }) (Int.le_refl _) (fun x _ hx => hx.boost (by omega) (by omega) (by omega) (by omega))
  unfold SR.calm
  split
  · exact h.more (by omega)
  · split
    · exact (hu.wait i).fill
    · exact (hu.more (by omega)).fill
theorem SOk.enter {m : Int} {s : SR} (h : SOk m s) {x : ST} (hx : TOk m x) (hv : x.v = 0) (hl : s.ts.length < 1000) : SOk (m + 1) (s.enter x) := ((h.app (ent_ok h hx hv) hl).wait _).fill
/-- Who has a number. -/
def SR.who (s : SR) (t : Int) : Option (Nat × ST) := match fndI s.ts t with
  | none => none
  | some i => match s.ts[i]? with
    | none => none
    | some x => some (i, x)
theorem who_none {s : SR} {t : Int} (h : fndI s.ts t = none) : s.who t = none := by unfold SR.who; rw [h]
theorem who_some {s : SR} {t : Int} {i : Nat} {x : ST} (h : fndI s.ts t = some i) (hx : s.ts[i]? = some x) : s.who t = some (i, x) := by unfold SR.who; rw [h]; show (match s.ts[i]? with | none => none | some x => some (i, x)) = _; rw [hx]
/-- What each call makes of a run, and what it answers. -/
def SR.doBlock (s : SR) (t : Int) : SR × Int := match s.who t with
  | none => (s, 4)
  | some (i, x) => if x.r then (s.block i, 0) else (s, 8)
def SR.doWake (s : SR) (t : Int) : SR × Int := match s.who t with
  | none => (s, 4)
  | some (i, x) => if x.r then (s, 8) else (s.wake i, 0)
def SR.doBoost (s : SR) (t cl va : Int) : SR × Int := match s.who t with
  | none => (s, 4)
  | some (i, x) => (s.boost i cl va, 0)
def SR.doCalm (s : SR) (t : Int) : SR × Int := match s.who t with
  | none => (s, 4)
  | some (i, x) => if x.mo = 0 then (s, 8) else (s.calm i, 0)
def SR.doPin (s : SR) (t : Int) (m : Nat) : SR × Int := match s.who t with
  | none => (s, 4)
  | some (i, x) => (s.pinTo i m, 0)
def SR.doLeave (s : SR) (t : Int) : SR × Int := match s.who t with
  | none => (s, 4)
  | some (i, x) => (s.leave i, 0)
def SR.doAdd (s : SR) (t cl va : Int) : SR × Int := match s.who t with
  | none => (s.enter (newS t cl va), 0)
  | some (i, x) => (s, 5)
end Go.Proofs.Ytdelelpfombfbaa
