/- Plain model of package spread: the tasks of a run, who goes ahead of whom, and what each call makes of them. No program in sight; no condition. -/
import Derived.Test.YtdelelpfombfbaaMem2
namespace Go.Proofs.Ytdelelpfombfbaa
set_option linter.unusedVariables false
/-- A task of a run. -/
structure ST where
  t : Int
  cl : Int
  va : Int
  mo : Int
  wi : Int
  bu : Int
  pe : Int
  le : Int
  du : Int
  v : Int
  si : Int
  pin : Nat
  r : Bool
  o : Bool
  cpu : Int
def stCells (x : ST) : List Value := [.int .i64 x.t, .int .i64 x.cl, .int .i64 x.va, .int .i64 x.mo, .int .i64 x.wi, .int .i64 x.bu, .int .i64 x.pe, .int .i64 x.le, .int .i64 x.du, .int .i64 x.v, .int .i64 x.si, .int .i64 x.pin, .bool x.r, .bool x.o, .int .i64 x.cpu]
theorem st_len (x : ST) : (stCells x).length = 15 := rfl
theorem st_one (x : ST) : ∀ u ∈ stCells x, u.oneCell' = true := by
  intro u hu
  simp only [stCells, List.mem_cons, List.not_mem_nil, or_false] at hu
  rcases hu with rfl | rfl | rfl | rfl | rfl | rfl | rfl | rfl | rfl | rfl | rfl | rfl | rfl | rfl | rfl <;> rfl
/-- The class and the value that count. -/
def asC (x : ST) : Int := if 0 < x.mo then x.mo else x.cl
def asV (x : ST) : Int := if 0 < x.mo then x.wi else x.va
def key1 (x : ST) : Int := if asC x = 3 then x.du else if asC x = 2 then - asV x else x.v
def key2 (x : ST) : Int := if asC x = 3 then x.t else if asC x = 2 then x.si else x.t
/-- One goes ahead of another one. -/
def Better (x y : ST) : Prop := asC y < asC x ∨ (asC x = asC y ∧ (key1 x < key1 y ∨ (key1 x = key1 y ∧ key2 x < key2 y)))
instance (x y : ST) : Decidable (Better x y) := by unfold Better; exact inferInstance
def betB (x y : ST) : Bool := decide (Better x y)
theorem Better.trans {x y z : ST} (h : Better x y) (k : Better y z) : Better x z := by unfold Better at *; omega
theorem Better.irr {x : ST} (h : Better x x) : False := by unfold Better at *; omega
/-- Is it ready, and runs nowhere, and may go? -/
def waitB (x : ST) : Bool := x.r && decide (x.cpu < 0) && (!x.o || decide (0 < x.mo))
/-- May it run on a processor? -/
def pinB (x : ST) (k : Nat) : Bool := x.pin.testBit k
def upd (ts : List ST) (i : Nat) (f : ST → ST) : List ST := match ts[i]? with
  | none => ts
  | some x => ts.set i (f x)
theorem upd_of {ts : List ST} {i : Nat} {x : ST} (h : ts[i]? = some x) (f : ST → ST) : upd ts i f = ts.set i (f x) := by unfold upd; rw [h]
theorem upd_len (ts : List ST) (i : Nat) (f : ST → ST) : (upd ts i f).length = ts.length := by unfold upd; split <;> simp
theorem upd_get (ts : List ST) (i j : Nat) (f : ST → ST) : (upd ts i f)[j]? = if i = j then ts[j]?.map f else ts[j]? := by
  unfold upd
  split
  · rename_i h
    split
    · rename_i hij; subst hij; rw [h]; rfl
    · rfl
  · rename_i x h
    have hi : i < ts.length := (List.getElem?_eq_some_iff.1 h).1
    rw [List.getElem?_set]
    split
    · rename_i hij; subst hij; rw [h]; simp
    · rfl
theorem upd_mem {ts : List ST} {i : Nat} {f : ST → ST} {x : ST} (h : x ∈ upd ts i f) : x ∈ ts ∨ ∃ y, ts[i]? = some y ∧ x = f y := by
  obtain ⟨j, hj⟩ := List.mem_iff_getElem?.1 h
  rw [upd_get] at hj
  split at hj
  · rename_i hij; subst hij
    cases hy : ts[i]? with
    | none => rw [hy] at hj; cases hj
    | some y => rw [hy] at hj; injection hj with hj; exact .inr ⟨y, rfl, hj.symm⟩
  · exact .inl (List.mem_of_getElem? hj)
/-- Does one take the place of the best so far? -/
def takB (ts : List ST) (b : Option Nat) (x : ST) : Bool := match b with
  | none => true
  | some j => match ts[j]? with
    | none => true
    | some y => betB x y
/-- The best so far of those that wait for a processor. -/
def bestK (ts : List ST) (cpu : Nat) : Nat → Option Nat
  | 0 => none
  | k + 1 => match ts[k]? with
    | none => bestK ts cpu k
    | some x => if (waitB x && pinB x cpu && takB ts (bestK ts cpu k) x) = true then some k else bestK ts cpu k
def bestI (ts : List ST) (cpu : Nat) : Option Nat := bestK ts cpu ts.length
theorem bestK_at {ts : List ST} {cpu k : Nat} {x : ST} (h : ts[k]? = some x) : bestK ts cpu (k + 1) = if (waitB x && pinB x cpu && takB ts (bestK ts cpu k) x) = true then some k else bestK ts cpu k := by
  show (match ts[k]? with | none => _ | some x => _) = _
  rw [h]
theorem bestK_off {ts : List ST} {cpu k : Nat} (h : ts[k]? = none) : bestK ts cpu (k + 1) = bestK ts cpu k := by
  show (match ts[k]? with | none => _ | some x => _) = _
  rw [h]
theorem bestK_lt {ts : List ST} {cpu k j : Nat} (h : bestK ts cpu k = some j) : j < k ∧ ∃ x, ts[j]? = some x ∧ waitB x = true ∧ pinB x cpu = true := by
  induction k with
  | zero => cases h
  | succ k ih =>
    cases hx : ts[k]? with
    | none => rw [bestK_off hx] at h; have := ih h; exact ⟨by omega, this.2⟩
    | some x =>
      rw [bestK_at hx] at h
      split at h
      · rename_i hc
        injection h with h; subst h
        simp only [Bool.and_eq_true] at hc
        exact ⟨by omega, x, hx, hc.1.1, hc.1.2⟩
      · have := ih h; exact ⟨by omega, this.2⟩
theorem bestK_none {ts : List ST} {cpu k i : Nat} {y : ST} (h : bestK ts cpu k = none) (hi : i < k) (hy : ts[i]? = some y) : ¬ (waitB y = true ∧ pinB y cpu = true) := by
  induction k with
  | zero => omega
  | succ k ih =>
    rintro ⟨hw, hp⟩
    cases hx : ts[k]? with
    | none =>
      rw [bestK_off hx] at h
      by_cases hik : i = k
      · subst hik; rw [hx] at hy; cases hy
      · exact ih h (by omega) ⟨hw, hp⟩
    | some z =>
      rw [bestK_at hx] at h
      split at h
      · cases h
      · rename_i hc
        by_cases hik : i = k
        · subst hik
          rw [hx] at hy; injection hy with hy; subst hy
          apply hc
          rw [h]
          simp [hw, hp, takB]
        · exact ih h (by omega) ⟨hw, hp⟩
theorem bestK_best {ts : List ST} {cpu k j i : Nat} {x y : ST} (h : bestK ts cpu k = some j) (hx : ts[j]? = some x) (hi : i < k) (hy : ts[i]? = some y) (hw : waitB y = true) (hp : pinB y cpu = true) : ¬ Better y x := by
  induction k generalizing j x with
  | zero => cases h
  | succ k ih =>
    cases hz : ts[k]? with
    | none =>
      rw [bestK_off hz] at h
      by_cases hik : i = k
      · subst hik; rw [hz] at hy; cases hy
      · exact ih h hx (by omega)
    | some z =>
      rw [bestK_at hz] at h
      split at h
      · rename_i hc
        injection h with h; subst h
        rw [hz] at hx; injection hx with hx; subst hx
        by_cases hik : i = k
        · subst hik; rw [hz] at hy; injection hy with hy; subst hy; exact fun h => h.irr
        · simp only [Bool.and_eq_true] at hc
          cases hb : bestK ts cpu k with
          | none => exact absurd ⟨hw, hp⟩ (bestK_none hb (by omega) hy)
          | some q =>
            rw [hb] at hc
            obtain ⟨_, u, hu, _⟩ := bestK_lt hb
            have h1 := ih hb hu (by omega)
            have h3 : takB ts (some q) z = betB z u := by show (match ts[q]? with | none => true | some y => betB z y) = _; rw [hu]
            rw [h3] at hc
            intro h2
            exact h1 (h2.trans (of_decide_eq_true hc.2))
      · rename_i hc
        by_cases hik : i = k
        · subst hik
          rw [hz] at hy; injection hy with hy; subst hy
          intro h2
          apply hc
          have h3 : takB ts (some j) z = betB z x := by show (match ts[j]? with | none => true | some y => betB z y) = _; rw [hx]
          rw [h, h3, hw, hp]
          simp only [Bool.true_and]
          exact decide_eq_true h2
        · exact ih h hx (by omega)
/-- Who runs on a processor. -/
def onI (ts : List ST) (cpu : Int) : Option Nat := ts.findIdx? (fun x => decide (x.cpu = cpu))
def fndI (ts : List ST) (t : Int) : Option Nat := ts.findIdx? (fun x => decide (x.t = t))
/-- Processors that are idle are filled, up to one. -/
def fillK (ts : List ST) : Nat → List ST
  | 0 => ts
  | k + 1 => match onI (fillK ts k) k with
    | some _ => fillK ts k
    | none => match bestI (fillK ts k) k with
      | none => fillK ts k
      | some i => upd (fillK ts k) i (fun x => { x with cpu := k })
theorem fillK_len (ts : List ST) (k : Nat) : (fillK ts k).length = ts.length := by
  induction k with
  | zero => rfl
  | succ k ih =>
    unfold fillK
    split
    · exact ih
    · split
      · exact ih
      · rw [upd_len, ih]
/-- The least virtual time of those of fair shares that are ready. -/
def lowB (o : Option Int) (v : Int) : Bool := match o with
  | none => true
  | some m => decide (v < m)
def lowK (ts : List ST) : Nat → Option Int
  | 0 => none
  | k + 1 => match ts[k]? with
    | none => lowK ts k
    | some x => if (decide (x.cl = 1) && x.r && lowB (lowK ts k) x.v) = true then some x.v else lowK ts k
theorem lowK_at {ts : List ST} {k : Nat} {x : ST} (h : ts[k]? = some x) : lowK ts (k + 1) = if (decide (x.cl = 1) && x.r && lowB (lowK ts k) x.v) = true then some x.v else lowK ts k := by
  show (match ts[k]? with | none => _ | some x => _) = _
  rw [h]
def lowI (ts : List ST) : Option Int := lowK ts ts.length
/-- A run: how many processors, the ticks of all, the last stamp, the tasks. -/
structure SR where
  n : Nat
  tk : Int
  st : Int
  ts : List ST
def SR.fill (s : SR) : SR := { s with ts := fillK s.ts s.n }
def SR.wait (s : SR) (i : Nat) : SR := { s with st := s.st + 1, ts := upd s.ts i (fun x => { x with cpu := -1, si := s.st + 1 }) }
def SR.time (s : SR) : Int := s.tk / s.n
def entT (s : SR) (x : ST) : ST := { x with pin := 2 ^ s.n - 1, r := true, v := if x.cl = 1 then (lowI s.ts).getD x.v else x.v }
def SR.enter (s : SR) (x : ST) : SR := (({ s with ts := s.ts ++ [entT s x] } : SR).wait s.ts.length).fill
def newS (t cl va : Int) : ST := ⟨t, cl, va, 0, 0, 0, 0, 0, 0, 0, 0, 0, false, false, 0⟩
def newD (s : SR) (t bu pe : Int) : ST := ⟨t, 3, 0, 0, 0, bu, pe, bu, s.time + pe, 0, 0, 0, false, false, 0⟩
def SR.leave (s : SR) (i : Nat) : SR := ({ s with ts := s.ts.eraseIdx i } : SR).fill
def SR.block (s : SR) (i : Nat) : SR := ({ s with ts := upd s.ts i (fun x => { x with r := false, cpu := -1 }) } : SR).fill
/-- Awake again: its virtual time, its budget. -/
def wokS (s : SR) (x : ST) : ST :=
  let x1 := if x.cl = 1 then { x with v := match lowI s.ts with
    | none => x.v
    | some m => max x.v m } else x
  let x2 := if x1.cl = 3 ∧ x1.o = false ∧ (x1.du ≤ s.time ∨ (x1.du - s.time) * x1.bu < x1.le * x1.pe) then { x1 with le := x1.bu, du := s.time + x1.pe } else x1
  { x2 with r := true }
def SR.wake (s : SR) (i : Nat) : SR := (({ s with ts := upd s.ts i (wokS s) } : SR).wait i).fill
def costI (w : Int) : Int := 1048576 / w
/-- A tick that it has. -/
def runT (x : ST) : ST := if x.cl = 1 then { x with v := x.v + costI x.va } else if x.cl = 3 ∧ x.o = false then { x with le := x.le - 1, o := decide (x.le - 1 = 0) } else x
def refT (now : Int) (x : ST) : ST := if x.o = true ∧ x.du ≤ now then { x with o := false, le := x.bu, du := x.du + x.pe } else x
def SR.tick1 (s : SR) (cpu : Int) : SR := match onI s.ts cpu with
  | none => { s with tk := s.tk + 1 }
  | some i => { s with tk := s.tk + 1, ts := upd s.ts i runT }
def SR.tick2 (s : SR) (cpu : Int) : SR := { s.tick1 cpu with ts := (s.tick1 cpu).ts.map (refT (s.tick1 cpu).time) }
def SR.tick3 (s : SR) (cpu : Int) : SR := match onI (s.tick2 cpu).ts cpu with
  | none => s.tick2 cpu
  | some i => (s.tick2 cpu).wait i
def SR.tick (s : SR) (cpu : Int) : SR := (s.tick3 cpu).fill
def SR.pinTo (s : SR) (i : Nat) (m : Nat) : SR := match s.ts[i]? with
  | none => s
  | some x => if 0 ≤ x.cpu ∧ m.testBit x.cpu.toNat = false then (({ s with ts := upd s.ts i (fun x => { x with pin := m }) } : SR).wait i).fill
    else ({ s with ts := upd s.ts i (fun x => { x with pin := m }) } : SR).fill
def SR.boost (s : SR) (i : Nat) (cl va : Int) : SR := ({ s with ts := upd s.ts i (fun x => { x with mo := cl, wi := va }) } : SR).fill
def SR.calm (s : SR) (i : Nat) : SR := match s.ts[i]? with
  | none => s
  | some x => if x.o = true ∧ 0 ≤ x.cpu then (({ s with ts := upd s.ts i (fun x => { x with mo := 0, wi := 0 }) } : SR).wait i).fill
    else ({ s with ts := upd s.ts i (fun x => { x with mo := 0, wi := 0 }) } : SR).fill
/-- A task as it may be, after so many calls. -/
structure TOk (m : Int) (x : ST) : Prop where
  t1 : 1 ≤ x.t
  t2 : x.t ≤ 16
  c1 : 1 ≤ x.cl
  c2 : x.cl ≤ 3
  va1 : 0 ≤ x.va
  va2 : x.va ≤ 100
  va3 : x.cl = 1 → 1 ≤ x.va
  mo1 : 0 ≤ x.mo
  mo2 : x.mo ≤ 2
  wi1 : 0 ≤ x.wi
  wi2 : x.wi ≤ 100
  b1 : 0 ≤ x.bu
  b2 : x.bu ≤ 30
  b3 : x.cl = 3 → 1 ≤ x.bu
  p1 : 0 ≤ x.pe
  p2 : x.pe ≤ 30
  l1 : 0 ≤ x.le
  l2 : x.le ≤ 30
  l3 : x.cl = 3 → x.o = false → 1 ≤ x.le
  d1 : 0 ≤ x.du
  d2 : x.du ≤ m + 30
  v1 : 0 ≤ x.v
  v2 : x.v ≤ m * 1048576
  s1 : 0 ≤ x.si
  s2 : x.si ≤ m
  pi : x.pin < 16
  q1 : -1 ≤ x.cpu
  q2 : x.cpu ≤ 3
  o1 : x.cl ≠ 3 → x.o = false
/-- A run as it may be, after so many calls. -/
structure SOk (m : Int) (s : SR) : Prop where
  n1 : 1 ≤ s.n
  n2 : s.n ≤ 4
  tk1 : 0 ≤ s.tk
  tk2 : s.tk ≤ m
  st1 : 0 ≤ s.st
  st2 : s.st ≤ m
  len : s.ts.length ≤ 1000
  each : ∀ x ∈ s.ts, TOk m x
theorem TOk.more {m k : Int} {x : ST} (h : TOk m x) (hk : m ≤ k) : TOk k x := { h with d2 := by have := h.d2; omega, v2 := by have := h.v2; omega, s2 := by have := h.s2; omega }
theorem SOk.time {m : Int} {s : SR} (h : SOk m s) : 0 ≤ s.time ∧ s.time ≤ m := by
  unfold SR.time
  have h1 := h.tk1
  have h2 := h.tk2
  have h3 := h.n1
  refine ⟨Int.ediv_nonneg h1 (by omega), Int.le_trans (Int.ediv_le_self _ h1) h2⟩
theorem lowK_ok {m : Int} {ts : List ST} (h : ∀ x ∈ ts, TOk m x) {k : Nat} {v : Int} (hv : lowK ts k = some v) : 0 ≤ v ∧ v ≤ m * 1048576 := by
  induction k with
  | zero => cases hv
  | succ k ih =>
    unfold lowK at hv
    split at hv
    · exact ih hv
    · rename_i x hx
      split at hv
      · injection hv with hv; subst hv
        have := h x (List.mem_of_getElem? hx)
        exact ⟨this.v1, this.v2⟩
      · exact ih hv
theorem upd_ok {m k : Int} {ts : List ST} {i : Nat} {f : ST → ST} (h : ∀ x ∈ ts, TOk m x) (hk : m ≤ k) (hf : ∀ x, ts[i]? = some x → TOk m x → TOk k (f x)) : ∀ x ∈ upd ts i f, TOk k x := by
  intro x hx
  rcases upd_mem hx with hx | ⟨y, hy, rfl⟩
  · exact (h x hx).more hk
  · exact hf y hy (h y (List.mem_of_getElem? hy))
theorem fillK_ok {m : Int} {ts : List ST} (h : ∀ x ∈ ts, TOk m x) : ∀ k, k ≤ 4 → ∀ x ∈ fillK ts k, TOk m x := by
  intro k
  induction k with
  | zero => intro _; exact h
  | succ k ih =>
    intro hk
    have ih := ih (by omega)
    unfold fillK
    split
    · exact ih
    · split
      · exact ih
      · exact upd_ok ih (Int.le_refl _) (fun x _ hx => { hx with q1 := by show (-1 : Int) ≤ (k : Int); omega, q2 := by show (k : Int) ≤ 3; omega })
theorem SOk.fill {m : Int} {s : SR} (h : SOk m s) : SOk m s.fill :=
  { n1 := h.n1, n2 := h.n2, tk1 := h.tk1, tk2 := h.tk2, st1 := h.st1, st2 := h.st2, len := by show (fillK s.ts s.n).length ≤ 1000; rw [fillK_len]; exact h.len, each := fillK_ok h.each s.n h.n2 }
theorem SOk.wait {m : Int} {s : SR} (h : SOk m s) (i : Nat) : SOk (m + 1) (s.wait i) :=
  { n1 := h.n1, n2 := h.n2, tk1 := h.tk1, tk2 := by have := h.tk2; show s.tk ≤ _; omega, st1 := by have := h.st1; show 0 ≤ s.st + 1; omega, st2 := by have := h.st2; show s.st + 1 ≤ _; omega, len := by show (upd _ _ _).length ≤ 1000; rw [upd_len]; exact h.len,
    each := upd_ok h.each (by omega) (fun x _ hx => { hx.more (show m ≤ m + 1 by omega) with s1 := by have := h.st1; show 0 ≤ s.st + 1; omega, s2 := by have := h.st2; show s.st + 1 ≤ _; omega, q1 := by show (-1 : Int) ≤ -1; omega, q2 := by show (-1 : Int) ≤ 3; omega }) }
end Go.Proofs.Ytdelelpfombfbaa
