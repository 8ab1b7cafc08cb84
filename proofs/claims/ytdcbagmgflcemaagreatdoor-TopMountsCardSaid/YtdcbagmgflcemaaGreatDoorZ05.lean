/- More words for memory: what s[k:] and s[:k] read, a store into an element of many cells. No program in sight; no condition · Plain model of package spread: the tasks of a run, who goes ahead of whom, and what each call makes of them. No program in sight; no condition · Plain model of package spread, on: each call leaves a run as it may be. No program in sight; no condition. -/
import Derived.Test.YtdcbagmgflcemaaGreatDoorZ03
import Derived.Deep.DeepCutAuto
namespace Go.Proofs.YtdcbagmgflcemaaGreatDoor
open Go.RowKit
/-- Where s[k:] begins. -/
def adv (a : Option Addr) (c k s : Nat) : Option Addr := if c = k then a else a.map (·.add (k * s))
theorem run_from {P : Program} {t e : TypeId} {s bytes : Nat} (T : ETy P t e s bytes) (a : Option Addr) (n c k : Nat) (l : Int) (hl : l = (k : Int)) (hk : k ≤ n) (w : World) :
    (Instr.slice t (.slice a n c) (some (.int .i64 l)) none none).run P w = .ok (.slice (adv a c k s) (n - k) (c - k)) w := by
  obtain ⟨i, z, hi, _, hs, _, _⟩ := T.info
  subst hl
  subst hs
  have he : P.elem t = e := by simp [Program.elem, T.under]
  rw [run_slice_l w t a n c (by rw [he]; exact T.under) .i64 (k : Int) (by omega) (by omega)]
  simp [he, sizeOf, typeInfo, hi, sliced, adv, Result.andThen]
theorem Rd.drop_n {w : World} {R : Nat → Prop} {s : Nat} {a : Option Addr} {n c k : Nat} {xs : List Value} (h : Rd w R s a n c xs) (hk : k ≤ n) : Rd w R s (adv a c k s) (n - k) (c - k) (xs.drop (k * s)) := by
  obtain ⟨h1, h2, h3, h4⟩ := h
  have hm : (n - k) * s = n * s - k * s := Nat.sub_mul n k s
  have hks : k * s ≤ n * s := Nat.mul_le_mul_right _ hk
  refine ⟨by omega, by omega, by rw [List.length_drop, hm]; omega, fun hn => ?_⟩
  obtain ⟨g, off, r1, r2, r3, r4⟩ := h4 (by omega)
  refine ⟨g, off + k * s, ?_, r2, r3, fun j hj => ?_⟩
  · unfold adv
    rw [if_neg (by omega), r1, Option.map_some, add_off]
  · rw [List.getElem?_drop, Nat.add_assoc]
    exact r4 (k * s + j) (by omega)
theorem Rd.take_n {w : World} {R : Nat → Prop} {s : Nat} {a : Option Addr} {n c k : Nat} {xs : List Value} (h : Rd w R s a n c xs) (hk : k ≤ n) : Rd w R s a k c (xs.take (k * s)) := by
  obtain ⟨h1, h2, h3, h4⟩ := h
  have hks : k * s ≤ n * s := Nat.mul_le_mul_right _ hk
  refine ⟨by omega, by omega, by rw [List.length_take]; omega, fun hn => ?_⟩
  obtain ⟨g, off, r1, r2, r3, r4⟩ := h4 (by omega)
  exact ⟨g, off, r1, r2, r3, fun j hj => by rw [r4 j (by omega), List.getElem?_take_of_lt (by omega)]⟩
/-- A store into a cell of a slice of one's own. -/
theorem Sl.putn {w : World} {e : TypeId} {s n c g off i : Nat} {xs : List Value} {G : Option Nat} (h : Sl w e s (some ⟨g, off, Option.none⟩) n c xs G) (hi : i < n * s) (u : Value) : Sl (w.setCell ⟨g, off + i, Option.none⟩ u) e s (some ⟨g, off, Option.none⟩) n c (xs.set i u) G := by
  obtain ⟨h1, h2, h3, ⟨h4, _⟩ | ⟨g', off', cur, r1, r2, r3, r4, r5⟩⟩ := h
  · have : n = 0 := by omega
    subst this; omega
  · injection r1 with r1
    injection r1 with r1 r1'
    subst r1; subst r1'
    have hnc : n * s ≤ c * s := Nat.mul_le_mul_right _ h1
    refine ⟨h1, h2, by rw [List.length_set]; exact h3, .inr ⟨g, off, cur.setIfInBounds (off + i) u, rfl, r2, ?_, by simpa using r4, fun j hj => ?_⟩⟩
    · simp [World.setCell, Array.getElem?_modify, r3]
    · by_cases hji : j = i
      · subst hji
        rw [Array.getElem?_setIfInBounds_self_of_lt (by omega), List.getElem?_set_self (by omega)]
      · rw [Array.getElem?_setIfInBounds_ne (by omega), r5 j hj, List.getElem?_set_ne (by omega)]
theorem Sl.free {w : World} {e : TypeId} {s n c g off : Nat} {xs : List Value} {G : Option Nat} (h : Sl w e s (some ⟨g, off, Option.none⟩) n c xs G) (i : Nat) (h0 : 0 < n) : w.frozen? ⟨g, i, Option.none⟩ = false := by
  obtain ⟨h1, h2, h3, ⟨h4, _⟩ | ⟨g', off', cur, r1, r2, r3, r4, r5⟩⟩ := h
  · omega
  · injection r1 with r1
    injection r1 with r1 r1'
    subst r1; subst r1'
    simp [World.frozen?, r3]
theorem Sl.block {w : World} {e : TypeId} {s n c : Nat} {a : Option Addr} {xs : List Value} {G : Option Nat} (h : Sl w e s a n c xs G) (h0 : 0 < n) : ∃ g off, a = some ⟨g, off, none⟩ ∧ G = some g ∧ g < w.heap.size := by
  have hlt := h.lt
  obtain ⟨h1, h2, h3, ⟨h4, _⟩ | ⟨g', off', cur, r1, r2, r3, r4, r5⟩⟩ := h
  · omega
  · exact ⟨g', off', r1, r2, hlt _ r2⟩
/-- In a list of things laid one behind the other: a cell of the k-th is put anew. -/
theorem flat_set {α : Type} (f : α → List Value) (s : Nat) (hs : ∀ x, (f x).length = s) : ∀ (l : List α) (k i : Nat) (x y : α) (u : Value), l[k]? = some x → i < s → (f x).set i u = f y → (l.flatMap f).set (k * s + i) u = (l.set k y).flatMap f := by
  intro l
  induction l with
  | nil => intro k i x y u h; simp at h
  | cons z l ih =>
    intro k i x y u h hi hf
    cases k with
    | zero =>
      simp only [List.getElem?_cons_zero, Option.some.injEq] at h
      subst h
      rw [List.flatMap_cons, Nat.zero_mul, Nat.zero_add, List.set_append_left _ _ (by rw [hs]; exact hi), hf]
      simp
    | succ k =>
      simp only [List.getElem?_cons_succ] at h
      rw [List.flatMap_cons, List.set_append_right _ _ (by rw [hs, Nat.succ_mul]; omega), hs, show (k + 1) * s + i - s = k * s + i by rw [Nat.succ_mul]; omega, ih k i x y u h hi hf]
      simp
end Go.Proofs.YtdcbagmgflcemaaGreatDoor
namespace Go.Proofs.YtdcbagmgflcemaaGreatDoor
set_option linter.unusedVariables false
/-- A task of a run. -/
structure ST where
  t : Int
  cl : Int
  va : Int
  mo : Int
  wi : Int
  bu : Int
  pe : Int
  le : Int
  du : Int
  v : Int
  si : Int
  pin : Nat
  r : Bool
  o : Bool
  cpu : Int
def stCells (x : ST) : List Value := [.int .i64 x.t, .int .i64 x.cl, .int .i64 x.va, .int .i64 x.mo, .int .i64 x.wi, .int .i64 x.bu, .int .i64 x.pe, .int .i64 x.le, .int .i64 x.du, .int .i64 x.v, .int .i64 x.si, .int .i64 x.pin, .bool x.r, .bool x.o, .int .i64 x.cpu]
theorem st_len (x : ST) : (stCells x).length = 15 := rfl
theorem st_one (x : ST) : ∀ u ∈ stCells x, u.oneCell' = true := by
  intro u hu
  simp only [stCells, List.mem_cons, List.not_mem_nil, or_false] at hu
  rcases hu with rfl | rfl | rfl | rfl | rfl | rfl | rfl | rfl | rfl | rfl | rfl | rfl | rfl | rfl | rfl <;> rfl
/-- The class and the value that count. -/
def asC (x : ST) : Int := if 0 < x.mo then x.mo else x.cl
def asV (x : ST) : Int := if 0 < x.mo then x.wi else x.va
def key1 (x : ST) : Int := if asC x = 3 then x.du else if asC x = 2 then - asV x else x.v
def key2 (x : ST) : Int := if asC x = 3 then x.t else if asC x = 2 then x.si else x.t
/-- One goes ahead of another one. -/
def Better (x y : ST) : Prop := asC y < asC x ∨ (asC x = asC y ∧ (key1 x < key1 y ∨ (key1 x = key1 y ∧ key2 x < key2 y)))
instance (x y : ST) : Decidable (Better x y) := by unfold Better; exact inferInstance
def betB (x y : ST) : Bool := decide (Better x y)
theorem Better.trans {x y z : ST} (h : Better x y) (k : Better y z) : Better x z := by unfold Better at *; omega
/-- Is it ready, and runs nowhere, and may go? -/
def waitB (x : ST) : Bool := x.r && decide (x.cpu < 0) && (!x.o || decide (0 < x.mo))
/-- May it run on a processor? -/
def pinB (x : ST) (k : Nat) : Bool := x.pin.testBit k
def upd (ts : List ST) (i : Nat) (f : ST → ST) : List ST := match ts[i]? with
  | none => ts
  | some x => ts.set i (f x)
theorem upd_of {ts : List ST} {i : Nat} {x : ST} (h : ts[i]? = some x) (f : ST → ST) : upd ts i f = ts.set i (f x) := by unfold upd; rw [h]
theorem upd_len (ts : List ST) (i : Nat) (f : ST → ST) : (upd ts i f).length = ts.length := by unfold upd; split <;> simp
theorem upd_get (ts : List ST) (i j : Nat) (f : ST → ST) : (upd ts i f)[j]? = if i = j then ts[j]?.map f else ts[j]? := by
  unfold upd
  split
  · rename_i h
    split
    · rename_i hij; subst hij; rw [h]; rfl
    · rfl
  · rename_i x h
    have hi : i < ts.length := (List.getElem?_eq_some_iff.1 h).1
    rw [List.getElem?_set]
    split
    · rename_i hij; subst hij; rw [h]; simp
    · rfl
theorem upd_mem {ts : List ST} {i : Nat} {f : ST → ST} {x : ST} (h : x ∈ upd ts i f) : x ∈ ts ∨ ∃ y, ts[i]? = some y ∧ x = f y := by
  obtain ⟨j, hj⟩ := List.mem_iff_getElem?.1 h
  rw [upd_get] at hj
  split at hj
  · rename_i hij; subst hij
    cases hy : ts[i]? with
    | none => rw [hy] at hj; cases hj
    | some y => rw [hy] at hj; injection hj with hj; exact .inr ⟨y, rfl, hj.symm⟩
  · exact .inl (List.mem_of_getElem? hj)
/-- Does one take the place of the best so far? -/
def takB (ts : List ST) (b : Option Nat) (x : ST) : Bool := match b with
  | none => true
  | some j => match ts[j]? with
    | none => true
    | some y => betB x y
/-- The best so far of those that wait for a processor. -/
def bestK (ts : List ST) (cpu : Nat) : Nat → Option Nat
  | 0 => none
  | k + 1 => match ts[k]? with
    | none => bestK ts cpu k
    | some x => if (waitB x && pinB x cpu && takB ts (bestK ts cpu k) x) = true then some k else bestK ts cpu k
def bestI (ts : List ST) (cpu : Nat) : Option Nat := bestK ts cpu ts.length
theorem bestK_at {ts : List ST} {cpu k : Nat} {x : ST} (h : ts[k]? = some x) : bestK ts cpu (k + 1) = if (waitB x && pinB x cpu && takB ts (bestK ts cpu k) x) = true then some k else bestK ts cpu k := by
  show (match ts[k]? with | none => _ | some x => _) = _
  rw [h]
theorem bestK_off {ts : List ST} {cpu k : Nat} (h : ts[k]? = none) : bestK ts cpu (k + 1) = bestK ts cpu k := by
  show (match ts[k]? with | none => _ | some x => _) = _
  rw [h]
theorem bestK_lt {ts : List ST} {cpu k j : Nat} (h : bestK ts cpu k = some j) : j < k ∧ ∃ x, ts[j]? = some x ∧ waitB x = true ∧ pinB x cpu = true := by
  induction k with
  | zero => cases h
  | succ k ih =>
    cases hx : ts[k]? with
    | none => rw [bestK_off hx] at h; have := ih h; exact ⟨by omega, this.2⟩
    | some x =>
      rw [bestK_at hx] at h
      split at h
      · rename_i hc
        injection h with h; subst h
        simp only [Bool.and_eq_true] at hc
        exact ⟨by omega, x, hx, hc.1.1, hc.1.2⟩
      · have := ih h; exact ⟨by omega, this.2⟩
/-- Who runs on a processor. -/
def onI (ts : List ST) (cpu : Int) : Option Nat := ts.findIdx? (fun x => decide (x.cpu = cpu))
def fndI (ts : List ST) (t : Int) : Option Nat := ts.findIdx? (fun x => decide (x.t = t))
/-- Processors that are idle are filled, up to one. -/
def fillK (ts : List ST) : Nat → List ST
  | 0 => ts
  | k + 1 => match onI (fillK ts k) k with
    | some _ => fillK ts k
    | none => match bestI (fillK ts k) k with
      | none => fillK ts k
      | some i => upd (fillK ts k) i (fun x => { x with cpu := k })
theorem fillK_len (ts : List ST) (k : Nat) : (fillK ts k).length = ts.length := by
  induction k with
  | zero => rfl
  | succ k ih =>
    unfold fillK
    split
    · exact ih
    · split
      · exact ih
      · rw [upd_len, ih]
/-- The least virtual time of those of fair shares that are ready. -/
def lowB (o : Option Int) (v : Int) : Bool := match o with
  | none => true
  | some m => decide (v < m)
def lowK (ts : List ST) : Nat → Option Int
  | 0 => none
  | k + 1 => match ts[k]? with
    | none => lowK ts k
    | some x => if (decide (x.cl = 1) && x.r && lowB (lowK ts k) x.v) = true then some x.v else lowK ts k
theorem lowK_at {ts : List ST} {k : Nat} {x : ST} (h : ts[k]? = some x) : lowK ts (k + 1) = if (decide (x.cl = 1) && x.r && lowB (lowK ts k) x.v) = true then some x.v else lowK ts k := by
  show (match ts[k]? with | none => _ | some x => _) = _
  rw [h]
def lowI (ts : List ST) : Option Int := lowK ts ts.length
/-- A run: how many processors, the ticks of all, the last stamp, the tasks. -/
structure SR where
  n : Nat
  tk : Int
  st : Int
  ts : List ST
def SR.fill (s : SR) : SR := { s with ts := fillK s.ts s.n }
def SR.wait (s : SR) (i : Nat) : SR := { s with st := s.st + 1, ts := upd s.ts i (fun x => { x with cpu := -1, si := s.st + 1 }) }
def SR.time (s : SR) : Int := s.tk / s.n
def entT (s : SR) (x : ST) : ST := { x with pin := 2 ^ s.n - 1, r := true, v := if x.cl = 1 then (lowI s.ts).getD x.v else x.v }
def SR.enter (s : SR) (x : ST) : SR := (({ s with ts := s.ts ++ [entT s x] } : SR).wait s.ts.length).fill
def newS (t cl va : Int) : ST := ⟨t, cl, va, 0, 0, 0, 0, 0, 0, 0, 0, 0, false, false, 0⟩
def SR.leave (s : SR) (i : Nat) : SR := ({ s with ts := s.ts.eraseIdx i } : SR).fill
def SR.block (s : SR) (i : Nat) : SR := ({ s with ts := upd s.ts i (fun x => { x with r := false, cpu := -1 }) } : SR).fill
def costI (w : Int) : Int := 1048576 / w
/-- A tick that it has. -/
def runT (x : ST) : ST := if x.cl = 1 then { x with v := x.v + costI x.va } else if x.cl = 3 ∧ x.o = false then { x with le := x.le - 1, o := decide (x.le - 1 = 0) } else x
def refT (now : Int) (x : ST) : ST := if x.o = true ∧ x.du ≤ now then { x with o := false, le := x.bu, du := x.du + x.pe } else x
def SR.tick1 (s : SR) (cpu : Int) : SR := match onI s.ts cpu with
  | none => { s with tk := s.tk + 1 }
  | some i => { s with tk := s.tk + 1, ts := upd s.ts i runT }
def SR.tick2 (s : SR) (cpu : Int) : SR := { s.tick1 cpu with ts := (s.tick1 cpu).ts.map (refT (s.tick1 cpu).time) }
def SR.tick3 (s : SR) (cpu : Int) : SR := match onI (s.tick2 cpu).ts cpu with
  | none => s.tick2 cpu
  | some i => (s.tick2 cpu).wait i
def SR.tick (s : SR) (cpu : Int) : SR := (s.tick3 cpu).fill
/-- A task as it may be, after so many calls. -/
structure TOk (m : Int) (x : ST) : Prop where
  t1 : 1 ≤ x.t
  t2 : x.t ≤ 16
  c1 : 1 ≤ x.cl
  c2 : x.cl ≤ 3
  va1 : 0 ≤ x.va
  va2 : x.va ≤ 100
  va3 : x.cl = 1 → 1 ≤ x.va
  mo1 : 0 ≤ x.mo
  mo2 : x.mo ≤ 2
  wi1 : 0 ≤ x.wi
  wi2 : x.wi ≤ 100
  b1 : 0 ≤ x.bu
  b2 : x.bu ≤ 30
  b3 : x.cl = 3 → 1 ≤ x.bu
  p1 : 0 ≤ x.pe
  p2 : x.pe ≤ 30
  l1 : 0 ≤ x.le
  l2 : x.le ≤ 30
  l3 : x.cl = 3 → x.o = false → 1 ≤ x.le
  d1 : 0 ≤ x.du
  d2 : x.du ≤ m + 30
  v1 : 0 ≤ x.v
  v2 : x.v ≤ m * 1048576
  s1 : 0 ≤ x.si
  s2 : x.si ≤ m
  pi : x.pin < 16
  q1 : -1 ≤ x.cpu
  q2 : x.cpu ≤ 3
  o1 : x.cl ≠ 3 → x.o = false
/-- A run as it may be, after so many calls. -/
structure SOk (m : Int) (s : SR) : Prop where
  n1 : 1 ≤ s.n
  n2 : s.n ≤ 4
  tk1 : 0 ≤ s.tk
  tk2 : s.tk ≤ m
  st1 : 0 ≤ s.st
  st2 : s.st ≤ m
  len : s.ts.length ≤ 1000
  each : ∀ x ∈ s.ts, TOk m x
theorem TOk.more {m k : Int} {x : ST} (h : TOk m x) (hk : m ≤ k) : TOk k x := { h with d2 := by have := h.d2; omega, v2 := by have := h.v2; omega, s2 := by have := h.s2; omega }
theorem SOk.time {m : Int} {s : SR} (h : SOk m s) : 0 ≤ s.time ∧ s.time ≤ m := by
  unfold SR.time
  have h1 := h.tk1
  have h2 := h.tk2
  have h3 := h.n1
  refine ⟨Int.ediv_nonneg h1 (by omega), Int.le_trans (Int.ediv_le_self _ h1) h2⟩
theorem lowK_ok {m : Int} {ts : List ST} (h : ∀ x ∈ ts, TOk m x) {k : Nat} {v : Int} (hv : lowK ts k = some v) : 0 ≤ v ∧ v ≤ m * 1048576 := by
  induction k with
  | zero => cases hv
  | succ k ih =>
    unfold lowK at hv
    split at hv
    · exact ih hv
    · rename_i x hx
      split at hv
      · injection hv with hv; subst hv
        have := h x (List.mem_of_getElem? hx)
        exact ⟨this.v1, this.v2⟩
      · exact ih hv
theorem upd_ok {m k : Int} {ts : List ST} {i : Nat} {f : ST → ST} (h : ∀ x ∈ ts, TOk m x) (hk : m ≤ k) (hf : ∀ x, ts[i]? = some x → TOk m x → TOk k (f x)) : ∀ x ∈ upd ts i f, TOk k x := by
  intro x hx
  rcases upd_mem hx with hx | ⟨y, hy, rfl⟩
  · exact (h x hx).more hk
  · exact hf y hy (h y (List.mem_of_getElem? hy))
theorem fillK_ok {m : Int} {ts : List ST} (h : ∀ x ∈ ts, TOk m x) : ∀ k, k ≤ 4 → ∀ x ∈ fillK ts k, TOk m x := by
  intro k
  induction k with
  | zero => intro _; exact h
  | succ k ih =>
    intro hk
    have ih := ih (by omega)
    unfold fillK
    split
    · exact ih
    · split
      · exact ih
      · exact upd_ok ih (Int.le_refl _) (fun x _ hx => { hx with q1 := by show (-1 : Int) ≤ (k : Int); omega, q2 := by show (k : Int) ≤ 3; omega })
theorem SOk.fill {m : Int} {s : SR} (h : SOk m s) : SOk m s.fill :=
  { n1 := h.n1, n2 := h.n2, tk1 := h.tk1, tk2 := h.tk2, st1 := h.st1, st2 := h.st2, len := by show (fillK s.ts s.n).length ≤ 1000; rw [fillK_len]; exact h.len, each := fillK_ok h.each s.n h.n2 }
theorem SOk.wait {m : Int} {s : SR} (h : SOk m s) (i : Nat) : SOk (m + 1) (s.wait i) :=
  { n1 := h.n1, n2 := h.n2, tk1 := h.tk1, tk2 := by have := h.tk2; show s.tk ≤ _; omega, st1 := by have := h.st1; show 0 ≤ s.st + 1; omega, st2 := by have := h.st2; show s.st + 1 ≤ _; omega, len := by show (upd _ _ _).length ≤ 1000; rw [upd_len]; exact h.len,
    each := upd_ok h.each (by omega) (fun x _ hx => { hx.more (show m ≤ m + 1 by omega) with s1 := by have := h.st1; show 0 ≤ s.st + 1; omega, s2 := by have := h.st2; show s.st + 1 ≤ _; omega, q1 := by show (-1 : Int) ≤ -1; omega, q2 := by show (-1 : Int) ≤ 3; omega }) }
end Go.Proofs.YtdcbagmgflcemaaGreatDoor
namespace Go.Proofs.YtdcbagmgflcemaaGreatDoor
set_option linter.unusedVariables false
theorem SOk.upd {m k : Int} {s : SR} {i : Nat} {f : ST → ST} (h : SOk m s) (hk : m ≤ k) (hf : ∀ x, s.ts[i]? = some x → TOk m x → TOk k (f x)) : SOk k { s with ts := upd s.ts i f } :=
  { n1 := h.n1, n2 := h.n2, tk1 := h.tk1, tk2 := Int.le_trans h.tk2 hk, st1 := h.st1, st2 := Int.le_trans h.st2 hk, len := by show (Go.Proofs.YtdcbagmgflcemaaGreatDoor.upd s.ts i f).length ≤ 1000; rw [upd_len]; exact h.len, each := upd_ok h.each hk hf }
theorem SOk.more {m k : Int} {s : SR} (h : SOk m s) (hk : m ≤ k) : SOk k s :=
  { n1 := h.n1, n2 := h.n2, tk1 := h.tk1, tk2 := Int.le_trans h.tk2 hk, st1 := h.st1, st2 := Int.le_trans h.st2 hk, len := h.len, each := fun x hx => (h.each x hx).more hk }
theorem TOk.off {m : Int} {x : ST} (h : TOk m x) : TOk m { x with r := false, cpu := -1 } := { h with q1 := by show (-1 : Int) ≤ -1; omega, q2 := by show (-1 : Int) ≤ 3; omega }
theorem TOk.pinned {m : Int} {x : ST} (h : TOk m x) {k : Nat} (a : k < 16) : TOk m { x with pin := k } := { h with pi := a }
theorem TOk.ref {m now : Int} {x : ST} (h : TOk m x) (hn : now ≤ m) : TOk m (refT now x) := by
  unfold refT
  split
  · rename_i hc
    have h1 := h.d1
    have h2 := h.p1
    have h3 := h.p2
    have h4 := hc.2
    have hcl : x.cl = 3 := Classical.byContradiction fun hh => by have := h.o1 hh; rw [hc.1] at this; cases this
    exact { h with l1 := h.b1, l2 := h.b2, l3 := fun _ _ => h.b3 hcl, d1 := by show 0 ≤ x.du + x.pe; omega, d2 := by show x.du + x.pe ≤ m + 30; omega, o1 := fun _ => rfl }
  · exact h
theorem cost_bd {v : Int} (h : 1 ≤ v) : 0 ≤ costI v ∧ costI v ≤ 1048576 := by
  unfold costI
  exact ⟨Int.ediv_nonneg (by omega) (by omega), Int.ediv_le_self _ (by omega)⟩
theorem TOk.run {m : Int} {x : ST} (h : TOk m x) : TOk (m + 1) (runT x) := by
  have hm := h.more (show m ≤ m + 1 by omega)
  unfold runT
  split
  · rename_i hc
    have h1 := cost_bd (h.va3 hc)
    have h2 := h.v1
    have h3 := h.v2
    exact { hm with v1 := by show 0 ≤ x.v + costI x.va; omega, v2 := by show x.v + costI x.va ≤ (m + 1) * 1048576; omega }
  · split
    · rename_i hc hc2
      have h1 := h.l3 hc2.1 hc2.2
      have h2 := h.l2
      exact { hm with l1 := by show 0 ≤ x.le - 1; omega, l2 := by show x.le - 1 ≤ 30; omega, l3 := (fun _ ho => by have ho' : decide (x.le - 1 = 0) = false := ho; simp at ho'; show 1 ≤ x.le - 1; omega), o1 := fun hh => absurd hc2.1 hh }
    · exact hm
theorem lowI_ok {m : Int} {s : SR} (h : SOk m s) {v : Int} (hv : lowI s.ts = some v) : 0 ≤ v ∧ v ≤ m * 1048576 := lowK_ok h.each hv
theorem ent_ok {m : Int} {s : SR} (h : SOk m s) {x : ST} (hx : TOk m x) (hv : x.v = 0) : TOk m (entT s x) := by
  have h1 := h.n1
  have h2 := h.n2
  have hp : 2 ^ s.n - 1 < 16 := by
    have : 2 ^ s.n ≤ 2 ^ 4 := Nat.pow_le_pow_right (by omega) h2
    omega
  have h3 : 0 ≤ (if x.cl = 1 then (lowI s.ts).getD x.v else x.v) ∧ (if x.cl = 1 then (lowI s.ts).getD x.v else x.v) ≤ m * 1048576 := by
    have hx1 := hx.v1
    have hx2 := hx.v2
    split
    · cases hl : lowI s.ts with
      | none => exact ⟨hx1, hx2⟩
      | some v => exact lowI_ok h hl
    · exact ⟨hx1, hx2⟩
  unfold entT
  exact { hx with pi := hp, v1 := h3.1, v2 := h3.2 }
theorem SOk.app {m : Int} {s : SR} (h : SOk m s) {x : ST} (hx : TOk m x) (hl : s.ts.length < 1000) : SOk m { s with ts := s.ts ++ [x] } :=
  { n1 := h.n1, n2 := h.n2, tk1 := h.tk1, tk2 := h.tk2, st1 := h.st1, st2 := h.st2, len := by show (s.ts ++ [x]).length ≤ 1000; simp; omega, each := fun y hy => by
      rcases List.mem_append.1 hy with hy | hy
      · exact h.each y hy
      · rw [List.mem_singleton.1 hy]; exact hx }
theorem SOk.erase {m : Int} {s : SR} (h : SOk m s) (i : Nat) : SOk m { s with ts := s.ts.eraseIdx i } :=
  { n1 := h.n1, n2 := h.n2, tk1 := h.tk1, tk2 := h.tk2, st1 := h.st1, st2 := h.st2, len := by show (s.ts.eraseIdx i).length ≤ 1000; have := h.len; have := List.length_eraseIdx_le s.ts i; omega, each := fun y hy => h.each y (List.mem_of_mem_eraseIdx hy) }
theorem SOk.tick1 {m : Int} {s : SR} (h : SOk m s) (cpu : Int) : SOk (m + 1) (s.tick1 cpu) := by
  have h1 := h.tk1
  have h2 := h.tk2
  have hm := h.more (show m ≤ m + 1 by omega)
  unfold SR.tick1
  split
  · exact { hm with tk1 := by show 0 ≤ s.tk + 1; omega, tk2 := by show s.tk + 1 ≤ m + 1; omega }
  · rename_i i _
    have hu := h.upd (k := m + 1) (i := i) (f := runT) (by omega) (fun x _ hx => hx.run)
    exact { n1 := hu.n1, n2 := hu.n2, tk1 := by show 0 ≤ s.tk + 1; omega, tk2 := by show s.tk + 1 ≤ m + 1; omega, st1 := hu.st1, st2 := hu.st2, len := hu.len, each := hu.each }
theorem SOk.tick2 {m : Int} {s : SR} (h : SOk m s) (cpu : Int) : SOk (m + 1) (s.tick2 cpu) := by
  have hu := h.tick1 cpu
  have ht := hu.time
  have hl : ((s.tick1 cpu).ts.map (refT (s.tick1 cpu).time)).length ≤ 1000 := by rw [List.length_map]; exact hu.len
  refine ⟨hu.n1, hu.n2, hu.tk1, hu.tk2, hu.st1, hu.st2, hl, fun y hy => ?_⟩
  obtain ⟨z, hz, rfl⟩ := List.mem_map.1 hy
  exact (hu.each z hz).ref ht.2
theorem tick1_st (s : SR) (cpu : Int) : (s.tick1 cpu).st = s.st := by unfold SR.tick1; split <;> rfl
theorem SOk.wait' {m k : Int} {s : SR} (h : SOk m s) (i : Nat) (hs : s.st + 1 ≤ k) (hk : m ≤ k) : SOk k (s.wait i) := by
  have hm := h.more hk
  have hl : (Go.Proofs.YtdcbagmgflcemaaGreatDoor.upd s.ts i (fun x => { x with cpu := -1, si := s.st + 1 })).length ≤ 1000 := by rw [upd_len]; exact h.len
  have h1 := h.st1
  have h2 : 0 ≤ s.st + 1 := by omega
  refine ⟨hm.n1, hm.n2, hm.tk1, hm.tk2, h2, hs, hl, upd_ok hm.each (Int.le_refl _) (fun x _ hx => ?_)⟩
  exact { hx with s1 := h2, s2 := hs, q1 := by show (-1 : Int) ≤ -1; omega, q2 := by show (-1 : Int) ≤ 3; omega }
theorem SOk.tick3 {m : Int} {s : SR} (h : SOk m s) (cpu : Int) : SOk (m + 1) (s.tick3 cpu) := by
  have hu := h.tick2 cpu
  unfold SR.tick3
  split
  · exact hu
  · rename_i i _
    refine hu.wait' i ?_ (Int.le_refl _)
    show (s.tick1 cpu).st + 1 ≤ m + 1
    rw [tick1_st]
    have := h.st2
    omega
theorem SOk.tick {m : Int} {s : SR} (h : SOk m s) (cpu : Int) : SOk (m + 1) (s.tick cpu) := (h.tick3 cpu).fill
theorem SOk.block {m : Int} {s : SR} (h : SOk m s) (i : Nat) : SOk m (s.block i) := (h.upd (Int.le_refl _) (fun x _ hx => hx.off)).fill
theorem SOk.leave {m : Int} {s : SR} (h : SOk m s) (i : Nat) : SOk m (s.leave i) := (h.erase i).fill
theorem SOk.enter {m : Int} {s : SR} (h : SOk m s) {x : ST} (hx : TOk m x) (hv : x.v = 0) (hl : s.ts.length < 1000) : SOk (m + 1) (s.enter x) := ((h.app (ent_ok h hx hv) hl).wait _).fill
/-- Who has a number. -/
def SR.who (s : SR) (t : Int) : Option (Nat × ST) := match fndI s.ts t with
  | none => none
  | some i => match s.ts[i]? with
    | none => none
    | some x => some (i, x)
theorem who_none {s : SR} {t : Int} (h : fndI s.ts t = none) : s.who t = none := by unfold SR.who; rw [h]
theorem who_some {s : SR} {t : Int} {i : Nat} {x : ST} (h : fndI s.ts t = some i) (hx : s.ts[i]? = some x) : s.who t = some (i, x) := by unfold SR.who; rw [h]; show (match s.ts[i]? with | none => none | some x => some (i, x)) = _; rw [hx]
def SR.doAdd (s : SR) (t cl va : Int) : SR × Int := match s.who t with
  | none => (s.enter (newS t cl va), 0)
  | some (i, x) => (s, 5)
end Go.Proofs.YtdcbagmgflcemaaGreatDoor
