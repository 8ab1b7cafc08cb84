/- Contracts of package spread that only read: find, on, as, waits, better, value. Conditions: at most 1000 tasks, each as it may be · More contracts of package spread that only read: better, best, value. Conditions: at most 1000 tasks, each as it may be · More contracts of package spread that only read: best, low, time, value. Conditions: at most 1000 tasks, each as it may be · Contracts of package spread that write: wait, fill. Conditions: at most 1000 tasks, each as it may be; stamps below 2^30 · Contracts of package spread: New, Pick, Ready, Block, Boost, Calm. Conditions: a run as it may be. -/
import Derived.Test.YtdcbagmgflcemaaGreatDoorZ04
import Derived.Test.YtdcbagmgflcemaaGreatDoorZ05
import Derived.RegionTactic
import Derived.BigRegion
import Derived.Deep.RegionLaw
import Derived.Deep.RegionHeld3
import Derived.Deep.QuietTactic
import Derived.BigQuiet
import Derived.StillTailTactics
import Derived.Deep.DeepCutAuto
namespace Go.Proofs.YtdcbagmgflcemaaGreatDoor
open Go.ChangeShapes Go.WideShapes Go.ChangeAt Go.RowKit
set_option linter.unusedVariables false
theorem eSTask : ETy Tryz.prog 172 185 15 112 := ⟨Tryz.underlying172, info_of (z := .agg #[.int .i64 0, .int .i64 0, .int .i64 0, .int .i64 0, .int .i64 0, .int .i64 0, .int .i64 0, .int .i64 0, .int .i64 0, .int .i64 0, .int .i64 0, .int .i64 0, .bool false, .bool false, .int .i64 0]) (by kernel_rfl) rfl, by decide⟩
/-- In block p lies a run; its tasks lie from off on in block g, if there are any; its blocks are all of F. -/
structure RA (w : World) (F : Nat → Prop) (p : Nat) (s : SR) (g off : Nat) (a : Option Addr) (c : Nat) (G : Option Nat) : Prop where
  blk : Blk w p 174 [.int .i64 s.n, .int .i64 s.tk, .int .i64 s.st, .slice a s.ts.length c]
  sl : Sl w 185 15 a s.ts.length c (s.ts.flatMap stCells) G
  ha : 0 < s.ts.length → a = some ⟨g, off, none⟩ ∧ G = some g
  fp : F p
  fg : ∀ g, G = some g → F g
  lt : ∀ k, F k → k < w.heap.size
def RunAt (w : World) (F : Nat → Prop) (p : Nat) (s : SR) : Prop := ∃ g off a c G, RA w F p s g off a c G
section
variable {w w' : World} {F H : Nat → Prop} {p : Nat} {s : SR} {g off : Nat} {a : Option Addr} {c : Nat} {G : Option Nat}
theorem RA.chg (h : RA w F p s g off a c G) (hc : Chg H w w') (hd : Dj F H) : RA w' F p s g off a c G :=
  ⟨h.blk.chg hc (hd p h.fp), h.sl.chg hc (fun g hg => hd g (h.fg g hg)), h.ha, h.fp, h.fg, fun k hk => Nat.lt_of_lt_of_le (h.lt k hk) hc.size⟩
theorem RunAt.chg (h : RunAt w F p s) (hc : Chg H w w') (hd : Dj F H) : RunAt w' F p s := by
  obtain ⟨g, off, a, c, G, h⟩ := h
  exact ⟨g, off, a, c, G, h.chg hc hd⟩
theorem RunAt.lt (h : RunAt w F p s) : ∀ k, F k → k < w.heap.size := by
  obtain ⟨g, off, a, c, G, h⟩ := h
  exact h.lt
theorem RA.nil (h : RA w F p s g off a c G) (hc : Chg Nil w w') : RA w' F p s g off a c G := h.chg hc (fun _ _ h => h)
theorem RA.drewN (h : RA w F p s g off a c G) (n : Nat) : RA (w.drewN n) F p s g off a c G := h.nil ((Chg.refl Nil w).drewN n)
theorem RunAt.drewN (h : RunAt w F p s) (n : Nat) : RunAt (w.drewN n) F p s := h.chg ((Chg.refl Nil w).drewN n) (fun _ _ h => h)
theorem RA.c0 (h : RA w F p s g off a c G) : w.cell? ⟨p, 0, none⟩ = some (.int .i64 s.n) := h.blk.cell 0
theorem RA.c1 (h : RA w F p s g off a c G) : w.cell? ⟨p, 1, none⟩ = some (.int .i64 s.tk) := h.blk.cell 1
theorem RA.c2 (h : RA w F p s g off a c G) : w.cell? ⟨p, 2, none⟩ = some (.int .i64 s.st) := h.blk.cell 2
theorem RA.c3 (h : RA w F p s g off a c G) : w.cell? ⟨p, 3, none⟩ = some (.slice a s.ts.length c) := h.blk.cell 3
theorem RA.fr (h : RA w F p s g off a c G) (i : Nat) : w.frozen? ⟨p, i, none⟩ = false := h.blk.frozen i
theorem RA.ne (h : RA w F p s g off a c G) : G ≠ some p := h.sl.ne_blk h.blk (by decide)
theorem RA.eq (h : RA w F p s g off a c G) {i : Nat} {x : ST} (hx : s.ts[i]? = some x) : a = some ⟨g, off, none⟩ ∧ G = some g := h.ha (by have := (List.getElem?_eq_some_iff.1 hx).1; omega)
theorem RA.cell (h : RA w F p s g off a c G) {i : Nat} {x : ST} (hx : s.ts[i]? = some x) (j : Nat) (hj : j < 15) : w.cell? ⟨g, off + i * 15 + j, none⟩ = (stCells x)[j]? := by
  have hi : i < s.ts.length := (List.getElem?_eq_some_iff.1 hx).1
  obtain ⟨g', off', r1, r2, r3, r4⟩ := h.sl.rd.elem st_len rfl (by omega)
  obtain ⟨e1, e2⟩ := h.eq hx
  rw [e1] at r1
  injection r1 with r1
  injection r1 with r1 r1'
  subst r1; subst r1'
  rw [r4 i hi j hj, (List.getElem?_eq_some_iff.1 hx).2]
theorem RA.free (h : RA w F p s g off a c G) (h0 : 0 < s.ts.length) (k : Nat) : w.frozen? ⟨g, k, none⟩ = false := by
  obtain ⟨e1, e2⟩ := h.ha h0
  subst e1
  exact h.sl.free k h0
end
/-- A pointer to a task, if any. -/
def elV (g off : Nat) : Option Nat → Value
  | none => .pointer none
  | some j => .pointer (some ⟨g, off + j * 15, none⟩)
/-- None of the first k is such. -/
def NoU (f : ST → Bool) (ts : List ST) (k : Nat) : Prop := ∀ j y, j < k → ts[j]? = some y → f y = false
theorem noU_succ {f : ST → Bool} {ts : List ST} {k : Nat} {x : ST} (h : NoU f ts k) (hx : ts[k]? = some x) (hf : f x = false) : NoU f ts (k + 1) := by
  intro j y hj hy
  by_cases hjk : j = k
  · subst hjk; rw [hx] at hy; injection hy with hy; subst hy; exact hf
  · exact h j y (by omega) hy
theorem idx_some {f : ST → Bool} {ts : List ST} {k : Nat} {x : ST} (h : NoU f ts k) (hx : ts[k]? = some x) (hf : f x = true) : ts.findIdx? f = some k := by
  obtain ⟨h1, h2⟩ := List.getElem?_eq_some_iff.1 hx
  rw [List.findIdx?_eq_some_iff_getElem]
  refine ⟨h1, by rw [h2]; exact hf, fun j hj => ?_⟩
  rw [h j ts[j] hj (List.getElem?_eq_getElem (by omega))]
  simp
theorem idx_none {f : ST → Bool} {ts : List ST} {k : Nat} (h : NoU f ts k) (hk : ts.length ≤ k) : ts.findIdx? f = none := by
  rw [List.findIdx?_eq_none_iff]
  intro x hx
  obtain ⟨j, hj⟩ := List.mem_iff_getElem?.1 hx
  exact h j x (by have := (List.getElem?_eq_some_iff.1 hj).1; omega) hj
theorem idx_get {f : ST → Bool} {ts : List ST} {k : Nat} (h : ts.findIdx? f = some k) : ∃ x, ts[k]? = some x ∧ f x = true ∧ NoU f ts k := by
  rw [List.findIdx?_eq_some_iff_getElem] at h
  obtain ⟨h1, h2, h3⟩ := h
  refine ⟨ts[k], List.getElem?_eq_getElem h1, h2, fun j y hj hy => ?_⟩
  have := h3 j hj
  rw [(List.getElem?_eq_some_iff.1 hy).2] at this
  simpa using this
theorem sfind_ok (w : World) (F : Nat → Prop) (p : Nat) (s : SR) (g off : Nat) (a : Option Addr) (c : Nat) (G : Option Nat) (h : RA w F p s g off a c G) (hl : s.ts.length ≤ 1000) (t : Int) :
    Calls Tryz.prog 67 #[.pointer (some ⟨p, 0, none⟩), .int .i64 t] w fun e w' => e = .returned (elV g off (fndI s.ts t)) ∧ w = w' := by
  have c3 := h.c3
  have H := hid h
  clear h
  go_enter Tryz.func67, Tryz.ntmps67
  go_wp2
  go_loop [11] (fun s11 => ∃ k : Nat, k ≤ s.ts.length ∧ s11 = .int .i64 k ∧ Hid (NoU (fun x => decide (x.t = t)) s.ts k)) (fun s11 => s.ts.length - (intOf s11).toNat)
  case atStart => exact ⟨0, by omega, rfl, fun j y hj => absurd hj (by omega)⟩
  case round =>
    obtain ⟨k, hk, rfl, hN⟩ := hrel
    by_cases hlt : k < s.ts.length
    · have hx := List.getElem?_eq_getElem hlt
      generalize s.ts[k] = x at hx
      obtain ⟨rfl, rfl⟩ := H.out.eq hx
      have hc := H.out.cell hx 0 (by omega)
      simp only [stCells, List.getElem?_cons_zero, Nat.add_zero] at hc
      replace hx := hid hx
      by_cases he : x.t = t
      · have hb : (x.t == t) = true := by rw [beq_iff_eq]; exact he
        have HI := hid (idx_some hN.out hx.out (by simp [he]))
        replace he := hid he
        go_wp2
        go_ret
        unfold fndI
        rw [HI.out]
        exact ⟨rfl, rfl⟩
      · have hb : (x.t == t) = false := by rw [beq_eq_false_iff_ne]; exact he
        have HI := hid (noU_succ hN.out hx.out (by simp [he]))
        replace he := hid he
        go_wp2
        go_round
        case rel => exact ⟨k + 1, by omega, by go_num, HI⟩
        case measure => simp [intOf]; omega
    · have HI := hid (idx_none hN.out (by omega))
      go_wp2
      go_ret
      unfold fndI
      rw [HI.out]
      exact ⟨rfl, rfl⟩
theorem son_ok (w : World) (F : Nat → Prop) (p : Nat) (s : SR) (g off : Nat) (a : Option Addr) (c : Nat) (G : Option Nat) (h : RA w F p s g off a c G) (hl : s.ts.length ≤ 1000) (t : Int) :
    Calls Tryz.prog 218 #[.pointer (some ⟨p, 0, none⟩), .int .i64 t] w fun e w' => e = .returned (elV g off (onI s.ts t)) ∧ w = w' := by
  have c3 := h.c3
  have H := hid h
  clear h
  go_enter Tryz.func218, Tryz.ntmps218
  go_wp2
  go_loop [11] (fun s11 => ∃ k : Nat, k ≤ s.ts.length ∧ s11 = .int .i64 k ∧ Hid (NoU (fun x => decide (x.cpu = t)) s.ts k)) (fun s11 => s.ts.length - (intOf s11).toNat)
  case atStart => exact ⟨0, by omega, rfl, fun j y hj => absurd hj (by omega)⟩
  case round =>
    obtain ⟨k, hk, rfl, hN⟩ := hrel
    by_cases hlt : k < s.ts.length
    · have hx := List.getElem?_eq_getElem hlt
      generalize s.ts[k] = x at hx
      obtain ⟨rfl, rfl⟩ := H.out.eq hx
      have hc := H.out.cell hx 14 (by omega)
      simp only [stCells, List.getElem?_cons_succ, List.getElem?_cons_zero] at hc
      replace hx := hid hx
      by_cases he : x.cpu = t
      · have hb : (x.cpu == t) = true := by rw [beq_iff_eq]; exact he
        have HI := hid (idx_some hN.out hx.out (by simp [he]))
        replace he := hid he
        go_wp2
        go_ret
        unfold onI
        rw [HI.out]
        exact ⟨rfl, rfl⟩
      · have hb : (x.cpu == t) = false := by rw [beq_eq_false_iff_ne]; exact he
        have HI := hid (noU_succ hN.out hx.out (by simp [he]))
        replace he := hid he
        go_wp2
        go_round
        case rel => exact ⟨k + 1, by omega, by go_num, HI⟩
        case measure => simp [intOf]; omega
    · have HI := hid (idx_none hN.out (by omega))
      go_wp2
      go_ret
      unfold onI
      rw [HI.out]
      exact ⟨rfl, rfl⟩
theorem sas_ok (w : World) (F : Nat → Prop) (p : Nat) (s : SR) (g off : Nat) (a : Option Addr) (c : Nat) (G : Option Nat) (h : RA w F p s g off a c G) (i : Nat) (x : ST) (hx : s.ts[i]? = some x) :
    Calls Tryz.prog 329 #[.pointer (some ⟨g, off + i * 15, none⟩)] w fun e w' => e = .returned (.tuple #[.int .i64 (asC x), .int .i64 (asV x)]) ∧ ∃ q, w' = w.drewN q := by
  have x1 := h.cell hx 1 (by omega)
  have x2 := h.cell hx 2 (by omega)
  have x3 := h.cell hx 3 (by omega)
  have x4 := h.cell hx 4 (by omega)
  simp only [stCells, List.getElem?_cons_succ, List.getElem?_cons_zero] at x1 x2 x3 x4
  clear h hx
  by_cases hm : 0 < x.mo
  · have e1 : asC x = x.mo := if_pos hm
    have e2 : asV x = x.wi := if_pos hm
    rw [e1, e2]
    clear e1 e2
    go_enter Tryz.func329, Tryz.ntmps329
    go_wp2
    go_quiet (fail)
    go_wp2
    go_ret2
    exact ⟨rfl, _, rfl⟩
  · have e1 : asC x = x.cl := if_neg hm
    have e2 : asV x = x.va := if_neg hm
    rw [e1, e2]
    clear e1 e2
    go_enter Tryz.func329, Tryz.ntmps329
    go_wp2
    go_quiet (fail)
    go_wp2
    go_ret2
    exact ⟨rfl, _, rfl⟩
theorem swaits_ok (w : World) (F : Nat → Prop) (p : Nat) (s : SR) (g off : Nat) (a : Option Addr) (c : Nat) (G : Option Nat) (h : RA w F p s g off a c G) (i : Nat) (x : ST) (hx : s.ts[i]? = some x) :
    Calls Tryz.prog 286 #[.pointer (some ⟨g, off + i * 15, none⟩)] w fun e w' => e = .returned (.bool (waitB x)) ∧ w' = w := by
  have x3 := h.cell hx 3 (by omega)
  have x12 := h.cell hx 12 (by omega)
  have x13 := h.cell hx 13 (by omega)
  have x14 := h.cell hx 14 (by omega)
  simp only [stCells, List.getElem?_cons_succ, List.getElem?_cons_zero] at x3 x12 x13 x14
  clear h hx
  unfold waitB
  generalize x.r = r at x12 ⊢
  generalize x.o = o at x13 ⊢
  generalize x.cpu = cpu at x14 ⊢
  generalize x.mo = mo at x3 ⊢
  cases r with
  | false =>
    go_enter Tryz.func286, Tryz.ntmps286
    go_wp2
    go_ret
    exact ⟨by simp, rfl⟩
  | true =>
    by_cases hc : cpu < 0
    · cases o with
      | false =>
        have hE : Hid ((true && decide (cpu < 0) && (!false || decide (0 < mo))) = true) := hid (by simp [hc])
        rw [hE.out]
        go_enter Tryz.func286, Tryz.ntmps286
        go_wp2
        go_ret
        exact ⟨rfl, rfl⟩
      | true =>
        by_cases hm : 0 < mo
        · have hE : Hid ((true && decide (cpu < 0) && (!true || decide (0 < mo))) = true) := hid (by simp [hc, hm])
          rw [hE.out]
          go_enter Tryz.func286, Tryz.ntmps286
          go_wp2
          go_ret
          exact ⟨by simp, rfl⟩
        · have hE : Hid ((true && decide (cpu < 0) && (!true || decide (0 < mo))) = false) := hid (by simp [hm])
          rw [hE.out]
          go_enter Tryz.func286, Tryz.ntmps286
          go_wp2
          go_ret
          exact ⟨by simp, rfl⟩
    · have hE : Hid ((true && decide (cpu < 0) && (!o || decide (0 < mo))) = false) := hid (by simp [hc])
      rw [hE.out]
      go_enter Tryz.func286, Tryz.ntmps286
      go_wp2
      go_ret
      exact ⟨by simp, rfl⟩
end Go.Proofs.YtdcbagmgflcemaaGreatDoor
namespace Go.Proofs.YtdcbagmgflcemaaGreatDoor
open Go.ChangeShapes Go.WideShapes Go.ChangeAt Go.RowKit
set_option linter.unusedVariables false
theorem betB_of {x y : ST} {P : Prop} [Decidable P] (h : Better x y ↔ P) : betB x y = decide P := decide_eq_decide.2 h
theorem bet_ne {x y : ST} (h : asC x ≠ asC y) : betB x y = decide (asC y < asC x) := betB_of (by unfold Better; omega)
theorem bet_dead {x y : ST} (hx : asC x = 3) (hy : asC y = 3) : (x.du ≠ y.du → betB x y = decide (x.du < y.du)) ∧ (x.du = y.du → betB x y = decide (x.t < y.t)) := by
  have e1 : key1 x = x.du := if_pos hx
  have e2 : key1 y = y.du := if_pos hy
  have e3 : key2 x = x.t := if_pos hx
  have e4 : key2 y = y.t := if_pos hy
  exact ⟨fun h => betB_of (by unfold Better; omega), fun h => betB_of (by unfold Better; omega)⟩
theorem bet_prio {x y : ST} (hx : asC x = 2) (hy : asC y = 2) : (asV x ≠ asV y → betB x y = decide (asV y < asV x)) ∧ (asV x = asV y → betB x y = decide (x.si < y.si)) := by
  have e1 : key1 x = - asV x := by unfold key1; rw [if_neg (by omega), if_pos hx]
  have e2 : key1 y = - asV y := by unfold key1; rw [if_neg (by omega), if_pos hy]
  have e3 : key2 x = x.si := by unfold key2; rw [if_neg (by omega), if_pos hx]
  have e4 : key2 y = y.si := by unfold key2; rw [if_neg (by omega), if_pos hy]
  exact ⟨fun h => betB_of (by unfold Better; omega), fun h => betB_of (by unfold Better; omega)⟩
theorem bet_fair {x y : ST} (h : asC x = asC y) (h3 : asC x ≠ 3) (h2 : asC x ≠ 2) : (x.v ≠ y.v → betB x y = decide (x.v < y.v)) ∧ (x.v = y.v → betB x y = decide (x.t < y.t)) := by
  have e1 : key1 x = x.v := by unfold key1; rw [if_neg h3, if_neg h2]
  have e2 : key1 y = y.v := by unfold key1; rw [if_neg (by omega), if_neg (by omega)]
  have e3 : key2 x = x.t := by unfold key2; rw [if_neg h3, if_neg h2]
  have e4 : key2 y = y.t := by unfold key2; rw [if_neg (by omega), if_neg (by omega)]
  exact ⟨fun h => betB_of (by unfold Better; omega), fun h => betB_of (by unfold Better; omega)⟩
set_option maxHeartbeats 1000000 in
theorem sbetter_ok (w : World) (F : Nat → Prop) (p : Nat) (s : SR) (g off : Nat) (a : Option Addr) (c : Nat) (G : Option Nat) (h : RA w F p s g off a c G) (i j : Nat) (x y : ST) (hx : s.ts[i]? = some x) (hy : s.ts[j]? = some y) :
    Calls Tryz.prog 287 #[.pointer (some ⟨g, off + i * 15, none⟩), .pointer (some ⟨g, off + j * 15, none⟩)] w fun e w' => e = .returned (.bool (betB x y)) ∧ ∃ q, w' = w.drewN q := by
  have AX := hid (fun q => sas_ok (w.drewN q) F p s g off a c G (h.drewN q) i x hx)
  have AY := hid (fun q => sas_ok (w.drewN q) F p s g off a c G (h.drewN q) j y hy)
  have x0 := h.cell hx 0 (by omega)
  have x8 := h.cell hx 8 (by omega)
  have x9 := h.cell hx 9 (by omega)
  have x10 := h.cell hx 10 (by omega)
  have y0 := h.cell hy 0 (by omega)
  have y8 := h.cell hy 8 (by omega)
  have y9 := h.cell hy 9 (by omega)
  have y10 := h.cell hy 10 (by omega)
  simp only [stCells, List.getElem?_cons_succ, List.getElem?_cons_zero, Nat.add_zero] at x0 x8 x9 x10 y0 y8 y9 y10
  have E1 := hid (@bet_ne x y)
  have E3 := hid (@bet_dead x y)
  have E2 := hid (@bet_prio x y)
  have E0 := hid (@bet_fair x y)
  clear h hx hy
  generalize asC x = A at AX E1 E2 E3 E0
  generalize asC y = B at AY E1 E2 E3 E0
  generalize asV x = V at AX E2
  generalize asV y = W at AY E2
  generalize betB x y = R at E1 E2 E3 E0 ⊢
  go_enter Tryz.func287, Tryz.ntmps287
  go_wp2_with fail
  refine (AX.out 0).mono ?_
  rintro e w1 ⟨rfl, q1, rfl⟩
  go_wp2_with fail
  refine (AY.out _).mono ?_
  rintro e w1 ⟨rfl, q2, rfl⟩
  clear AX AY
  by_cases hab : A = B
  · have hb : (A != B) = false := by rw [bne_eq_false_iff_eq]; exact hab
    by_cases h3 : A = 3
    · have hb3 : (A == 3) = true := by rw [beq_iff_eq]; exact h3
      have E := E3.out h3 (by omega)
      clear E0 E1 E2 E3 hab h3
      by_cases hd : x.du = y.du
      · have hbd : (x.du != y.du) = false := by rw [bne_eq_false_iff_eq]; exact hd
        have E' := hid (E.2 hd)
        clear hd E
        go_wp2
        go_quiet (fail)
        go_wp2
        go_quiet (fail)
        go_wp2
        go_ret
        exact ⟨ret_bool E'.out.symm, by (try simp only [World.drewN_drewN]); exact ⟨_, rfl⟩⟩
      · have hbd : (x.du != y.du) = true := by rw [bne_iff_ne]; exact hd
        have E' := hid (E.1 hd)
        clear hd E
        go_wp2
        go_quiet (fail)
        go_wp2
        go_quiet (fail)
        go_wp2
        go_ret
        exact ⟨ret_bool E'.out.symm, by (try simp only [World.drewN_drewN]); exact ⟨_, rfl⟩⟩
    · have hb3 : (A == 3) = false := by rw [beq_eq_false_iff_ne]; exact h3
      by_cases h2 : A = 2
      · have hb2 : (A == 2) = true := by rw [beq_iff_eq]; exact h2
        have E := E2.out h2 (by omega)
        clear E0 E1 E2 E3 hab h3 h2
        by_cases hd : V = W
        · have hbd : (V != W) = false := by rw [bne_eq_false_iff_eq]; exact hd
          have E' := hid (E.2 hd)
          clear hd E
          go_wp2
          go_quiet (fail)
          go_wp2
          go_ret
          exact ⟨ret_bool E'.out.symm, by (try simp only [World.drewN_drewN]); exact ⟨_, rfl⟩⟩
        · have hbd : (V != W) = true := by rw [bne_iff_ne]; exact hd
          have E' := hid (E.1 hd)
          clear hd E
          go_wp2
          go_ret
          exact ⟨ret_bool E'.out.symm, by (try simp only [World.drewN_drewN]); exact ⟨_, rfl⟩⟩
      · have hb2 : (A == 2) = false := by rw [beq_eq_false_iff_ne]; exact h2
        have E := E0.out hab h3 h2
        clear E0 E1 E2 E3 hab h3 h2
        by_cases hd : x.v = y.v
        · have hbd : (x.v != y.v) = false := by rw [bne_eq_false_iff_eq]; exact hd
          have E' := hid (E.2 hd)
          clear hd E
          go_wp2
          go_quiet (fail)
          go_wp2
          go_quiet (fail)
          go_wp2
          go_ret
          exact ⟨ret_bool E'.out.symm, by (try simp only [World.drewN_drewN]); exact ⟨_, rfl⟩⟩
        · have hbd : (x.v != y.v) = true := by rw [bne_iff_ne]; exact hd
          have E' := hid (E.1 hd)
          clear hd E
          go_wp2
          go_quiet (fail)
          go_wp2
          go_quiet (fail)
          go_wp2
          go_ret
          exact ⟨ret_bool E'.out.symm, by (try simp only [World.drewN_drewN]); exact ⟨_, rfl⟩⟩
  · have hb : (A != B) = true := by rw [bne_iff_ne]; exact hab
    have E' := hid (E1.out hab)
    clear E0 E1 E2 E3 hab
    go_wp2
    go_ret
    exact ⟨ret_bool E'.out.symm, by (try simp only [World.drewN_drewN]); exact ⟨_, rfl⟩⟩
/-- The bit of a mask, as the program asks for it. -/
theorem mask_bit (m k : Nat) (hm : m < 16) (hk : k < 4) : (bits .and .i64 ((m : Int) / 2 ^ k) 1 == 1) = m.testBit k := by
  have : ∀ (m : Fin 16) (k : Fin 4), (bits .and .i64 ((m.val : Int) / 2 ^ k.val) 1 == 1) = m.val.testBit k.val := by decide +kernel
  exact this ⟨m, hm⟩ ⟨k, hk⟩
end Go.Proofs.YtdcbagmgflcemaaGreatDoor
namespace Go.Proofs.YtdcbagmgflcemaaGreatDoor
open Go.ChangeShapes Go.WideShapes Go.ChangeAt Go.RowKit
set_option linter.unusedVariables false
set_option maxHeartbeats 1000000 in
theorem sbest_ok (w : World) (F : Nat → Prop) (p : Nat) (s : SR) (g off : Nat) (a : Option Addr) (c : Nat) (G : Option Nat) (h : RA w F p s g off a c G) (hl : s.ts.length ≤ 1000) (hp : ∀ x ∈ s.ts, x.pin < 16) (cpu : Nat) (hcpu : cpu < 4) :
    Calls Tryz.prog 219 #[.pointer (some ⟨p, 0, none⟩), .int .i64 cpu] w fun e w' => e = .returned (elV g off (bestI s.ts cpu)) ∧ ∃ q, w' = w.drewN q := by
  have c3 := h.c3
  have H := hid h
  have HP := hid hp
  clear h hp
  go_enter Tryz.func219, Tryz.ntmps219
  go_wp2
  go_loopw [5, 13] (fun s5 s13 wr => ∃ k : Nat, k ≤ s.ts.length ∧ s13 = .int .i64 k ∧ s5 = elV g off (bestK s.ts cpu k) ∧ Hid (∃ q, wr = w.drewN q)) (fun _ s13 _ => s.ts.length - (intOf s13).toNat)
  case atStart => exact ⟨0, by omega, rfl, rfl, 0, rfl⟩
  case round =>
    obtain ⟨k, hk, rfl, rfl, hW⟩ := hrel
    by_cases hlt : k < s.ts.length
    · have hx := List.getElem?_eq_getElem hlt
      generalize s.ts[k] = x at hx
      have HR : Hid (RA wr F p s g off a c G) := hid (by obtain ⟨q, rfl⟩ := hW.out; exact H.out.drewN q)
      obtain ⟨rfl, rfl⟩ := H.out.eq hx
      have c3 := HR.out.c3
      have x11 := HR.out.cell hx 11 (by omega)
      simp only [stCells, List.getElem?_cons_succ, List.getElem?_cons_zero] at x11
      have WT := hid (swaits_ok wr F p s g off _ c _ HR.out k x hx)
      have MB := hid (mask_bit x.pin cpu (HP.out x (List.mem_of_getElem? hx)) hcpu)
      have BK := hid (@bestK_at s.ts cpu k x hx)
      have hx' := hid hx
      clear hx
      obtain ⟨b, hb⟩ : ∃ b, b = bestK s.ts cpu k := ⟨_, rfl⟩
      rw [← hb] at BK ⊢
      have HB := hid hb
      clear hb
      cases hwt : waitB x with
      | false =>
        rw [hwt] at WT BK
        have BK' : Hid (bestK s.ts cpu (k + 1) = b) := hid (by rw [BK.out]; simp)
        clear hwt BK
        go_wp2_with fail
        refine WT.out.mono ?_
        rintro e w1 ⟨rfl, hw⟩
        subst hw
        go_wp2
        go_roundw
        case rel => exact ⟨k + 1, by omega, by go_num, by rw [BK'.out], hW⟩
        case measure => simp [intOf]; omega
      | true =>
        rw [hwt] at WT BK
        clear hwt
        cases hpb : pinB x cpu with
        | false =>
          have BK' : Hid (bestK s.ts cpu (k + 1) = b) := hid (by rw [BK.out, hpb]; simp)
          have MB' : (bits .and .i64 ((x.pin : Int) / 2 ^ cpu) 1 == 1) = false := by rw [MB.out]; exact hpb
          clear BK MB hpb
          go_wp2_with fail
          refine WT.out.mono ?_
          rintro e w1 ⟨rfl, hw⟩
          subst hw
          go_wp2
          go_roundw
          case rel => exact ⟨k + 1, by omega, by go_num, by rw [BK'.out], hW⟩
          case measure => simp [intOf]; omega
        | true =>
          have MB' : (bits .and .i64 ((x.pin : Int) / 2 ^ cpu) 1 == 1) = true := by rw [MB.out]; exact hpb
          rw [hpb] at BK
          clear MB hpb
          cases b with
          | none =>
            have BK' : Hid (bestK s.ts cpu (k + 1) = some k) := hid (by rw [BK.out]; first | done | rfl)
            clear BK
            unfold elV
            go_wp2_with fail
            refine WT.out.mono ?_
            rintro e w1 ⟨rfl, hw⟩
            subst hw
            go_wp2
            go_roundw
            case rel => exact ⟨k + 1, by omega, by go_num, by rw [BK'.out]; first | done | rfl, hW⟩
            case measure => simp [intOf]; omega
          | some j =>
            obtain ⟨_, y, hy, _⟩ := bestK_lt HB.out.symm
            have BT := hid (sbetter_ok wr F p s g off _ c _ HR.out k j x y hx'.out hy)
            have BK2 : Hid (bestK s.ts cpu (k + 1) = if betB x y = true then some k else some j) := hid (by
              rw [BK.out]
              have h3 : takB s.ts (some j) x = betB x y := by show (match s.ts[j]? with | none => true | some y => betB x y) = _; rw [hy]
              rw [h3]
              rfl)
            clear BK hy
            unfold elV
            go_wp2_with fail
            refine WT.out.mono ?_
            rintro e w1 ⟨rfl, hw⟩
            subst hw
            go_wp2_with fail
            refine BT.out.mono ?_
            rintro e w2 ⟨rfl, q, rfl⟩
            have hW3 : Hid (∃ r, w1.drewN q = w.drewN r) := hid (by obtain ⟨q0, rfl⟩ := hW.out; exact ⟨_, World.drewN_drewN _ _ _⟩)
            cases hbt : betB x y with
            | true =>
              rw [hbt] at BK2
              clear hbt BT
              go_wp2
              go_roundw
              case rel => exact ⟨k + 1, by omega, by go_num, by rw [BK2.out]; first | done | rfl, hW3⟩
              case measure => simp [intOf]; omega
            | false =>
              rw [hbt] at BK2
              clear hbt BT
              go_wp2
              go_roundw
              case rel => exact ⟨k + 1, by omega, by go_num, by rw [BK2.out]; first | done | rfl, hW3⟩
              case measure => simp [intOf]; omega
    · obtain rfl : k = s.ts.length := by omega
      go_wp2
      go_ret
      exact ⟨rfl, hW.out⟩
/-- What low tells. -/
def lowV : Option Int → Value
  | none => .int .i64 0
  | some m => .int .i64 m
set_option maxHeartbeats 1000000 in
theorem slow_ok (w : World) (F : Nat → Prop) (p : Nat) (s : SR) (g off : Nat) (a : Option Addr) (c : Nat) (G : Option Nat) (h : RA w F p s g off a c G) (hl : s.ts.length ≤ 1000) :
    Calls Tryz.prog 140 #[.pointer (some ⟨p, 0, none⟩)] w fun e w' => e = .returned (.tuple #[lowV (lowI s.ts), .bool (lowI s.ts).isSome]) ∧ Chg Nil w w' := by
  have c3 := h.c3
  have H := hid h
  clear h
  go_enter Tryz.func140, Tryz.ntmps140
  go_wp2
  go_loopw [4, 5, 13] (fun s4 s5 s13 wr => ∃ k : Nat, k ≤ s.ts.length ∧ s13 = .int .i64 k ∧ s4 = lowV (lowK s.ts k) ∧ s5 = .bool (lowK s.ts k).isSome ∧ Hid (Chg Nil w wr)) (fun _ _ s13 _ => s.ts.length - (intOf s13).toNat)
  case atStart => exact ⟨0, by omega, rfl, rfl, rfl, Chg.refl _ _⟩
  case round =>
    obtain ⟨k, hk, rfl, rfl, rfl, hC⟩ := hrel
    by_cases hlt : k < s.ts.length
    · have hx := List.getElem?_eq_getElem hlt
      generalize s.ts[k] = x at hx
      have HR : Hid (RA wr F p s g off a c G) := hid (H.out.nil hC.out)
      obtain ⟨rfl, rfl⟩ := H.out.eq hx
      have hgl : g < wr.heap.size := by have := HR.out.lt g (HR.out.fg g rfl); exact this
      have x0 := HR.out.cell hx 0 (by omega)
      have x1 := HR.out.cell hx 1 (by omega)
      have x2 := HR.out.cell hx 2 (by omega)
      have x3 := HR.out.cell hx 3 (by omega)
      have x4 := HR.out.cell hx 4 (by omega)
      have x5 := HR.out.cell hx 5 (by omega)
      have x6 := HR.out.cell hx 6 (by omega)
      have x7 := HR.out.cell hx 7 (by omega)
      have x8 := HR.out.cell hx 8 (by omega)
      have x9 := HR.out.cell hx 9 (by omega)
      have x10 := HR.out.cell hx 10 (by omega)
      have x11 := HR.out.cell hx 11 (by omega)
      have x12 := HR.out.cell hx 12 (by omega)
      have x13 := HR.out.cell hx 13 (by omega)
      have x14 := HR.out.cell hx 14 (by omega)
      simp only [stCells, List.getElem?_cons_succ, List.getElem?_cons_zero, Nat.add_zero] at x0 x1 x2 x3 x4 x5 x6 x7 x8 x9 x10 x11 x12 x13 x14
      have LK := hid (@lowK_at s.ts k x hx)
      clear hx
      obtain ⟨o, ho⟩ : ∃ o, o = lowK s.ts k := ⟨_, rfl⟩
      rw [← ho] at LK ⊢
      clear ho
      by_cases hcl : x.cl = 1
      · have hb : (x.cl == 1) = true := by rw [beq_iff_eq]; exact hcl
        cases hr : x.r with
        | false =>
          rw [hr] at x12 LK
          have LK' : Hid (lowK s.ts (k + 1) = o) := hid (by rw [LK.out]; simp)
          replace hcl := hid hcl
          clear hr LK
          go_wp2
          go_roundw
          case rel => exact ⟨k + 1, by omega, by go_num, by rw [LK'.out], by rw [LK'.out], hC.out.alloc _⟩
          case measure => simp [intOf]; omega
        | true =>
          rw [hr] at x12 LK
          clear hr
          cases o with
          | none =>
            have LK' : Hid (lowK s.ts (k + 1) = some x.v) := hid (by rw [LK.out]; simp [hcl, lowB])
            replace hcl := hid hcl
            clear LK
            simp only [Option.isSome_none]
            go_wp2
            go_roundw
            case rel => exact ⟨k + 1, by omega, by go_num, by rw [LK'.out]; first | done | rfl, by rw [LK'.out]; first | done | rfl, hC.out.alloc _⟩
            case measure => simp [intOf]; omega
          | some m =>
            simp only [Option.isSome_some, lowV]
            by_cases hvm : x.v < m
            · have LK' : Hid (lowK s.ts (k + 1) = some x.v) := hid (by rw [LK.out]; simp [hcl, lowB, hvm])
              replace hcl := hid hcl
              clear LK
              go_wp2
              go_roundw
              case rel => exact ⟨k + 1, by omega, by go_num, by rw [LK'.out]; first | done | rfl, by rw [LK'.out]; first | done | rfl, hC.out.alloc _⟩
              case measure => simp [intOf]; omega
            · have LK' : Hid (lowK s.ts (k + 1) = some m) := hid (by rw [LK.out]; simp [lowB, hvm])
              replace hcl := hid hcl
              clear LK
              go_wp2
              go_roundw
              case rel => exact ⟨k + 1, by omega, by go_num, by rw [LK'.out]; first | done | rfl, by rw [LK'.out]; first | done | rfl, hC.out.alloc _⟩
              case measure => simp [intOf]; omega
      · have hb : (x.cl == 1) = false := by rw [beq_eq_false_iff_ne]; exact hcl
        have LK' : Hid (lowK s.ts (k + 1) = o) := hid (by rw [LK.out]; simp [hcl])
        replace hcl := hid hcl
        clear LK
        go_wp2
        go_roundw
        case rel => exact ⟨k + 1, by omega, by go_num, by rw [LK'.out], by rw [LK'.out], hC.out.alloc _⟩
        case measure => simp [intOf]; omega
    · obtain rfl : k = s.ts.length := by omega
      go_wp2
      go_ret2
      exact ⟨rfl, hC.out⟩
/-- May a class have this value? -/
def valB (cl v : Int) : Bool := if cl = 1 then decide (1 ≤ v ∧ v ≤ 100) else if cl = 2 then decide (0 ≤ v ∧ v < 8) else false
theorem svalue_ok (w : World) (cl v : Int) : Calls Tryz.prog 66 #[.int .i64 cl, .int .i64 v] w fun e w' => e = .returned (.bool (valB cl v)) ∧ w = w' := by
  by_cases h1 : cl = 1
  · subst h1
    have e : valB 1 v = decide (1 ≤ v ∧ v ≤ 100) := rfl
    rw [e]
    by_cases ha : 1 ≤ v
    · by_cases hb : v ≤ 100
      · have hE : Hid (decide (1 ≤ v ∧ v ≤ 100) = true) := hid (by simp [ha, hb])
        rw [hE.out]
        clear e
        go_enter Tryz.func66, Tryz.ntmps66
        go_wp2
        go_ret
        exact ⟨by simp, rfl⟩
      · have hE : Hid (decide (1 ≤ v ∧ v ≤ 100) = false) := hid (by simp [hb])
        rw [hE.out]
        clear e
        go_enter Tryz.func66, Tryz.ntmps66
        go_wp2
        go_ret
        exact ⟨by simp, rfl⟩
    · have hE : Hid (decide (1 ≤ v ∧ v ≤ 100) = false) := hid (by simp [ha])
      rw [hE.out]
      clear e
      go_enter Tryz.func66, Tryz.ntmps66
      go_wp2
      go_ret
      exact ⟨by simp, rfl⟩
  · have hb1 : (cl == 1) = false := by rw [beq_eq_false_iff_ne]; exact h1
    by_cases h2 : cl = 2
    · subst h2
      have e : valB 2 v = decide (0 ≤ v ∧ v < 8) := rfl
      rw [e]
      clear hb1 h1 e
      by_cases ha : 0 ≤ v
      · by_cases hb : v < 8
        · have hE : Hid (decide (0 ≤ v ∧ v < 8) = true) := hid (by simp [ha, hb])
          rw [hE.out]
          go_enter Tryz.func66, Tryz.ntmps66
          go_wp2
          go_ret
          exact ⟨by simp, rfl⟩
        · have hE : Hid (decide (0 ≤ v ∧ v < 8) = false) := hid (by simp [hb])
          rw [hE.out]
          go_enter Tryz.func66, Tryz.ntmps66
          go_wp2
          go_ret
          exact ⟨by simp, rfl⟩
      · have hE : Hid (decide (0 ≤ v ∧ v < 8) = false) := hid (by simp [ha])
        rw [hE.out]
        go_enter Tryz.func66, Tryz.ntmps66
        go_wp2
        go_ret
        exact ⟨by simp, rfl⟩
    · have hb2 : (cl == 2) = false := by rw [beq_eq_false_iff_ne]; exact h2
      have e : valB cl v = false := by unfold valB; rw [if_neg h1, if_neg h2]
      rw [e]
      clear e h1 h2
      go_enter Tryz.func66, Tryz.ntmps66
      go_wp2
      go_ret
      exact ⟨by simp, rfl⟩
end Go.Proofs.YtdcbagmgflcemaaGreatDoor
namespace Go.Proofs.YtdcbagmgflcemaaGreatDoor
open Go.ChangeShapes Go.WideShapes Go.ChangeAt Go.RowKit
set_option linter.unusedVariables false
section
variable {w w' : World} {F H : Nat → Prop} {p : Nat} {s : SR} {g off : Nat} {a : Option Addr} {c : Nat} {G : Option Nat}
theorem RA.put (h : RA w F p s g off a c G) {i j : Nat} {x y : ST} {u : Value} (hx : s.ts[i]? = some x) (hj : j < 15) (hy : (stCells x).set j u = stCells y) :
    RA (w.setCell ⟨g, off + i * 15 + j, none⟩ u) F p { s with ts := s.ts.set i y } g off a c G := by
  have hi : i < s.ts.length := (List.getElem?_eq_some_iff.1 hx).1
  obtain ⟨rfl, rfl⟩ := h.eq hx
  have hne : p ≠ g := fun he => h.ne (by rw [he])
  have hlt : i * 15 + j < s.ts.length * 15 := by omega
  refine ⟨?_, ?_, fun _ => ⟨rfl, rfl⟩, h.fp, h.fg, fun k hk => by simpa [World.setCell] using h.lt k hk⟩
  · show Blk _ p _ [.int .i64 s.n, .int .i64 s.tk, .int .i64 s.st, .slice (some ⟨g, off, none⟩) (s.ts.set i y).length c]
    rw [List.length_set]; exact h.blk.far (p := ⟨g, _, none⟩) hne u
  · have := h.sl.putn hlt u
    rw [flat_set stCells 15 st_len s.ts i j x y u hx hj hy] at this
    show Sl _ _ 15 _ (s.ts.set i y).length c _ _
    rw [List.length_set, Nat.add_assoc]
    exact this
theorem RA.stamp (h : RA w F p s g off a c G) (v : Int) : RA (w.setCell ⟨p, 2, none⟩ (.int .i64 v)) F p { s with st := v } g off a c G :=
  ⟨h.blk.set 2 _, h.sl.set_far (p := ⟨p, 2, none⟩) h.ne _, h.ha, h.fp, h.fg, fun k hk => by simpa [World.setCell] using h.lt k hk⟩
theorem RA.ticks (h : RA w F p s g off a c G) (v : Int) : RA (w.setCell ⟨p, 1, none⟩ (.int .i64 v)) F p { s with tk := v } g off a c G :=
  ⟨h.blk.set 1 _, h.sl.set_far (p := ⟨p, 1, none⟩) h.ne _, h.ha, h.fp, h.fg, fun k hk => by simpa [World.setCell] using h.lt k hk⟩
theorem RA.gF (h : RA w F p s g off a c G) {i : Nat} {x : ST} (hx : s.ts[i]? = some x) : F g := h.fg g (h.eq hx).2
theorem set_get {α : Type} {l : List α} {i : Nat} {x y : α} (h : l[i]? = some x) : (l.set i y)[i]? = some y := List.getElem?_set_self (List.getElem?_eq_some_iff.1 h).1
theorem set_set {α : Type} (l : List α) (i : Nat) (x y : α) : (l.set i x).set i y = l.set i y := List.set_set x
end
theorem swait_ok (w : World) (F : Nat → Prop) (p : Nat) (s : SR) (g off : Nat) (a : Option Addr) (c : Nat) (G : Option Nat) (h : RA w F p s g off a c G) (i : Nat) (x : ST) (hx : s.ts[i]? = some x) (h1 : 0 ≤ s.st) (h2 : s.st ≤ 1073741824) :
    Calls Tryz.prog 141 #[.pointer (some ⟨p, 0, none⟩), .pointer (some ⟨g, off + i * 15, none⟩)] w fun e w' => e = .returned (.tuple #[]) ∧ RA w' F p (s.wait i) g off a c G ∧ Chg F w w' := by
  have f0 := h.free (by have := (List.getElem?_eq_some_iff.1 hx).1; omega) (off + i * 15 + 14)
  have D1 := h.put (y := { x with cpu := -1 }) (u := .int .i64 (-1)) hx (j := 14) (by omega) rfl
  have c2 := D1.c2
  have f2 := D1.fr 2
  have D2 := D1.stamp (s.st + 1)
  have c2' := D2.c2
  have f3 := D2.free (by show 0 < (s.ts.set i _).length; rw [List.length_set]; have := (List.getElem?_eq_some_iff.1 hx).1; omega) (off + i * 15 + 10)
  have D3 := D2.put (i := i) (x := { x with cpu := -1 }) (y := { x with cpu := -1, si := s.st + 1 }) (u := .int .i64 (s.st + 1)) (set_get hx) (j := 10) (by omega) rfl
  have E : Hid (RA (((w.setCell ⟨g, off + i * 15 + 14, none⟩ (.int .i64 (-1))).setCell ⟨p, 2, none⟩ (.int .i64 (s.st + 1))).setCell ⟨g, off + i * 15 + 10, none⟩ (.int .i64 (s.st + 1))) F p (s.wait i) g off a c G) := hid (by
    have e : ({ s with st := s.st + 1, ts := (s.ts.set i { x with cpu := -1 }).set i { x with cpu := -1, si := s.st + 1 } } : SR) = s.wait i := by
      unfold SR.wait
      rw [upd_of hx, set_set]
    rw [← e]
    exact D3)
  have C : Hid (Chg F w (((w.setCell ⟨g, off + i * 15 + 14, none⟩ (.int .i64 (-1))).setCell ⟨p, 2, none⟩ (.int .i64 (s.st + 1))).setCell ⟨g, off + i * 15 + 10, none⟩ (.int .i64 (s.st + 1)))) :=
    hid ((((Chg.refl F w).setCell (p := ⟨g, off + i * 15 + 14, none⟩) (.inl (h.gF hx)) _).setCell (p := ⟨p, 2, none⟩) (.inl h.fp) _).setCell (p := ⟨g, off + i * 15 + 10, none⟩) (.inl (h.gF hx)) _)
  have hne : p ≠ g := fun he => h.ne (by rw [(h.eq hx).2, he])
  have c20 := h.c2
  have x14 := h.cell hx 14 (by omega)
  have x10 := D2.cell (i := i) (x := { x with cpu := -1 }) (set_get hx) 10 (by omega)
  simp only [stCells, List.getElem?_cons_succ, List.getElem?_cons_zero] at x14 x10
  have hne' : (p = g) = False := eq_false hne
  have hne2 : (g = p) = False := eq_false (fun h => hne h.symm)
  clear h hx D1 D2 D3
  go_enter Tryz.func141, Tryz.ntmps141
  go_wp2
  go_end0
  exact ⟨rfl, E.out, C.out⟩
/-- A run on the way through fill. -/
def FilS (F : Nat → Prop) (p : Nat) (s : SR) (g off : Nat) (a : Option Addr) (c : Nat) (G : Option Nat) (w0 : World) (k : Nat) (w : World) : Prop := RA w F p { s with ts := fillK s.ts k } g off a c G ∧ Chg F w0 w
theorem fillK_on {ts : List ST} {k : Nat} (j : Nat) (h : onI (fillK ts k) k = some j) : fillK ts (k + 1) = fillK ts k := by
  show (match onI (fillK ts k) k with | some _ => _ | none => _) = _
  rw [h]
theorem fillK_no {ts : List ST} {k : Nat} (h : onI (fillK ts k) k = none) (hb : bestI (fillK ts k) k = none) : fillK ts (k + 1) = fillK ts k := by
  show (match onI (fillK ts k) k with | some _ => _ | none => _) = _
  rw [h]
  show (match bestI (fillK ts k) k with | none => _ | some _ => _) = _
  rw [hb]
theorem fillK_to {ts : List ST} {k : Nat} (i : Nat) (h : onI (fillK ts k) k = none) (hb : bestI (fillK ts k) k = some i) : fillK ts (k + 1) = upd (fillK ts k) i (fun x => { x with cpu := k }) := by
  show (match onI (fillK ts k) k with | some _ => _ | none => _) = _
  rw [h]
  show (match bestI (fillK ts k) k with | none => _ | some _ => _) = _
  rw [hb]
set_option maxHeartbeats 1000000 in
theorem sfill_ok (w : World) (F : Nat → Prop) (p : Nat) (s : SR) (g off : Nat) (a : Option Addr) (c : Nat) (G : Option Nat) (h : RA w F p s g off a c G) (m : Int) (hok : SOk m s) :
    Calls Tryz.prog 142 #[.pointer (some ⟨p, 0, none⟩)] w fun e w' => e = .returned (.tuple #[]) ∧ RA w' F p s.fill g off a c G ∧ Chg F w w' := by
  have c0 := h.c0
  have n4 := hok.n2
  have OK := hid hok
  have I0 : Hid (FilS F p s g off a c G w 0 w) := hid ⟨h, Chg.refl _ _⟩
  clear h hok
  go_enter Tryz.func142, Tryz.ntmps142
  go_wp2
  go_loopw [8] (fun s8 wr => ∃ k : Nat, k ≤ s.n ∧ s8 = .int .i64 k ∧ Hid (FilS F p s g off a c G w k wr)) (fun s8 _ => s.n - (intOf s8).toNat)
  case atStart => exact ⟨0, by omega, rfl, I0⟩
  case round =>
    obtain ⟨k, hk, rfl, hJ⟩ := hrel
    clear I0
    by_cases hlt : k < s.n
    · obtain ⟨j1, j2⟩ := id hJ.out
      have hl : (fillK s.ts k).length ≤ 1000 := by rw [fillK_len]; exact OK.out.len
      have ON := hid (son_ok wr F p _ g off a c G j1 hl k)
      have hpin : ∀ x ∈ fillK s.ts k, x.pin < 16 := fun x hx => (fillK_ok OK.out.each k (by omega) x hx).pi
      have BEST := hid (sbest_ok wr F p _ g off a c G j1 hl hpin k (by omega))
      have J1 := hid j1
      have J2 := hid j2
      have F1 := hid (@fillK_on s.ts k)
      have F2 := hid (@fillK_no s.ts k)
      have F3 := hid (@fillK_to s.ts k)
      clear j1 j2 hl hpin hJ
      change Hid (Calls _ _ _ _ fun e w' => e = .returned (elV g off (onI (fillK s.ts k) k)) ∧ wr = w') at ON
      change Hid (Calls _ _ _ _ fun e w' => e = .returned (elV g off (bestI (fillK s.ts k) k)) ∧ ∃ q, w' = wr.drewN q) at BEST
      cases hon : onI (fillK s.ts k) k with
      | some j =>
        rw [hon] at ON
        have E := hid (F1.out _ hon)
        have HZ : Hid (FilS F p s g off a c G w (k + 1) wr) := hid (by unfold FilS; rw [E.out]; exact ⟨J1.out, J2.out⟩)
        unfold elV at ON
        clear hon F1 F2 F3 BEST
        go_wp2_with fail
        refine ON.out.mono ?_
        rintro e w1 ⟨rfl, hw⟩
        subst hw
        go_wp2
        go_roundw
        case rel => exact ⟨k + 1, by omega, by go_num, HZ⟩
        case measure => simp [intOf]; omega
      | none =>
        rw [hon] at ON
        unfold elV at ON
        cases hb : bestI (fillK s.ts k) k with
        | none =>
          rw [hb] at BEST
          have E := hid (F2.out hon hb)
          have HZ : Hid (∀ q, FilS F p s g off a c G w (k + 1) (wr.drewN q)) := hid (fun q => by unfold FilS; rw [E.out]; exact ⟨J1.out.drewN q, J2.out.drewN q⟩)
          unfold elV at BEST
          clear hon hb F1 F2 F3
          go_wp2_with fail
          refine ON.out.mono ?_
          rintro e w1 ⟨rfl, hw⟩
          subst hw
          go_wp2_with fail
          refine BEST.out.mono ?_
          rintro e w2 ⟨rfl, q, rfl⟩
          go_wp2
          go_roundw
          case rel => exact ⟨k + 1, by omega, by go_num, HZ.out q⟩
          case measure => simp [intOf]; omega
        | some i =>
          rw [hb] at BEST
          obtain ⟨_, x, hx, _⟩ := bestK_lt hb
          have E := hid (F3.out _ hon hb)
          have HZ : Hid (∀ q, FilS F p s g off a c G w (k + 1) ((wr.drewN q).setCell ⟨g, off + i * 15 + 14, none⟩ (.int .i64 k))) := hid (fun q => by
            unfold FilS
            rw [E.out, upd_of hx]
            exact ⟨(J1.out.drewN q).put (y := { x with cpu := k }) hx (j := 14) (by omega) rfl, (J2.out.drewN q).setCell (p := ⟨g, off + i * 15 + 14, none⟩) (.inl (J1.out.gF (i := i) (x := x) hx)) _⟩)
          have X14 : Hid (∀ q, (wr.drewN q).cell? ⟨g, off + i * 15 + 14, none⟩ = some (.int .i64 x.cpu)) := hid (fun q => (J1.out.drewN q).cell (i := i) (x := x) hx 14 (by omega))
          have FR : Hid (∀ q, (wr.drewN q).frozen? ⟨g, off + i * 15 + 14, none⟩ = false) := hid (fun q => (J1.out.drewN q).free (by have := (List.getElem?_eq_some_iff.1 hx).1; show 0 < (fillK s.ts k).length; omega) _)
          unfold elV at BEST
          clear hon hb hx F1 F2 F3
          go_wp2_with fail
          refine ON.out.mono ?_
          rintro e w1 ⟨rfl, hw⟩
          subst hw
          go_wp2_with fail
          refine BEST.out.mono ?_
          rintro e w2 ⟨rfl, q, rfl⟩
          have x14 := X14.out q
          have fr := FR.out q
          go_wp2
          go_roundw
          case rel => exact ⟨k + 1, by omega, by go_num, HZ.out q⟩
          case measure => simp [intOf]; omega
    · obtain rfl : k = s.n := by omega
      go_wp2
      go_end0
      exact ⟨rfl, hJ.out.1, hJ.out.2⟩
end Go.Proofs.YtdcbagmgflcemaaGreatDoor
namespace Go.Proofs.YtdcbagmgflcemaaGreatDoor
open Go.ChangeShapes Go.WideShapes Go.ChangeAt Go.RowKit
set_option linter.unusedVariables false
/-- What a call makes of a run, and what it answers. -/
def PS (F : Nat → Prop) (p : Nat) (s' : SR) (r : Int) (w : World) (e : Ending) (w' : World) : Prop := e = .returned (.int .i64 r) ∧ ∃ F', RunAt w' F' p s' ∧ Chg F w w' ∧ Grew w.heap.size F F'
theorem ps_same {w w' : World} {F : Nat → Prop} {p : Nat} {s : SR} {r : Int} (h : RunAt w F p s) (q : Nat) : PS F p s r w (.returned (.int .i64 r)) (w.drewN q) := ⟨rfl, F, h.drewN q, (Chg.refl _ _).drewN q, Grew.refl _ _⟩
theorem fnd_get {s : SR} {t : Int} {i : Nat} (h : fndI s.ts t = some i) : ∃ x, s.ts[i]? = some x ∧ x.t = t := by
  obtain ⟨x, h1, h2, _⟩ := idx_get h
  exact ⟨x, h1, of_decide_eq_true h2⟩
theorem snew_ok (w : World) (n : Nat) (h1 : 1 ≤ n) (h4 : n ≤ 4) : Calls Tryz.prog 31 #[.int .i64 n] w fun e w' => ∃ F p, e = .returned (.tuple #[.pointer (some ⟨p, 0, none⟩), .int .i64 0]) ∧ RunAt w' F p ⟨n, 0, 0, []⟩ ∧ Chg Nil w w' ∧ Grew w.heap.size Nil F := by
  go_enter Tryz.func31, Tryz.ntmps31
  go_wp2
  go_ret2
  refine ⟨One w.heap.size, _, rfl, ⟨0, 0, none, 0, none, Blk.new w _ _, Sl.empty _ _ _ _, (fun h => absurd h (by simp)), rfl, (fun g h => by cases h), ?_⟩, (Chg.refl _ _).alloc _, ?_⟩
  · intro k hk; rw [show k = w.heap.size from hk]; simp
  · intro k hk; exact .inr (Nat.le_of_eq (show k = w.heap.size from hk).symm)
end Go.Proofs.YtdcbagmgflcemaaGreatDoor
