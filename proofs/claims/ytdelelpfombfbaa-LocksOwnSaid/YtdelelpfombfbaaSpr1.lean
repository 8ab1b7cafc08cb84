/- Contracts of package spread that only read: find, on, as, waits, better, value. Conditions: at most 1000 tasks, each as it may be. -/
import Derived.Test.YtdelelpfombfbaaSlices
import Derived.Test.YtdelelpfombfbaaMem2
import Derived.Test.YtdelelpfombfbaaSprP
import Derived.RegionTactic
import Derived.BigRegion
import Derived.Deep.RegionLaw
import Derived.Deep.RegionHeld3
import Derived.Deep.QuietTactic
import Derived.BigQuiet
import Derived.StillTailTactics
import Derived.Deep.DeepCutAuto
namespace Go.Proofs.Ytdelelpfombfbaa
open Go.ChangeShapes Go.WideShapes Go.ChangeAt Go.RowKit
set_option linter.unusedVariables false
theorem eSTask : ETy Try.prog 87 105 15 112 := ⟨Try.underlying87, info_of (z := .agg #[.int .i64 0, .int .i64 0, .int .i64 0, .int .i64 0, .int .i64 0, .int .i64 0, .int .i64 0, .int .i64 0, .int .i64 0, .int .i64 0, .int .i64 0, .int .i64 0, .bool false, .bool false, .int .i64 0]) (by kernel_rfl) rfl, by decide⟩
/-- In block p lies a run; its tasks lie from off on in block g, if there are any; its blocks are all of F. -/
structure RA (w : World) (F : Nat → Prop) (p : Nat) (s : SR) (g off : Nat) (a : Option Addr) (c : Nat) (G : Option Nat) : Prop where
  blk : Blk w p 89 [.int .i64 s.n, .int .i64 s.tk, .int .i64 s.st, .slice a s.ts.length c]
  sl : Sl w 105 15 a s.ts.length c (s.ts.flatMap stCells) G
  ha : 0 < s.ts.length → a = some ⟨g, off, none⟩ ∧ G = some g
  fp : F p
  fg : ∀ g, G = some g → F g
  lt : ∀ k, F k → k < w.heap.size
def RunAt (w : World) (F : Nat → Prop) (p : Nat) (s : SR) : Prop := ∃ g off a c G, RA w F p s g off a c G
section
variable {w w' : World} {F H : Nat → Prop} {p : Nat} {s : SR} {g off : Nat} {a : Option Addr} {c : Nat} {G : Option Nat}
theorem RA.chg (h : RA w F p s g off a c G) (hc : Chg H w w') (hd : Dj F H) : RA w' F p s g off a c G :=
  ⟨h.blk.chg hc (hd p h.fp), h.sl.chg hc (fun g hg => hd g (h.fg g hg)), h.ha, h.fp, h.fg, fun k hk => Nat.lt_of_lt_of_le (h.lt k hk) hc.size⟩
theorem RunAt.chg (h : RunAt w F p s) (hc : Chg H w w') (hd : Dj F H) : RunAt w' F p s := by
  obtain ⟨g, off, a, c, G, h⟩ := h
  exact ⟨g, off, a, c, G, h.chg hc hd⟩
theorem RunAt.lt (h : RunAt w F p s) : ∀ k, F k → k < w.heap.size := by
  obtain ⟨g, off, a, c, G, h⟩ := h
  exact h.lt
theorem RA.nil (h : RA w F p s g off a c G) (hc : Chg Nil w w') : RA w' F p s g off a c G := h.chg hc (fun _ _ h => h)
theorem RA.drewN (h : RA w F p s g off a c G) (n : Nat) : RA (w.drewN n) F p s g off a c G := h.nil ((Chg.refl Nil w).drewN n)
theorem RunAt.drewN (h : RunAt w F p s) (n : Nat) : RunAt (w.drewN n) F p s := h.chg ((Chg.refl Nil w).drewN n) (fun _ _ h => h)
theorem RA.c0 (h : RA w F p s g off a c G) : w.cell? ⟨p, 0, none⟩ = some (.int .i64 s.n) := h.blk.cell 0
theorem RA.c1 (h : RA w F p s g off a c G) : w.cell? ⟨p, 1, none⟩ = some (.int .i64 s.tk) := h.blk.cell 1
theorem RA.c2 (h : RA w F p s g off a c G) : w.cell? ⟨p, 2, none⟩ = some (.int .i64 s.st) := h.blk.cell 2
theorem RA.c3 (h : RA w F p s g off a c G) : w.cell? ⟨p, 3, none⟩ = some (.slice a s.ts.length c) := h.blk.cell 3
theorem RA.fr (h : RA w F p s g off a c G) (i : Nat) : w.frozen? ⟨p, i, none⟩ = false := h.blk.frozen i
theorem RA.ne (h : RA w F p s g off a c G) : G ≠ some p := h.sl.ne_blk h.blk (by decide)
theorem RA.eq (h : RA w F p s g off a c G) {i : Nat} {x : ST} (hx : s.ts[i]? = some x) : a = some ⟨g, off, none⟩ ∧ G = some g := h.ha (by have := (List.getElem?_eq_some_iff.1 hx).1; omega)
theorem RA.cell (h : RA w F p s g off a c G) {i : Nat} {x : ST} (hx : s.ts[i]? = some x) (j : Nat) (hj : j < 15) : w.cell? ⟨g, off + i * 15 + j, none⟩ = (stCells x)[j]? := by
  have hi : i < s.ts.length := (List.getElem?_eq_some_iff.1 hx).1
  obtain ⟨g', off', r1, r2, r3, r4⟩ := h.sl.rd.elem st_len rfl (by omega)
  obtain ⟨e1, e2⟩ := h.eq hx
  rw [e1] at r1
  injection r1 with r1
  injection r1 with r1 r1'
  subst r1; subst r1'
  rw [r4 i hi j hj, (List.getElem?_eq_some_iff.1 hx).2]
theorem RA.free (h : RA w F p s g off a c G) (h0 : 0 < s.ts.length) (k : Nat) : w.frozen? ⟨g, k, none⟩ = false := by
  obtain ⟨e1, e2⟩ := h.ha h0
  subst e1
  exact h.sl.free k h0
end
/-- A pointer to a task, if any. -/
def elV (g off : Nat) : Option Nat → Value
  | none => .pointer none
  | some j => .pointer (some ⟨g, off + j * 15, none⟩)
/-- None of the first k is such. -/
def NoU (f : ST → Bool) (ts : List ST) (k : Nat) : Prop := ∀ j y, j < k → ts[j]? = some y → f y = false
theorem noU_succ {f : ST → Bool} {ts : List ST} {k : Nat} {x : ST} (h : NoU f ts k) (hx : ts[k]? = some x) (hf : f x = false) : NoU f ts (k + 1) := by
  intro j y hj hy
  by_cases hjk : j = k
  · subst hjk; rw [hx] at hy; injection hy with hy; subst hy; exact hf
  · exact h j y (by omega) hy
theorem idx_some {f : ST → Bool} {ts : List ST} {k : Nat} {x : ST} (h : NoU f ts k) (hx : ts[k]? = some x) (hf : f x = true) : ts.findIdx? f = some k := by
  obtain ⟨h1, h2⟩ := List.getElem?_eq_some_iff.1 hx
  rw [List.findIdx?_eq_some_iff_getElem]
  refine ⟨h1, by rw [h2]; exact hf, fun j hj => ?_⟩
  rw [h j ts[j] hj (List.getElem?_eq_getElem (by omega))]
  simp
theorem idx_none {f : ST → Bool} {ts : List ST} {k : Nat} (h : NoU f ts k) (hk : ts.length ≤ k) : ts.findIdx? f = none := by
  rw [List.findIdx?_eq_none_iff]
  intro x hx
  obtain ⟨j, hj⟩ := List.mem_iff_getElem?.1 hx
  exact h j x (by have := (List.getElem?_eq_some_iff.1 hj).1; omega) hj
theorem idx_get {f : ST → Bool} {ts : List ST} {k : Nat} (h : ts.findIdx? f = some k) : ∃ x, ts[k]? = some x ∧ f x = true ∧ NoU f ts k := by
  rw [List.findIdx?_eq_some_iff_getElem] at h
  obtain ⟨h1, h2, h3⟩ := h
  refine ⟨ts[k], List.getElem?_eq_getElem h1, h2, fun j y hj hy => ?_⟩
  have := h3 j hj
  rw [(List.getElem?_eq_some_iff.1 hy).2] at this
  simpa using this
theorem idx_not {f : ST → Bool} {ts : List ST} (h : ts.findIdx? f = none) : ∀ x ∈ ts, f x = false := by
  rw [List.findIdx?_eq_none_iff] at h
  exact h
theorem sfind_ok (w : World) (F : Nat → Prop) (p : Nat) (s : SR) (g off : Nat) (a : Option Addr) (c : Nat) (G : Option Nat) (h : RA w F p s g off a c G) (hl : s.ts.length ≤ 1000) (t : Int) :
    Calls Try.prog 48 #[.pointer (some ⟨p, 0, none⟩), .int .i64 t] w fun e w' => e = .returned (elV g off (fndI s.ts t)) ∧ w = w' := by
  have c3 := h.c3
  have H := hid h
  clear h
  go_enter Try.func48, Try.ntmps48
  go_wp2
  go_loop [11] (fun s11 => ∃ k : Nat, k ≤ s.ts.length ∧ s11 = .int .i64 k ∧ Hid (NoU (fun x => decide (x.t = t)) s.ts k)) (fun s11 => s.ts.length - (intOf s11).toNat)
  case atStart => exact ⟨0, by omega, rfl, fun j y hj => absurd hj (by omega)⟩
  case round =>
    obtain ⟨k, hk, rfl, hN⟩ := hrel
    by_cases hlt : k < s.ts.length
    · have hx := List.getElem?_eq_getElem hlt
      generalize s.ts[k] = x at hx
      obtain ⟨rfl, rfl⟩ := H.out.eq hx
      have hc := H.out.cell hx 0 (by omega)
      simp only [stCells, List.getElem?_cons_zero, Nat.add_zero] at hc
      replace hx := hid hx
      by_cases he : x.t = t
      · have hb : (x.t == t) = true := by rw [beq_iff_eq]; exact he
        have HI := hid (idx_some hN.out hx.out (by simp [he]))
        replace he := hid he
        go_wp2
        go_ret
        unfold fndI
        rw [HI.out]
        exact ⟨rfl, rfl⟩
      · have hb : (x.t == t) = false := by rw [beq_eq_false_iff_ne]; exact he
        have HI := hid (noU_succ hN.out hx.out (by simp [he]))
        replace he := hid he
        go_wp2
        go_round
        case rel => exact ⟨k + 1, by omega, by go_num, HI⟩
        case measure => simp [intOf]; omega
    · have HI := hid (idx_none hN.out (by omega))
      go_wp2
      go_ret
      unfold fndI
      rw [HI.out]
      exact ⟨rfl, rfl⟩
theorem son_ok (w : World) (F : Nat → Prop) (p : Nat) (s : SR) (g off : Nat) (a : Option Addr) (c : Nat) (G : Option Nat) (h : RA w F p s g off a c G) (hl : s.ts.length ≤ 1000) (t : Int) :
    Calls Try.prog 56 #[.pointer (some ⟨p, 0, none⟩), .int .i64 t] w fun e w' => e = .returned (elV g off (onI s.ts t)) ∧ w = w' := by
  have c3 := h.c3
  have H := hid h
  clear h
  go_enter Try.func56, Try.ntmps56
  go_wp2
  go_loop [11] (fun s11 => ∃ k : Nat, k ≤ s.ts.length ∧ s11 = .int .i64 k ∧ Hid (NoU (fun x => decide (x.cpu = t)) s.ts k)) (fun s11 => s.ts.length - (intOf s11).toNat)
  case atStart => exact ⟨0, by omega, rfl, fun j y hj => absurd hj (by omega)⟩
  case round =>
    obtain ⟨k, hk, rfl, hN⟩ := hrel
    by_cases hlt : k < s.ts.length
    · have hx := List.getElem?_eq_getElem hlt
      generalize s.ts[k] = x at hx
      obtain ⟨rfl, rfl⟩ := H.out.eq hx
      have hc := H.out.cell hx 14 (by omega)
      simp only [stCells, List.getElem?_cons_succ, List.getElem?_cons_zero] at hc
      replace hx := hid hx
      by_cases he : x.cpu = t
      · have hb : (x.cpu == t) = true := by rw [beq_iff_eq]; exact he
        have HI := hid (idx_some hN.out hx.out (by simp [he]))
        replace he := hid he
        go_wp2
        go_ret
        unfold onI
        rw [HI.out]
        exact ⟨rfl, rfl⟩
      · have hb : (x.cpu == t) = false := by rw [beq_eq_false_iff_ne]; exact he
        have HI := hid (noU_succ hN.out hx.out (by simp [he]))
        replace he := hid he
        go_wp2
        go_round
        case rel => exact ⟨k + 1, by omega, by go_num, HI⟩
        case measure => simp [intOf]; omega
    · have HI := hid (idx_none hN.out (by omega))
      go_wp2
      go_ret
      unfold onI
      rw [HI.out]
      exact ⟨rfl, rfl⟩
theorem sas_ok (w : World) (F : Nat → Prop) (p : Nat) (s : SR) (g off : Nat) (a : Option Addr) (c : Nat) (G : Option Nat) (h : RA w F p s g off a c G) (i : Nat) (x : ST) (hx : s.ts[i]? = some x) :
    Calls Try.prog 88 #[.pointer (some ⟨g, off + i * 15, none⟩)] w fun e w' => e = .returned (.tuple #[.int .i64 (asC x), .int .i64 (asV x)]) ∧ ∃ q, w' = w.drewN q := by
  have x1 := h.cell hx 1 (by omega)
  have x2 := h.cell hx 2 (by omega)
  have x3 := h.cell hx 3 (by omega)
  have x4 := h.cell hx 4 (by omega)
  simp only [stCells, List.getElem?_cons_succ, List.getElem?_cons_zero] at x1 x2 x3 x4
  clear h hx
  by_cases hm : 0 < x.mo
  · have e1 : asC x = x.mo := if_pos hm
    have e2 : asV x = x.wi := if_pos hm
    rw [e1, e2]
    clear e1 e2
    go_enter Try.func88, Try.ntmps88
    go_wp2
    go_quiet (fail)
    go_wp2
    go_ret2
    exact ⟨rfl, _, rfl⟩
  · have e1 : asC x = x.cl := if_neg hm
    have e2 : asV x = x.va := if_neg hm
    rw [e1, e2]
    clear e1 e2
    go_enter Try.func88, Try.ntmps88
    go_wp2
    go_quiet (fail)
    go_wp2
    go_ret2
    exact ⟨rfl, _, rfl⟩
theorem swaits_ok (w : World) (F : Nat → Prop) (p : Nat) (s : SR) (g off : Nat) (a : Option Addr) (c : Nat) (G : Option Nat) (h : RA w F p s g off a c G) (i : Nat) (x : ST) (hx : s.ts[i]? = some x) :
    Calls Try.prog 76 #[.pointer (some ⟨g, off + i * 15, none⟩)] w fun e w' => e = .returned (.bool (waitB x)) ∧ w' = w := by
  have x3 := h.cell hx 3 (by omega)
  have x12 := h.cell hx 12 (by omega)
  have x13 := h.cell hx 13 (by omega)
  have x14 := h.cell hx 14 (by omega)
  simp only [stCells, List.getElem?_cons_succ, List.getElem?_cons_zero] at x3 x12 x13 x14
  clear h hx
  unfold waitB
  generalize x.r = r at x12 ⊢
  generalize x.o = o at x13 ⊢
  generalize x.cpu = cpu at x14 ⊢
  generalize x.mo = mo at x3 ⊢
  cases r with
  | false =>
    go_enter Try.func76, Try.ntmps76
    go_wp2
    go_ret
    exact ⟨by simp, rfl⟩
  | true =>
    by_cases hc : cpu < 0
    · cases o with
      | false =>
        have hE : Hid ((true && decide (cpu < 0) && (!false || decide (0 < mo))) = true) := hid (by simp [hc])
        rw [hE.out]
        go_enter Try.func76, Try.ntmps76
        go_wp2
        go_ret
        exact ⟨rfl, rfl⟩
      | true =>
        by_cases hm : 0 < mo
        · have hE : Hid ((true && decide (cpu < 0) && (!true || decide (0 < mo))) = true) := hid (by simp [hc, hm])
          rw [hE.out]
          go_enter Try.func76, Try.ntmps76
          go_wp2
          go_ret
          exact ⟨by simp, rfl⟩
        · have hE : Hid ((true && decide (cpu < 0) && (!true || decide (0 < mo))) = false) := hid (by simp [hm])
          rw [hE.out]
          go_enter Try.func76, Try.ntmps76
          go_wp2
          go_ret
          exact ⟨by simp, rfl⟩
    · have hE : Hid ((true && decide (cpu < 0) && (!o || decide (0 < mo))) = false) := hid (by simp [hc])
      rw [hE.out]
      go_enter Try.func76, Try.ntmps76
      go_wp2
      go_ret
      exact ⟨by simp, rfl⟩
end Go.Proofs.Ytdelelpfombfbaa
