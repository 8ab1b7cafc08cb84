/- The walk of the law SpreadShares: it returns true and changes nothing that was there. No condition. -/
import Derived.Test.YthcgeigijnbpkaaSpreadFullWalk
import Derived.Test.YthcgeigijnbpkaaMaxMin
namespace Go.Proofs.Ythcgeigijnbpkaa
open Go.ChangeShapes Go.WideShapes Go.ChangeAt Go.RowKit
set_option linter.unusedVariables false
/-- The weight of the i-th task, and what a tick costs it. -/
def shW (zs : List Int) (i : Nat) : Int := 1 + rest (zs.getD i 0) 100
def shC (zs : List Int) (i : Nat) : Int := costI (shW zs i)
theorem shW_bd (zs : List Int) (i : Nat) : 1 ≤ shW zs i ∧ shW zs i ≤ 100 := by
  have h1 := rest_nonneg (zs.getD i 0) 100 (by omega)
  have h2 := rest_lt (zs.getD i 0) 100 (by omega)
  unfold shW
  omega
/-- Of fair shares, not boosted, by its weight; and its virtual time. -/
def ShP (zs : List Int) (G : Nat → Int) (i : Nat) (x : ST) : Prop := x.cl = 1 ∧ x.mo = 0 ∧ x.va = shW zs i ∧ x.v = G i
theorem shp_free (zs : List Int) (G : Nat → Int) : Free (ShP zs G) := fun i x c k h => h
theorem low_zero {ts : List ST} (h : ∀ x ∈ ts, x.v = 0) {k : Nat} {v : Int} (hv : lowK ts k = some v) : v = 0 := by
  induction k with
  | zero => cases hv
  | succ k ih =>
    unfold lowK at hv
    split at hv
    · exact ih hv
    · rename_i x hx
      split at hv
      · injection hv with hv; rw [← hv]; exact h x (List.mem_of_getElem? hx)
      · exact ih hv
/-- Shares: who runs has the least; no two are further apart than the dearest tick. -/
structure ShS (zs : List Int) (most : Int) (n run : Nat) (G : Nat → Int) (s : SR) : Prop where
  one : OneS (ShP zs G) n run s
  low : ∀ k, k < n → G run ≤ G k
  near : ∀ i k, i < n → k < n → G i ≤ G k + most
  pos : ∀ i, 0 ≤ G i
theorem sh_add {zs : List Int} {n : Nat} {s : SR} (h : OneS (ShP zs (fun _ => 0)) n 0 s) :
    (s.doAdd ((n : Int) + 1) 1 (shW zs n)).2 = 0 ∧ OneS (ShP zs (fun _ => 0)) (n + 1) 0 (s.doAdd ((n : Int) + 1) 1 (shW zs n)).1 := by
  refine one_add (shp_free _ _) h (by omega) ⟨rfl, rfl, rfl, ?_⟩
  show (if (1 : Int) = 1 then (lowI s.ts).getD 0 else 0) = 0
  rw [if_pos rfl]
  cases hl : lowI s.ts with
  | none => rfl
  | some v => exact low_zero (fun x hx => by
      obtain ⟨i, hi⟩ := List.mem_iff_getElem?.1 hx
      exact (h.each i x hi).1.2.2.2) hl
def addG (G : Nat → Int) (i : Nat) (c : Int) : Nat → Int := fun j => if j = i then G j + c else G j
theorem sh_tick {zs : List Int} {most : Int} {n run : Nat} {G : Nat → Int} {s : SR} (h : ShS zs most n run G s) (hr : run < n) (hm : ∀ i, i < n → shC zs i ≤ most) : ∃ j, j < n ∧ ShS zs most n j (addG G run (shC zs run)) (s.tick 0) := by
  have hc0 : ∀ i, 0 ≤ shC zs i := fun i => (cost_bd (shW_bd zs i).1).1
  have hgone : ∀ x st, ShP zs G run x → ShP zs (addG G run (shC zs run)) run (gone st x) := by
    intro x st hx
    obtain ⟨a1, a2, a3, a4⟩ := hx
    unfold gone runT
    rw [if_pos a1]
    refine ⟨a1, a2, a3, ?_⟩
    show x.v + costI x.va = if run = run then G run + shC zs run else G run
    rw [if_pos rfl, a4, a3]
    rfl
  obtain ⟨j, hj, h1, h2, _⟩ := one_tick (shp_free zs (addG G run (shC zs run))) h.one hr (fun i x hi hx => ⟨hx.1, hx.2.1, hx.2.2.1, by rw [hx.2.2.2]; unfold addG; rw [if_neg hi]⟩) (fun x _ hx => hgone x _ hx)
  have key : ∀ (i : Nat) (x : ST), (upd s.ts run (gone s.st))[i]? = some x → ShP zs (addG G run (shC zs run)) i x := by
    intro i x hx
    rw [upd_get] at hx
    split at hx
    · rename_i hi
      subst hi
      cases hz : s.ts[run]? with
      | none => rw [hz] at hx; cases hx
      | some z => rw [hz] at hx; simp at hx; subst hx; exact hgone z _ (h.one.each run z hz).1
    · rename_i hi
      have hp := (h.one.each i x hx).1
      exact ⟨hp.1, hp.2.1, hp.2.2.1, by rw [hp.2.2.2]; unfold addG; rw [if_neg (fun hh => hi hh.symm)]⟩
  have hl : (upd s.ts run (gone s.st)).length = n := by rw [upd_len, h.one.len]
  refine ⟨j, hj, h1, fun k hk => ?_, fun i k hi hk => ?_, fun i => ?_⟩
  · obtain ⟨x, hx⟩ : ∃ x, (upd s.ts run (gone s.st))[j]? = some x := ⟨_, List.getElem?_eq_getElem (by rw [hl]; exact hj)⟩
    obtain ⟨y, hy⟩ : ∃ y, (upd s.ts run (gone s.st))[k]? = some y := ⟨_, List.getElem?_eq_getElem (by rw [hl]; exact hk)⟩
    have hnb := h2 k y x hy hx
    obtain ⟨a1, a2, _, a4⟩ := key j x hx
    obtain ⟨b1, b2, _, b4⟩ := key k y hy
    have ex : asC x = 1 := by unfold asC; rw [a2, a1]; rfl
    have ey : asC y = 1 := by unfold asC; rw [b2, b1]; rfl
    have kx : key1 x = x.v := by unfold key1; rw [ex]; rfl
    have ky : key1 y = y.v := by unfold key1; rw [ey]; rfl
    unfold Better at hnb
    rw [← a4, ← b4]
    omega
  · have hnear := h.near i k hi hk
    have hlow := h.low k hk
    have hmr := hm run hr
    have hcr := hc0 run
    unfold addG
    by_cases e1 : i = run <;> by_cases e2 : k = run
    · rw [if_pos e1, if_pos e2, e1, e2]
      have := h.near run run hr hr
      omega
    · rw [if_pos e1, if_neg e2, e1]; omega
    · rw [if_neg e1, if_pos e2, e2]
      have := h.near i run hi hr
      omega
    · rw [if_neg e1, if_neg e2]; exact hnear
  · have := h.pos i
    have := hc0 run
    unfold addG
    split <;> omega
/-- The row of what was given. -/
def rowG (n : Nat) (G : Nat → Int) : List Int := (List.range n).map G
theorem rowG_len (n : Nat) (G : Nat → Int) : (rowG n G).length = n := by unfold rowG; simp
theorem rowG_get {n : Nat} (G : Nat → Int) {i : Nat} (h : i < n) : (rowG n G)[i]? = some (G i) := by unfold rowG; rw [List.getElem?_map, List.getElem?_range h]; rfl
theorem rowG_set {n : Nat} (G : Nat → Int) {i : Nat} (c : Int) (h : i < n) : (rowG n G).set i (G i + c) = rowG n (addG G i c) := by
  refine List.ext_getElem? (fun j => ?_)
  rw [List.getElem?_set, rowG_len]
  by_cases hj : j < n
  · rw [rowG_get _ hj, rowG_get _ hj]
    unfold addG
    by_cases hij : i = j
    · subst hij; rw [if_pos rfl, if_pos hj, if_pos rfl]
    · rw [if_neg hij, if_neg (fun h => hij h.symm)]
  · rw [if_neg (by omega), List.getElem?_eq_none (by rw [rowG_len]; omega), List.getElem?_eq_none (by rw [rowG_len]; omega)]
theorem sh_gap {zs : List Int} {most : Int} {n run : Nat} {G : Nat → Int} {s : SR} (h : ShS zs most n run G s) {a b : Int} (ha : IsMax (rowG n G) a) (hb : IsMin (rowG n G) b) : a - b ≤ most := by
  obtain ⟨i, hi⟩ := List.mem_iff_getElem?.1 ha.1
  obtain ⟨k, hk⟩ := List.mem_iff_getElem?.1 hb.1
  have h1 : i < n := by have := (List.getElem?_eq_some_iff.1 hi).1; rw [rowG_len] at this; exact this
  have h2 : k < n := by have := (List.getElem?_eq_some_iff.1 hk).1; rw [rowG_len] at this; exact this
  rw [rowG_get _ h1] at hi
  rw [rowG_get _ h2] at hk
  injection hi with hi
  injection hk with hk
  have := h.near i k h1 h2
  omega
theorem sh_bd {zs : List Int} {most : Int} {n run : Nat} {G : Nat → Int} {s : SR} {M : Int} (h : OneS (ShP zs G) n run s) (hok : SOk M s) {i : Nat} (hi : i < n) : 0 ≤ G i ∧ G i ≤ M * 1048576 := by
  obtain ⟨x, hx⟩ : ∃ x, s.ts[i]? = some x := ⟨_, List.getElem?_eq_getElem (by rw [h.len]; exact hi)⟩
  have h1 := (h.each i x hx).1.2.2.2
  have h2 := hok.each x (List.mem_of_getElem? hx)
  have := h2.v1
  have := h2.v2
  omega
/-- The dearest of the first k ticks. -/
def mostK (zs : List Int) : Nat → Int
  | 0 => 0
  | k + 1 => max (mostK zs k) (shC zs k)
theorem mostK_le (zs : List Int) {k i : Nat} (h : i < k) : shC zs i ≤ mostK zs k := by
  induction k with
  | zero => omega
  | succ k ih =>
    show _ ≤ max (mostK zs k) (shC zs k)
    by_cases hik : i = k
    · rw [hik]; omega
    · have := ih (by omega); omega
theorem mostK_bd (zs : List Int) (k : Nat) : 0 ≤ mostK zs k ∧ mostK zs k ≤ 1048576 := by
  induction k with
  | zero => exact ⟨Int.le_refl _, by show (0 : Int) ≤ _; omega⟩
  | succ k ih =>
    have := cost_bd (shW_bd zs k).1
    unfold shC at *
    show 0 ≤ max (mostK zs k) (costI (shW zs k)) ∧ max (mostK zs k) (costI (shW zs k)) ≤ _
    omega
/-- The row of costs, on the way. -/
def cosK (zs : List Int) (k : Nat) : Nat → Int := fun i => if i < k then shC zs i else 0
theorem cosK_zero (zs : List Int) (n : Nat) : rowG n (cosK zs 0) = List.replicate n 0 := by
  refine List.ext_getElem? (fun j => ?_)
  by_cases hj : j < n
  · rw [rowG_get _ hj, List.getElem?_replicate, if_pos hj]; unfold cosK; rw [if_neg (by omega)]
  · rw [List.getElem?_eq_none (by rw [rowG_len]; omega), List.getElem?_eq_none (by rw [List.length_replicate]; omega)]
theorem cosK_succ (zs : List Int) {n k : Nat} (h : k < n) : (rowG n (cosK zs k)).set k (shC zs k) = rowG n (cosK zs (k + 1)) := by
  refine List.ext_getElem? (fun j => ?_)
  rw [List.getElem?_set, rowG_len]
  by_cases hj : j < n
  · rw [rowG_get _ hj, rowG_get _ hj]
    unfold cosK
    by_cases hij : k = j
    · subst hij; rw [if_pos rfl, if_pos hj, if_pos (by omega)]
    · rw [if_neg hij]
      by_cases hjk : j < k
      · rw [if_pos hjk, if_pos (by omega)]
      · rw [if_neg hjk, if_neg (by omega)]
  · rw [if_neg (by omega), List.getElem?_eq_none (by rw [rowG_len]; omega), List.getElem?_eq_none (by rw [rowG_len]; omega)]
theorem rowG_zero (n : Nat) : rowG n (fun _ => 0) = List.replicate n 0 := by
  refine List.ext_getElem? (fun j => ?_)
  by_cases hj : j < n
  · rw [rowG_get _ hj, List.getElem?_replicate, if_pos hj]
  · rw [List.getElem?_eq_none (by rw [rowG_len]; omega), List.getElem?_eq_none (by rw [List.length_replicate]; omega)]
theorem row_set {k : IntKind} (l : List Int) (i : Nat) (v : Int) : (ints k l).set i (.int k v) = ints k (l.set i v) := by unfold ints; rw [List.map_set]
/-- In memory: while they come; while they run. -/
def ShM1 (w0 : World) (zs : List Int) (p bc n k : Nat) (w : World) : Prop := ∃ s, RunX w0 [bc] p s w ∧ Blk w bc 3 (ints .i64 (rowG n (cosK zs k))) ∧ OneS (ShP zs (fun _ => 0)) k 0 s ∧ SOk k s
def ShM2 (w0 : World) (zs : List Int) (p bc bg n : Nat) (M : Int) (w : World) : Prop := ∃ s G run, RunX w0 [bg, bc] p s w ∧ Blk w bc 3 (ints .i64 (rowG n (shC zs))) ∧ Blk w bg 3 (ints .i64 (rowG n G)) ∧ (0 < n → run < n ∧ ShS zs (mostK zs n) n run G s) ∧ (n = 0 → s.ts = []) ∧ s.n = 1 ∧ SOk M s
set_option maxRecDepth 100000 in
set_option maxHeartbeats 2000000 in
theorem spreadShares_walk (a0 : Option Addr) (len0 cap0 : Nat) (z0 : List Int) (a1 : Int) (w : World) (w0 : IsRow .i64 w a0 len0 cap0 z0) (w1 : (Lit.int .i64 a1).wf = true) :
    Calls Try.prog 4 #[.slice a0 len0 cap0, .int .i64 a1] w fun e w' => e = .returned (.bool true) ∧ Below w.heap.size w w' := by
  have hl1 := w0.1.1
  have hl2 := w0.1.2.1
  unfold maxLen at hl2
  have W0 := hid w0.1
  clear w0 w1
  have emk : ∀ (n : Nat) (hn : n ≤ 100) (w : World), (Instr.makeSlice 22 (.int .i64 (n : Int)) (.int .i64 (n : Int))).run Try.prog w = .ok (.slice (some ⟨w.heap.size, 0, none⟩) n n) (w.alloc (.cells (List.replicate n (.int .i64 0)).toArray 3)) := fun n hn w =>
    run_make1 (P := Try.prog) (t := 22) (e := 3) (z := .int .i64 0) (bytes := 8) Try.underlying22 (by kernel_rfl) rfl (by omega) n (by omega) w
  have eints : ∀ n : Nat, ints .i64 (List.replicate n 0) = List.replicate n (.int .i64 0) := fun n => by unfold ints; rw [List.map_replicate]
  replace emk := hid emk
  replace eints := hid eints
  go_enter Try.func4, Try.ntmps4
  go_wp2_with fail
  refine (sbegun_ok _).mono ?_
  rintro e w1 ⟨rfl, c1⟩
  have B1 := hid (below_nil (Below.refl _ w) c1)
  clear c1
  go_upto_region 3 with fail
  go_cut [0] (fun s0 wx => wx = w1 ∧ ∃ N : Nat, N ≤ 16 ∧ N ≤ len0 ∧ s0 = .slice a0 N cap0)
  case first =>
    go_wp2
    · go_meet
      exact ⟨rfl, 16, by omega, by omega, rfl⟩
    · go_meet
      exact ⟨rfl, len0, by omega, by omega, by simp⟩
  case rest =>
    obtain ⟨rfl, N, hN1, hN2, rfl⟩ := hcut
    obtain ⟨Z, hZ⟩ : ∃ Z, Z = z0.take N := ⟨_, rfl⟩
    have RZ : Hid (Rd w (Upto w.heap.size) 1 a0 N cap0 (ints .i64 Z)) := hid (by rw [hZ]; exact rd_take W0.out hN2)
    have ZL := hid RZ.out.ilen
    clear hZ W0
    go_wp2_with fail
    refine (rx_new B1.out 1 (by omega) (by omega)).mono ?_
    rintro e w3 ⟨p, rfl, h1, _⟩
    have hmk := emk.out N (by omega)
    obtain ⟨bc, hb⟩ : ∃ b, b = w3.heap.size := ⟨_, rfl⟩
    have I0 : Hid (ShM1 w Z p bc N 0 (w3.alloc (.cells (List.replicate N (.int .i64 0)).toArray 3))) := hid ⟨_, by rw [hb]; exact h1.alloc _, by
      rw [cosK_zero, eints.out, hb]
      exact Blk.new w3 3 _, one_new, new_ok 1 (by omega) (by omega)⟩
    rw [show (List.replicate N (Value.int .i64 0)).toArray = Array.replicate N (.int .i64 0) by simp] at I0
    replace hb := hid hb
    clear h1 B1
    go_upto_region 9 with fail
    clear hmk
    rw [← hb.out]
    generalize World.alloc w3 _ = w4 at I0 ⊢
    clear hb
    go_wp2
    go_loopw [7, 32] (fun s7 s32 wr => ∃ k : Nat, k ≤ N ∧ s32 = .int .i64 k ∧ s7 = .int .i64 (mostK Z k) ∧ Hid (ShM1 w Z p bc N k wr)) (fun _ s32 _ => N - (intOf s32).toNat)
    case atStart => exact ⟨0, by omega, rfl, rfl, I0⟩
    case round =>
      obtain ⟨k, hk, rfl, rfl, hJ⟩ := hrel
      clear I0
      by_cases hlt : k < N
      · obtain ⟨s, j1, j2, j3, j4⟩ := id hJ.out
        have hz : k < Z.length := by rw [ZL.out]; exact hlt
        obtain ⟨g, off, hg, _, _, hc⟩ := (rd_rest RZ.out j1.bel).at hz
        have hc1 := hc k hz
        clear hc
        have hw : shW Z k = 1 + rest Z[k] 100 := by unfold shW; rw [List.getD_eq_getElem?_getD, List.getElem?_eq_getElem hz]; rfl
        generalize Z[k] = v at hc1 hw
        have wb := shW_bd Z k
        obtain ⟨e1, e2⟩ := sh_add j3
        have hlen : s.ts.length < 1000 := by rw [j3.len]; omega
        have hv : valB 1 (shW Z k) = true := by unfold valB; simp; omega
        have A : Hid (∀ w', RunX w [bc] p s w' → Calls Try.prog 14 #[.pointer (some ⟨p, 0, none⟩), .int .i64 ((k : Int) + 1), .int .i64 1, .int .i64 (shW Z k)] w' (PX w [bc] p (s.doAdd ((k : Int) + 1) 1 (shW Z k)).1 0 w')) := hid (fun w' h => by
          have := rx_add h j4 (by omega) hlen ((k : Int) + 1) 1 (shW Z k) (by omega) (by omega) hv
          rwa [e1] at this)
        have OK := hid (j4.add hlen (t := (k : Int) + 1) (cl := 1) (va := shW Z k) (by omega) (by omega) hv)
        have CO : Hid (∀ w', Calls Try.prog 18 #[.int .i64 (shW Z k)] w' fun e w'' => e = .returned (.tuple #[.int .i64 (shC Z k), .int .i64 0]) ∧ w' = w'') := hid (fun w' => cost_i (shW Z k) w' wb.1 wb.2)
        have cb := cost_bd wb.1
        have mb := mostK_bd Z k
        have HW := hid hw
        have bk := j2.cell k
        have fk := j2.frozen k
        rw [ints_get .i64 _ (by rw [rowG_len]; exact hlt)] at bk
        have B2 := j2.set k (.int .i64 (shC Z k))
        rw [row_set, cosK_succ Z hlt] at B2
        have J1 := hid (j1.put (g := bc) (i := k) (by simp) (.int .i64 (shC Z k)))
        have E2 := hid e2
        have ck : (wr.setCell ⟨bc, k, none⟩ (.int .i64 (shC Z k))).cell? ⟨bc, k, none⟩ = some (.int .i64 (shC Z k)) := by
          rw [B2.cell k, ints_get .i64 _ (by rw [rowG_len]; exact hlt)]
          have h5 : (rowG N (cosK Z (k + 1)))[k]? = some (shC Z k) := by rw [rowG_get _ hlt]; unfold cosK; rw [if_pos (by omega)]
          rw [(List.getElem?_eq_some_iff.1 h5).2]
        have MX : Hid (mostK Z (k + 1) = max (mostK Z k) (shC Z k)) := hid rfl
        have HB2 := hid B2
        generalize (rowG N (cosK Z k))[k]'(by rw [rowG_len]; exact hlt) = old at bk
        obtain ⟨C, hC⟩ : ∃ C, C = shC Z k := ⟨_, rfl⟩
        change 0 ≤ shC Z k ∧ shC Z k ≤ 1048576 at cb
        rw [← hC] at cb CO HB2 J1 ck MX
        obtain ⟨W, hW⟩ : ∃ W, W = shW Z k := ⟨_, rfl⟩
        rw [← hW] at A OK CO E2 HW wb
        obtain ⟨mo, hmo⟩ : ∃ mo, mo = mostK Z k := ⟨_, rfl⟩
        rw [← hmo] at mb MX ⊢
        obtain ⟨wb1, wb2⟩ := wb
        obtain ⟨cb1, cb2⟩ := cb
        obtain ⟨mb1, mb2⟩ := mb
        clear j1 j2 j3 j4 e1 e2 hJ hv hw B2 hC hW hmo
        subst hg
        have r1 := rest_nonneg v 100 (by omega)
        have r2 := rest_lt v 100 (by omega)
        go_wp2_with fail
        refine (rest_any v 100 _ (by omega) (by omega)).mono ?_
        rintro e w5 ⟨rfl, rfl⟩
        go_upto_region 13 with fail
        rw [← HW.out]
        clear r1 r2
        go_wp2_with fail
        with_reducible refine (CO.out _).mono ?_
        rintro e w5 ⟨rfl, rfl⟩
        have AX := hid (A.out _ J1.out)
        clear A CO
        by_cases hmc : mo < C
        · have hmx : max mo C = C := by omega
          rw [hmx] at MX
          clear hmx
          go_wp2_with fail
          refine AX.out.mono ?_
          rintro e w6 ⟨rfl, h1, h2⟩
          have HB3 := hid (h2 bc (by simp) _ _ HB2.out)
          replace h1 := hid h1
          clear h2 AX
          go_wp2
          go_roundw
          case rel => exact ⟨k + 1, by omega, by go_num, by rw [MX.out], _, h1.out, HB3.out, E2.out, OK.out⟩
          case measure => simp [intOf]; omega
        · have hmx : max mo C = mo := by omega
          rw [hmx] at MX
          clear hmx
          go_wp2_with fail
          refine AX.out.mono ?_
          rintro e w6 ⟨rfl, h1, h2⟩
          have HB3 := hid (h2 bc (by simp) _ _ HB2.out)
          replace h1 := hid h1
          clear h2 AX
          go_wp2
          go_roundw
          case rel => exact ⟨k + 1, by omega, by go_num, by rw [MX.out], _, h1.out, HB3.out, E2.out, OK.out⟩
          case measure => simp [intOf]; omega
      · obtain rfl : k = N := by omega
        obtain ⟨N, hNk⟩ : ∃ N, N = k := ⟨_, rfl⟩
        rw [← hNk] at hJ hN1 hN2 RZ ZL ⊢
        clear hNk hk hlt
        have hmk := emk.out N (by omega)
        obtain ⟨bg, hb⟩ : ∃ b, b = wr.heap.size := ⟨_, rfl⟩
        have I1 : Hid (ShM2 w Z p bc bg N N (wr.alloc (.cells (List.replicate N (.int .i64 0)).toArray 3))) := hid (by
          obtain ⟨s, j1, j2, j3, j4⟩ := hJ.out
          refine ⟨s, fun _ => 0, 0, by rw [hb]; exact j1.alloc _, ?_, ?_, fun h0 => ⟨h0, j3, fun _ _ => Int.le_refl _, fun i k _ _ => by have := mostK_bd Z N; omega, fun _ => Int.le_refl _⟩, fun h0 => List.eq_nil_of_length_eq_zero (by rw [j3.len, h0]), j3.nn, j4⟩
          · have e : rowG N (shC Z) = rowG N (cosK Z N) := by
              unfold rowG
              refine List.map_congr_left (fun i hi => ?_)
              unfold cosK
              rw [if_pos (List.mem_range.1 hi)]
            rw [e]
            exact j2.alloc _
          · rw [rowG_zero, eints.out, hb]
            exact Blk.new wr 3 _)
        have HNE : Hid (bc ≠ bg) := hid (by
          obtain ⟨s, ⟨F, _, _, _, j5⟩, _⟩ := hJ.out
          have := (j5 bc (by simp)).2.1
          omega)
        have mb := mostK_bd Z N
        obtain ⟨mo, hmo⟩ : ∃ mo, mo = mostK Z N := ⟨_, rfl⟩
        have HMO := hid hmo
        rw [← hmo] at mb ⊢
        clear hmo
        rw [show (List.replicate N (Value.int .i64 0)).toArray = Array.replicate N (.int .i64 0) by simp] at I1
        replace hb := hid hb
        go_upto_region 19 with fail
        clear hmk hJ
        rw [← hb.out]
        generalize World.alloc wr _ = w4 at I1 ⊢
        clear hb emk eints
        go_wp2_with fail
        refine (rest_nat a1 400 _ (by omega) (by omega)).mono ?_
        rintro e w5 ⟨m, hm, rfl, rfl⟩
        go_wp2
        go_loopw [66] (fun s66 wr => ∃ j : Nat, j ≤ m ∧ s66 = .int .i64 j ∧ Hid (ShM2 w Z p bc bg N ((N : Int) + (j : Int)) wr)) (fun s66 _ => m - (intOf s66).toNat)
        case atStart => exact ⟨0, by omega, rfl, by simpa using I1⟩
        case round =>
          obtain ⟨j, hj, rfl, hJ⟩ := hrel
          clear I1
          by_cases hlj : j < m
          · obtain ⟨s, G, run, j1, j2, j3, j4, j5, j6, j7⟩ := id hJ.out
            have PK := rx_pick j1 j7 0 (by rw [j6]; omega)
            rw [show ((0 : Nat) : Int) = 0 from rfl] at PK
            by_cases hN0 : N = 0
            · have hnone : onI s.ts 0 = none := by rw [j5 hN0]; rfl
              rw [pick_none hnone] at PK
              replace PK := hid PK
              have hb0 : ((N : Int) == 0) = true := by rw [beq_iff_eq]; omega
              replace hN0 := hid hN0
              have HB := hid j1.bel
              clear j1 j2 j3 j4 j5 j6 j7 hnone hJ
              go_wp2_with fail
              refine PK.out.mono ?_
              rintro e w6 ⟨rfl, hw⟩
              subst hw
              go_wp2
              go_ret
              exact ⟨by simp, HB.out⟩
            · have hb0 : ((N : Int) == 0) = false := by rw [beq_eq_false_iff_ne]; omega
              obtain ⟨hr, hS⟩ := j4 (by omega)
              rw [one_pick hS.one hr] at PK
              obtain ⟨run', hr', hS'⟩ := sh_tick hS hr (fun i hi => mostK_le Z hi)
              have TK : Hid (Calls Try.prog 16 #[.pointer (some ⟨p, 0, none⟩), .int .i64 0] wr (PX w [bg, bc] p (s.tick 0) 0 wr)) := hid (rx_tick j1 j7 (by omega) 0 (by rw [j6]; omega))
              have OK2 := hid (j7.tick 0)
              have gb := sh_bd (most := mostK Z N) hS.one j7 hr
              have cb := cost_bd (shW_bd Z run).1
              change 0 ≤ shC Z run ∧ shC Z run ≤ 1048576 at cb
              have GB := hid (fun i hi => sh_bd (most := mostK Z N) (i := i) hS'.one (j7.tick 0) hi)
              have GAP := hid (fun a b ha hb => sh_gap hS' (a := a) (b := b) ha hb)
              have RS := hid (rowG_set G (shC Z run) hr)
              have RG := hid (rowG_get G hr)
              have RC := hid (rowG_get (shC Z) hr)
              have J2 := hid j2
              have J3 := hid j3
              have S2 := hid hS'
              have N6 : Hid ((s.tick 0).n = 1) := hid (by rw [n_tick]; exact j6)
              rw [← HMO.out] at GAP
              obtain ⟨C, hC⟩ : ∃ C, C = shC Z run := ⟨_, rfl⟩
              rw [← hC] at cb RS RC GAP GB
              obtain ⟨gr, hgr⟩ : ∃ gr, gr = G run := ⟨_, rfl⟩
              rw [← hgr] at gb RS RG
              have HC := hid hC
              obtain ⟨gb1, gb2⟩ := gb
              obtain ⟨cb1, cb2⟩ := cb
              obtain ⟨mb1, mb2⟩ := mb
              have hws := IntWalk.i64_in (gr + C) (by omega)
              have hwt := IntWalk.i64_in ((run : Int) + 1 - 1) (by omega)
              have hwr := IntWalk.i64_in (run : Int) (by omega)
              have hN1' : 1 ≤ N := by omega
              replace PK := hid PK
              clear j1 j2 j3 j4 j5 j6 j7 hS hS' hC hgr hN0 hJ
              go_wp2_with fail
              refine PK.out.mono ?_
              rintro e w6 ⟨rfl, hw⟩
              subst hw
              go_wp2_with fail
              refine TK.out.mono ?_
              rintro e w7 ⟨rfl, h1, h2⟩
              have BC := hid (h2 bc (by simp) _ _ J2.out)
              have BG := hid (h2 bg (by simp) _ _ J3.out)
              have cg := BG.out.cell run
              have fg := BG.out.frozen run
              have cc := BC.out.cell run
              rw [show (ints .i64 (rowG N G))[run]? = some (.int .i64 gr) by unfold ints; rw [List.getElem?_map, RG.out]; rfl] at cg
              rw [show (ints .i64 (rowG N (shC Z)))[run]? = some (.int .i64 C) by unfold ints; rw [List.getElem?_map, RC.out]; rfl] at cc
              have i1 : (run : Int) < (N : Int) := by omega
              have B2 := BG.out.set run (.int .i64 (gr + C))
              rw [row_set, RS.out] at B2
              have HB2 := hid (B2.drewN 1)
              have HC2 := hid ((BC.out.far (p := ⟨bg, run, none⟩) HNE.out (.int .i64 (gr + C))).drewN 1)
              have HX := hid ((h1.put (g := bg) (i := run) (by simp) (.int .i64 (gr + C))).drewN 1)
              clear h1 h2 B2 TK PK J2 J3
              go_wp2
              go_region
              change Hid (Blk (World.drew (World.setCell w7 _ _)) _ _ _) at HB2
              change Hid (Blk (World.drew (World.setCell w7 _ _)) _ _ _) at HC2
              change Hid (RunX _ _ _ _ (World.drew (World.setCell w7 _ _))) at HX
              generalize World.drew (World.setCell w7 _ _) = w8 at HB2 HC2 HX ⊢
              clear cg fg cc BC BG hws hwt hwr
              have RD : Hid (Rd w8 (One bg) 1 (some ⟨bg, 0, none⟩) N N (ints .i64 (rowG N (addG G run C)))) := hid (Rd.of_blk HB2.out (by rw [ints_length, rowG_len]; omega) (by unfold maxLen; omega))
              have MXC := hid (max_int _ _ _ _ _ w8 RD.out (by omega) (by omega))
              have MNC := hid (min_int _ _ _ _ _ w8 RD.out (by omega) (by omega))
              clear RD
              go_wp2_with fail
              refine MXC.out.mono ?_
              rintro e w9 ⟨a, ha, rfl, hw⟩
              subst hw
              go_wp2_with fail
              refine MNC.out.mono ?_
              rintro e w9 ⟨b, hb, rfl, hw⟩
              subst hw
              have hgap := GAP.out a b ha hb
              have hab : 0 ≤ a ∧ a ≤ 2000000000 ∧ 0 ≤ b ∧ b ≤ 2000000000 := by
                obtain ⟨i, hi⟩ := List.mem_iff_getElem?.1 ha.1
                obtain ⟨k, hk⟩ := List.mem_iff_getElem?.1 hb.1
                have h1 : i < N := by have := (List.getElem?_eq_some_iff.1 hi).1; rw [rowG_len] at this; exact this
                have h2 : k < N := by have := (List.getElem?_eq_some_iff.1 hk).1; rw [rowG_len] at this; exact this
                rw [rowG_get _ h1] at hi
                rw [rowG_get _ h2] at hk
                injection hi with hi
                injection hk with hk
                have g1 := GB.out i h1
                have g2 := GB.out k h2
                omega
              obtain ⟨ha1, ha2, hb1, hb2⟩ := hab
              have hng : ¬ mo < a - b := by omega
              clear ha hb hgap GAP MXC MNC RS RG RC GB
              go_wp2
              go_roundw
              case rel => exact ⟨j + 1, by omega, by go_num, s.tick 0, _, run', HX.out, HC2.out, by rw [HC.out] at HB2; exact HB2.out, fun _ => ⟨hr', S2.out⟩, fun h0 => by omega, N6.out, by push_cast; exact OK2.out.more (by omega)⟩
              case measure => simp [intOf]; omega
          · go_wp2
            go_ret
            obtain ⟨s, G, run, j1, _⟩ := hJ.out
            exact ⟨rfl, j1.bel⟩
end Go.Proofs.Ythcgeigijnbpkaa
