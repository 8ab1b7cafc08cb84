/- Contracts of package spread: AddDead. Conditions: a run as it may be, its budgets within their periods, with at most fifteen tasks. -/
import Derived.Test.YthcgeigijnbpkaaSprV
import Derived.Test.YthcgeigijnbpkaaAdmitF
namespace Go.Proofs.Ythcgeigijnbpkaa
open Go.ChangeShapes Go.WideShapes Go.ChangeAt Go.RowKit
set_option linter.unusedVariables false
/-- The use of a task with a deadline. -/
def useT (x : ST) : Use := ⟨x.bu.toNat, x.pe.toNat⟩
/-- All uses, with a new one ahead. -/
def usesK (u : Use) (ts : List ST) : Nat → List Use
  | 0 => [u]
  | k + 1 => match ts[k]? with
    | none => usesK u ts k
    | some x => if x.cl = 3 then usesK u ts k ++ [useT x] else usesK u ts k
theorem usesK_at {u : Use} {ts : List ST} {k : Nat} {x : ST} (h : ts[k]? = some x) : usesK u ts (k + 1) = if x.cl = 3 then usesK u ts k ++ [useT x] else usesK u ts k := by
  show (match ts[k]? with | none => _ | some x => _) = _
  rw [h]
theorem usesK_len (u : Use) (ts : List ST) (k : Nat) : 1 ≤ (usesK u ts k).length ∧ (usesK u ts k).length ≤ k + 1 := by
  induction k with
  | zero => exact ⟨Nat.le_refl _, Nat.le_refl _⟩
  | succ k ih =>
    unfold usesK
    split
    · omega
    · split
      · rw [List.length_append]; simp; omega
      · omega
/-- The budgets of a run lie within their periods. -/
def BudOk (s : SR) : Prop := ∀ x ∈ s.ts, x.cl = 3 → 1 ≤ x.bu ∧ x.bu ≤ x.pe ∧ x.pe ≤ 30
theorem usesK_ok {u : Use} {s : SR} (hu : u.ok) (h : BudOk s) (k : Nat) : ∀ v ∈ usesK u s.ts k, v.ok := by
  induction k with
  | zero => intro v hv; rw [List.mem_singleton.1 hv]; exact hu
  | succ k ih =>
    unfold usesK
    split
    · exact ih
    · rename_i x hx
      split
      · rename_i hc
        intro v hv
        rcases List.mem_append.1 hv with hv | hv
        · exact ih v hv
        · rw [List.mem_singleton.1 hv]
          obtain ⟨h1, h2, h3⟩ := h x (List.mem_of_getElem? hx) hc
          unfold Use.ok useT
          simp only
          omega
      · exact ih
def fitsB (s : SR) (u : Use) : Bool := decide (fit (usesK u s.ts s.ts.length) s.n)
def SR.doDead (s : SR) (t : Int) (b p : Nat) : SR × Int := match s.who t with
  | none => if fitsB s ⟨b, p⟩ then (s.enter (newD s t b p), 0) else (s, 6)
  | some (i, x) => (s, 5)
theorem newD_ok {m : Int} {s : SR} (hok : SOk m s) {t : Int} {b p : Nat} (t1 : 1 ≤ t) (t2 : t ≤ 16) (b1 : 1 ≤ b) (b2 : b ≤ p) (p2 : p ≤ 30) : TOk m (newD s t b p) := by
  have ht := hok.time
  have h0 : 0 ≤ m := Int.le_trans hok.tk1 hok.tk2
  refine ⟨t1, t2, by show (1 : Int) ≤ 3; omega, by show (3 : Int) ≤ 3; omega, by show (0 : Int) ≤ 0; omega, by show (0 : Int) ≤ 100; omega, (fun h => by have h' : (3 : Int) = 1 := h; omega), by show (0 : Int) ≤ 0; omega, by show (0 : Int) ≤ 2; omega, by show (0 : Int) ≤ 0; omega, by show (0 : Int) ≤ 100; omega, ?_, ?_, fun _ => ?_, ?_, ?_, ?_, ?_, fun _ _ => ?_, ?_, ?_, by show (0 : Int) ≤ 0; omega, by show (0 : Int) ≤ m * 1048576; omega, by show (0 : Int) ≤ 0; omega, h0, by show 0 < 16; omega, by show (-1 : Int) ≤ 0; omega, by show (0 : Int) ≤ 3; omega, fun _ => rfl⟩
  · show (0 : Int) ≤ (b : Int); omega
  · show (b : Int) ≤ 30; omega
  · show (1 : Int) ≤ (b : Int); omega
  · show (0 : Int) ≤ (p : Int); omega
  · show (p : Int) ≤ 30; omega
  · show (0 : Int) ≤ (b : Int); omega
  · show (b : Int) ≤ 30; omega
  · show (1 : Int) ≤ (b : Int); omega
  · show (0 : Int) ≤ s.time + (p : Int); omega
  · show s.time + (p : Int) ≤ m + 30; omega
/-- The uses on the way. -/
def UseM (w0 : World) (u : Use) (s : SR) (k : Nat) (a : Option Addr) (n c : Nat) (w : World) : Prop := ∃ G, n = (usesK u s.ts k).length ∧ Sl w 55 2 a n c ((usesK u s.ts k).flatMap useCells) G ∧ Chg Nil w0 w ∧ ∀ g, G = some g → w0.heap.size ≤ g
set_option maxRecDepth 100000 in
set_option maxHeartbeats 2000000 in
theorem sdead_any (w : World) (F : Nat → Prop) (p : Nat) (s : SR) (h : RunAt w F p s) (M : Int) (hok : SOk M s) (hM : M ≤ 1000000) (hbud : BudOk s) (t : Int) (b q : Nat) (t1 : 1 ≤ t) (t2 : t ≤ 16) (b1 : 1 ≤ b) (b2 : b ≤ q) (q2 : q ≤ 30) (hl : s.who t = none → s.ts.length ≤ 15) :
    Calls Try.prog 34 #[.pointer (some ⟨p, 0, none⟩), .int .i64 t, .int .i64 (b : Int), .int .i64 (q : Int)] w (PS F p (s.doDead t b q).1 (s.doDead t b q).2 w) := by
  have HR := hid h
  have EN : Hid (∀ (w : World), RunAt w F p s → s.who t = none → Calls Try.prog 37 #[.pointer (some ⟨p, 0, none⟩), .agg #[.int .i64 t, .int .i64 3, .int .i64 0, .int .i64 0, .int .i64 0, .int .i64 b, .int .i64 q, .int .i64 b, .int .i64 (s.time + q), .int .i64 0, .int .i64 0, .int .i64 0, .bool false, .bool false, .int .i64 0]] w fun e w' => e = .returned (.tuple #[]) ∧ ∃ F', RunAt w' F' p (s.enter (newD s t b q)) ∧ Chg F w w' ∧ Grew w.heap.size F F') := hid (fun w h hw => senter_ok w F p s h M hok hM (newD s t b q) (newD_ok hok t1 t2 b1 b2 q2) rfl (by have := hl hw; omega))
  obtain ⟨g, off, a, c, G, h⟩ := h
  have FN := hid (sfind_ok w F p s g off a c G h hok.len t)
  have H := hid h
  have OK := hid hok
  have HU : Hid (∀ k, ∀ v ∈ usesK ⟨b, q⟩ s.ts k, v.ok) := hid (fun k => usesK_ok ⟨b1, b2, q2⟩ hbud k)
  have HB := hid hbud
  have HL := hid hl
  have n1 := hok.n1
  have n4 := hok.n2
  clear h hok hbud hl
  have nb1 : ¬ (b : Int) < 1 := by omega
  have nb2 : ¬ (q : Int) < (b : Int) := by omega
  have nq1 : ¬ (q : Int) < 1 := by omega
  have nq2 : ¬ (30 : Int) < (q : Int) := by omega
  cases hf : fndI s.ts t with
  | some i =>
    rw [hf] at FN
    obtain ⟨x, hx, _⟩ := fnd_get hf
    have E : Hid (s.doDead t b q = (s, 5)) := hid (by unfold SR.doDead; rw [who_some hf hx])
    unfold elV at FN
    clear hf hx
    go_enter Try.func34, Try.ntmps34
    go_wp2_with fail
    refine FN.out.mono ?_
    rintro e w1 ⟨rfl, hw⟩
    subst hw
    go_wp2
    go_ret
    rw [E.out]
    exact ps_same (w' := w) HR.out 0
  | none =>
    rw [hf] at FN
    unfold elV at FN
    have hw0 := hid (who_none hf)
    have hl15 := HL.out hw0.out
    have c3 := (H.out.nil ((Chg.refl Nil w).alloc (.cells #[.int .i64 b, .int .i64 q] 55))).c3
    clear hf HL
    have I0 : Hid (UseM w ⟨b, q⟩ s 0 (some ⟨w.heap.size, 0, none⟩) 1 1 (w.alloc (.cells #[.int .i64 b, .int .i64 q] 55))) := hid ⟨some w.heap.size, rfl, by
      have := Sl.of_blk (n := 1) (s := 2) (Blk.new w 55 (useCells ⟨b, q⟩)) rfl (by decide)
      exact this, (Chg.refl _ _).alloc _, fun g hg => by injection hg with hg; omega⟩
    go_enter Try.func34, Try.ntmps34
    go_wp2_with fail
    refine FN.out.mono ?_
    rintro e w1 ⟨rfl, hw⟩
    subst hw
    go_wp2
    go_loopw [9, 50] (fun s9 s50 wr => ∃ (k n : Nat) (a' : Option Addr) (c' : Nat), k ≤ s.ts.length ∧ s50 = .int .i64 k ∧ s9 = .slice a' n c' ∧ Hid (UseM w ⟨b, q⟩ s k a' n c' wr)) (fun _ s50 _ => s.ts.length - (intOf s50).toNat)
    case atStart => exact ⟨0, 1, _, 1, by omega, rfl, rfl, I0⟩
    case round =>
      obtain ⟨k, n, a', c', hk, rfl, rfl, hJ⟩ := hrel
      clear I0 c3
      obtain ⟨G', j1, j2, j3, j4⟩ := id hJ.out
      have ul := usesK_len ⟨b, q⟩ s.ts k
      by_cases hlt : k < s.ts.length
      · have hx := List.getElem?_eq_getElem hlt
        generalize s.ts[k] = x at hx
        have HRA : Hid (RA wr F p s g off a c G) := hid (H.out.nil j3)
        obtain ⟨rfl, rfl⟩ := H.out.eq hx
        have hgl : g < wr.heap.size := HRA.out.lt g (HRA.out.fg g rfl)
        have x0 := HRA.out.cell hx 0 (by omega)
        have x1 := HRA.out.cell hx 1 (by omega)
        have x2 := HRA.out.cell hx 2 (by omega)
        have x3 := HRA.out.cell hx 3 (by omega)
        have x4 := HRA.out.cell hx 4 (by omega)
        have x5 := HRA.out.cell hx 5 (by omega)
        have x6 := HRA.out.cell hx 6 (by omega)
        have x7 := HRA.out.cell hx 7 (by omega)
        have x8 := HRA.out.cell hx 8 (by omega)
        have x9 := HRA.out.cell hx 9 (by omega)
        have x10 := HRA.out.cell hx 10 (by omega)
        have x11 := HRA.out.cell hx 11 (by omega)
        have x12 := HRA.out.cell hx 12 (by omega)
        have x13 := HRA.out.cell hx 13 (by omega)
        have x14 := HRA.out.cell hx 14 (by omega)
        simp only [stCells, List.getElem?_cons_succ, List.getElem?_cons_zero, Nat.add_zero] at x0 x1 x2 x3 x4 x5 x6 x7 x8 x9 x10 x11 x12 x13 x14
        have UK := hid (@usesK_at ⟨b, q⟩ s.ts k x hx)
        have BX := hid (HB.out x (List.mem_of_getElem? hx))
        clear hx
        by_cases hcl : x.cl = 3
        · have hb3 : (x.cl == 3) = true := by rw [beq_iff_eq]; exact hcl
          obtain ⟨bx1, bx2, bx3⟩ := BX.out hcl
          have UK2 : Hid (usesK ⟨b, q⟩ s.ts (k + 1) = usesK ⟨b, q⟩ s.ts k ++ [useT x]) := hid (by rw [UK.out, if_pos hcl])
          have hcells : [Value.int .i64 x.bu, .int .i64 x.pe] = useCells (useT x) := by
            unfold useCells useT
            simp only
            rw [Int.toNat_of_nonneg (by omega), Int.toNat_of_nonneg (by omega)]
          have HS : Hid (Sl ((wr.alloc (.cells #[.int .i64 x.t, .int .i64 x.cl, .int .i64 x.va, .int .i64 x.mo, .int .i64 x.wi, .int .i64 x.bu, .int .i64 x.pe, .int .i64 x.le, .int .i64 x.du, .int .i64 x.v, .int .i64 x.si, .int .i64 x.pin, .bool x.r, .bool x.o, .int .i64 x.cpu] 67)).alloc (.cells #[.int .i64 x.bu, .int .i64 x.pe] 55)) 55 2 a' n c' ((usesK ⟨b, q⟩ s.ts k).flatMap useCells) G') := hid ((j2.alloc _).alloc _)
          have NB := Blk.new (wr.alloc (.cells #[.int .i64 x.t, .int .i64 x.cl, .int .i64 x.va, .int .i64 x.mo, .int .i64 x.wi, .int .i64 x.bu, .int .i64 x.pe, .int .i64 x.le, .int .i64 x.du, .int .i64 x.v, .int .i64 x.si, .int .i64 x.pin, .bool x.r, .bool x.o, .int .i64 x.cpu] 67)) 55 [.int .i64 x.bu, .int .i64 x.pe]
          rw [show (wr.alloc (.cells #[.int .i64 x.t, .int .i64 x.cl, .int .i64 x.va, .int .i64 x.mo, .int .i64 x.wi, .int .i64 x.bu, .int .i64 x.pe, .int .i64 x.le, .int .i64 x.du, .int .i64 x.v, .int .i64 x.si, .int .i64 x.pin, .bool x.r, .bool x.o, .int .i64 x.cpu] 67)).heap.size = wr.heap.size + 1 by simp] at NB
          have HN0 := Rd.of_blk (n := 1) (s := 2) NB rfl (by decide)
          have HN := hid HN0
          have hone : Hid (∀ u ∈ [Value.int .i64 x.bu, .int .i64 x.pe], u.oneCell' = true) := hid (by rw [hcells]; exact use_one (useT x))
          have HCE := hid hcells
          have CW := hid (((Chg.refl Nil wr).alloc (.cells #[.int .i64 x.t, .int .i64 x.cl, .int .i64 x.va, .int .i64 x.mo, .int .i64 x.wi, .int .i64 x.bu, .int .i64 x.pe, .int .i64 x.le, .int .i64 x.du, .int .i64 x.v, .int .i64 x.si, .int .i64 x.pin, .bool x.r, .bool x.o, .int .i64 x.cpu] 67)).alloc (.cells #[.int .i64 x.bu, .int .i64 x.pe] 55))
          have J3 := hid j3
          have J4 := hid j4
          have J1 := hid j1
          have hn1 : n + 1 ≤ 4294967296 := by omega
          clear hcl UK BX HN0 NB hcells j1 j2 j3 j4 hJ HRA
          have h16 : 16 ≤ 4096 := by omega
          go_wp2_with (at_builtin; refine wpList_append_sl rfl _ _ eUse rfl rfl rfl HS.out HN.out hone.out hn1 h16 ?_; intro a2 c2 w2 G2 q1 q2 q3; replace q1 := hid q1; replace q2 := hid q2; replace q3 := hid q3)
          go_roundw
          case rel =>
            refine ⟨k + 1, n + 1, a2, c2, by omega, by go_num, rfl, G2, ?_, ?_, ?_, ?_⟩
            · rw [UK2.out, List.length_append, ← J1.out]; rfl
            · have h1 := q1.out
              rw [UK2.out, List.flatMap_append]
              have e : [useT x].flatMap useCells = useCells (useT x) := by simp
              rw [e, ← HCE.out]
              exact h1
            · refine (J3.out.trans CW.out (fun _ _ h => h)).trans q2.out (fun i hi hG => ?_)
              have := J4.out i hG
              omega
            · intro g2 hg2
              rcases q3.out with h | h
              · rw [h] at hg2; exact J4.out g2 hg2
              · rw [h] at hg2
                injection hg2 with hg2
                have h1 := J3.out.size
                have h2 := CW.out.size
                omega
          case measure => simp [intOf]; omega
        · have hb3 : (x.cl == 3) = false := by rw [beq_eq_false_iff_ne]; exact hcl
          have UK2 : Hid (usesK ⟨b, q⟩ s.ts (k + 1) = usesK ⟨b, q⟩ s.ts k) := hid (by rw [UK.out, if_neg hcl])
          have HZ : Hid (UseM w ⟨b, q⟩ s (k + 1) a' n c' (wr.alloc (.cells #[.int .i64 x.t, .int .i64 x.cl, .int .i64 x.va, .int .i64 x.mo, .int .i64 x.wi, .int .i64 x.bu, .int .i64 x.pe, .int .i64 x.le, .int .i64 x.du, .int .i64 x.v, .int .i64 x.si, .int .i64 x.pin, .bool x.r, .bool x.o, .int .i64 x.cpu] 67))) := hid ⟨G', by rw [UK2.out]; exact j1, by rw [UK2.out]; exact j2.alloc _, j3.alloc _, j4⟩
          clear hcl UK UK2 BX j1 j2 j3 j4 hJ HRA
          go_wp2
          go_roundw
          case rel => exact ⟨k + 1, n, a', c', by omega, by go_num, rfl, HZ⟩
          case measure => simp [intOf]; omega
      · obtain hks : k = s.ts.length := by omega
        have RD := j2.rd
        have HRA : RA wr F p s g off a c G := H.out.nil j3
        have c0 := HRA.c0
        have FT : Hid (Calls Try.prog 46 #[.slice a' n c', .int .i64 (s.n : Int)] wr (PF (fitsB s ⟨b, q⟩) 0 wr)) := hid (by
          rw [j1] at RD ⊢
          have := fits_ok _ a' c' (usesK ⟨b, q⟩ s.ts k) s.n wr RD (by omega) (HU.out k) n1 n4
          rw [hks] at this ⊢
          exact this)
        have C3 := hid j3
        have HRA' := hid HRA
        clear j1 j2 j3 j4 hJ RD HRA hks
        go_wp2_with fail
        refine FT.out.mono ?_
        rintro e w2 ⟨rfl, hC⟩
        have H2 := hid (HRA'.out.nil hC)
        have C2 := hid (C3.out.trans hC (fun _ _ h => h))
        clear FT hC c0 HRA' C3
        cases hfit : fitsB s ⟨b, q⟩ with
        | false =>
          have E : Hid (s.doDead t b q = (s, 6)) := hid (by unfold SR.doDead; rw [hw0.out]; simp [hfit])
          clear hfit
          go_wp2
          go_ret
          rw [E.out]
          exact ps_ra H2.out (C2.out.mono (fun _ _ h => h.elim))
        | true =>
          have E : Hid (s.doDead t b q = (s.enter (newD s t b q), 0)) := hid (by unfold SR.doDead; rw [hw0.out]; simp [hfit])
          have TM := hid (stime_ok w2 F p s g off a c G H2.out n1 n4 OK.out.tk1 (by have := OK.out.tk2; omega))
          have EN2 := hid (fun w' h => EN.out w' h hw0.out)
          have tm := OK.out.time
          obtain ⟨tm1, tm2⟩ := tm
          clear hfit EN
          go_wp2_with fail
          refine TM.out.mono ?_
          rintro e w3 ⟨rfl, q3, rfl⟩
          have EN3 := hid (EN2.out (w2.drewN q3) ⟨g, off, a, c, G, H2.out.drewN q3⟩)
          clear EN2 TM
          go_wp2_with fail
          refine EN3.out.mono ?_
          rintro e w4 ⟨rfl, F', h1, h2, h3⟩
          replace h1 := hid h1
          replace h2 := hid h2
          replace h3 := hid h3
          go_wp2
          go_ret
          rw [E.out]
          refine ⟨rfl, F', h1.out, ((C2.out.mono (G := F) (fun _ _ h => h.elim)).drewN q3).trans h2.out (fun _ _ h => h), fun k hk => (h3.out k hk).elim .inl (fun h => .inr (Nat.le_trans C2.out.size h))⟩
end Go.Proofs.Ythcgeigijnbpkaa
