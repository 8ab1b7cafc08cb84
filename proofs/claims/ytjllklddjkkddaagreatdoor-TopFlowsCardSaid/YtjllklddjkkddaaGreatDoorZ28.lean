/- Contracts of package spread: Wake. Conditions: a run as it may be. -/
import Derived.Test.YtjllklddjkkddaaGreatDoorZ27
namespace Go.Proofs.YtjllklddjkkddaaGreatDoor
open Go.ChangeShapes Go.WideShapes Go.ChangeAt Go.RowKit
set_option linter.unusedVariables false
theorem wake_tail {W : World} {F : Nat → Prop} {p : Nat} {s : SR} {g off : Nat} {a : Option Addr} {c : Nat} {G : Option Nat} {i : Nat} {x y : ST} {M : Int} (D : RA W F p { s with ts := s.ts.set i y } g off a c G) (hx : s.ts[i]? = some x) (hy : ({ y with r := true } : ST) = wokS s x) (hok : SOk M s) (hM : M ≤ 1000000) :
    W.cell? ⟨g, off + i * 15 + 12, none⟩ = some (.bool y.r) ∧ W.frozen? ⟨g, off + i * 15 + 12, none⟩ = false ∧
    Calls Tryz.prog 141 #[.pointer (some ⟨p, 0, none⟩), .pointer (some ⟨g, off + i * 15, none⟩)] (W.setCell ⟨g, off + i * 15 + 12, none⟩ (.bool true)) fun e w' => e = .returned (.tuple #[]) ∧ Chg F W w' ∧
      Calls Tryz.prog 142 #[.pointer (some ⟨p, 0, none⟩)] w' fun e w'' => e = .returned (.tuple #[]) ∧ RA w'' F p (s.wake i) g off a c G ∧ Chg F w' w'' := by
  have k12 := D.cell (i := i) (x := y) (set_get hx) 12 (by omega)
  have hlen : 0 < (s.ts.set i y).length := by rw [List.length_set]; have := (List.getElem?_eq_some_iff.1 hx).1; omega
  have D1 := D.put (i := i) (x := y) (y := { y with r := true }) (u := .bool true) (set_get hx) (j := 12) (by omega) rfl
  have e : ({ s with ts := (s.ts.set i y).set i { y with r := true } } : SR) = { s with ts := upd s.ts i (wokS s) } := by rw [set_set, upd_of hx, hy]
  rw [show ({ ({ s with ts := s.ts.set i y } : SR) with ts := (s.ts.set i y).set i { y with r := true } } : SR) = { s with ts := upd s.ts i (wokS s) } from e] at D1
  have hx2 : (upd s.ts i (wokS s))[i]? = some (wokS s x) := by rw [upd_get, if_pos rfl, hx]; rfl
  have OK2 := hok.upd (i := i) (f := wokS s) (Int.le_refl _) (fun x _ hx => wok_ok hok hx)
  refine ⟨k12, D.free hlen _, ?_⟩
  have hF : F g := D.gF (i := i) (x := y) (set_get hx)
  refine (swait_ok _ F p _ g off a c G D1 i _ hx2 OK2.st1 (by have := OK2.st2; omega)).mono ?_
  rintro e w' ⟨rfl, h1, h2⟩
  refine ⟨rfl, ((Chg.refl F W).setCell (p := ⟨g, off + i * 15 + 12, none⟩) (.inl hF) _).trans h2 (fun _ _ h => h), ?_⟩
  exact sfill_ok w' F p _ g off a c G h1 (M + 1) (OK2.wait i)
/-- The two products of Wake stay small. -/
theorem wk_small {d now b l pe : Int} (h1 : 0 ≤ d) (h2 : d ≤ 2000000) (h3 : 0 ≤ now) (h4 : now ≤ 2000000) (h5 : 0 ≤ b) (h6 : b ≤ 30) (h7 : 0 ≤ l) (h8 : l ≤ 30) (h9 : 0 ≤ pe) (h10 : pe ≤ 30) :
    IntKind.i64.wrap ((d - now) * b) = (d - now) * b ∧ IntKind.i64.wrap (l * pe) = l * pe ∧ wrap64 ((d - now) * b) = (d - now) * b ∧ wrap64 (l * pe) = l * pe := by
  have a1 : (d - now) * b ≤ 2000000 * 30 := by
    have e1 : (d - now) * b ≤ 2000000 * b := Int.mul_le_mul_of_nonneg_right (by omega) h5
    omega
  have a2 : -(2000000 * 30) ≤ (d - now) * b := by
    have e1 : -2000000 * b ≤ (d - now) * b := Int.mul_le_mul_of_nonneg_right (by omega) h5
    omega
  have a3 : l * pe ≤ 30 * 30 := by
    have e1 : l * pe ≤ 30 * pe := Int.mul_le_mul_of_nonneg_right h8 h9
    omega
  have a4 : 0 ≤ l * pe := Int.mul_nonneg h7 h9
  exact ⟨IntWalk.i64_in _ (by omega), IntWalk.i64_in _ (by omega), IntWalk.wrap64_in _ ⟨by omega, by omega⟩, IntWalk.wrap64_in _ ⟨by omega, by omega⟩⟩
/-- What Wake makes of a task, case by case. -/
theorem wok_fair0 {s : SR} {x : ST} (h : x.cl = 1) (hl : lowI s.ts = none) : ({ x with r := true } : ST) = wokS s x := by
  unfold wokS; rw [if_pos h, hl]; simp [h]
theorem wok_fair1 {s : SR} {x : ST} {m : Int} (h : x.cl = 1) (hl : lowI s.ts = some m) : ({ ({ x with v := max x.v m } : ST) with r := true } : ST) = wokS s x := by
  unfold wokS; rw [if_pos h, hl]; simp [h]
theorem wok_else {s : SR} {x : ST} (h : x.cl ≠ 1) (h3 : ¬ (x.cl = 3 ∧ x.o = false ∧ (x.du ≤ s.time ∨ (x.du - s.time) * x.bu < x.le * x.pe))) : ({ x with r := true } : ST) = wokS s x := by
  unfold wokS; rw [if_neg h]; simp only; rw [if_neg h3]
theorem wok_dead {s : SR} {x : ST} (h : x.cl ≠ 1) (h3 : x.cl = 3 ∧ x.o = false ∧ (x.du ≤ s.time ∨ (x.du - s.time) * x.bu < x.le * x.pe)) : ({ ({ x with le := x.bu, du := s.time + x.pe } : ST) with r := true } : ST) = wokS s x := by
  unfold wokS; rw [if_neg h]; simp only; rw [if_pos h3]
set_option maxRecDepth 100000 in
set_option maxHeartbeats 2000000 in
theorem swake_any (w : World) (F : Nat → Prop) (p : Nat) (s : SR) (h : RunAt w F p s) (M : Int) (hok : SOk M s) (hM : M ≤ 1000000) (t : Int) :
    Calls Tryz.prog 225 #[.pointer (some ⟨p, 0, none⟩), .int .i64 t] w (PS F p (s.doWake t).1 (s.doWake t).2 w) := by
  have HR := hid h
  obtain ⟨g, off, a, c, G, h⟩ := h
  have FN := hid (sfind_ok w F p s g off a c G h hok.len t)
  have LW := hid (slow_ok w F p s g off a c G h hok.len)
  have H := hid h
  have OK := hid hok
  clear hok h
  cases hf : fndI s.ts t with
  | none =>
    have E : Hid (s.doWake t = (s, 4)) := hid (by unfold SR.doWake; rw [who_none hf])
    rw [hf] at FN
    rw [E.out]
    unfold elV at FN
    clear hf
    go_enter Tryz.func225, Tryz.ntmps225
    go_wp2_with fail
    refine FN.out.mono ?_
    rintro e w1 ⟨rfl, hw⟩
    subst hw
    go_wp2
    go_ret
    exact ps_same (w' := w) HR.out 0
  | some i =>
    rw [hf] at FN
    obtain ⟨x, hx, _⟩ := fnd_get hf
    have x12 := H.out.cell hx 12 (by omega)
    simp only [stCells, List.getElem?_cons_succ, List.getElem?_cons_zero] at x12
    unfold elV at FN
    cases hr : x.r with
    | true =>
      have E : Hid (s.doWake t = (s, 8)) := hid (by unfold SR.doWake; rw [who_some hf hx]; simp [hr])
      rw [E.out]
      rw [hr] at x12
      clear hf hx hr
      go_enter Tryz.func225, Tryz.ntmps225
      go_wp2_with fail
      refine FN.out.mono ?_
      rintro e w1 ⟨rfl, hw⟩
      subst hw
      go_wp2
      go_ret
      exact ps_same (w' := w) HR.out 0
    | false =>
      have E : Hid (s.doWake t = (s.wake i, 0)) := hid (by unfold SR.doWake; rw [who_some hf hx]; simp [hr])
      rw [E.out]
      rw [hr] at x12
      have TM : Hid (∀ W s', RA W F p s' g off a c G → s'.n = s.n → s'.tk = s.tk → Calls Tryz.prog 290 #[.pointer (some ⟨p, 0, none⟩)] W fun e w' => e = .returned (.int .i64 s.time) ∧ ∃ q, w' = W.drewN q) := hid (fun W s' h' e1 e2 => by
        have n1 := OK.out.n1
        have n2 := OK.out.n2
        have k1 := OK.out.tk1
        have k2 := OK.out.tk2
        have := stime_ok W F p s' g off a c G h' (by omega) (by omega) (by omega) (by omega)
        have e3 : s'.time = s.time := by unfold SR.time; rw [e1, e2]
        rwa [e3] at this)
      have tm := OK.out.time
      have XO := OK.out.each x (List.mem_of_getElem? hx)
      have d1 := XO.d1
      have d2 := XO.d2
      have b1 := XO.b1
      have b2 := XO.b2
      have l1 := XO.l1
      have l2 := XO.l2
      have p1 := XO.p1
      have p2 := XO.p2
      have v1 := XO.v1
      have v2 := XO.v2
      have HX := hid hx
      clear hf XO hx
      obtain ⟨t1, t2⟩ := tm
      go_enter Tryz.func225, Tryz.ntmps225
      go_wp2_with fail
      refine FN.out.mono ?_
      rintro e w1 ⟨rfl, hw⟩
      subst hw
      clear FN
      go_wp2_with fail
      refine LW.out.mono ?_
      rintro e w2 ⟨rfl, hC⟩
      have H2 := hid (H.out.nil hC)
      have C0 := hid (hC.mono (G := F) (fun _ _ h => h.elim))
      have x1 := H2.out.cell HX.out 1 (by omega)
      have x9 := H2.out.cell HX.out 9 (by omega)
      have f9 := H2.out.free (by have := (List.getElem?_eq_some_iff.1 HX.out).1; omega) (off + i * 15 + 9)
      simp only [stCells, List.getElem?_cons_succ, List.getElem?_cons_zero] at x1 x9
      have LV : Hid (∀ m, lowI s.ts = some m → 0 ≤ m ∧ m ≤ M * 1048576) := hid (fun m hm => lowI_ok OK.out hm)
      clear LW hC hr x12
      by_cases hcl : x.cl = 1
      · have hb1 : (x.cl == 1) = true := by rw [beq_iff_eq]; exact hcl
        have hb3 : (x.cl == 3) = false := by rw [beq_eq_false_iff_ne]; omega
        have HCL := hid hcl
        clear hcl
        cases hlo : lowI s.ts with
        | none =>
          have YE := hid (wok_fair0 HCL.out hlo)
          have D : Hid (RA w2 F p { s with ts := s.ts.set i x } g off a c G) := hid (by rw [set_same HX.out]; exact H2.out)
          have TM2 := hid (TM.out w2 _ H2.out rfl rfl)
          replace hlo := hid hlo
          simp only [Option.isSome_none, lowV]
          go_wp2_with fail
          refine TM2.out.mono ?_
          rintro e w3 ⟨rfl, q, rfl⟩
          replace D := hid (D.out.drewN q)
          have C := hid (C0.out.drewN q)
          clear TM TM2 x9 f9 H2 C0
          have x1' := D.out.cell (i := i) (x := x) (set_get HX.out) 1 (by omega)
          simp only [stCells, List.getElem?_cons_succ, List.getElem?_cons_zero] at x1'
          go_wp2
          go_quiet (fail)
          replace D := hid (D.out.drewN nq)
          replace C := hid (C.out.drewN nq)
          clear x1 x1'
          generalize (w2.drewN q).drewN nq = W at D C ⊢
          obtain ⟨k12, f12, WT⟩ := wake_tail D.out HX.out YE.out OK.out hM
          replace WT := hid WT
          clear D YE
          go_wp2_with fail
          refine WT.out.mono ?_
          rintro e w8 ⟨rfl, h1, h2⟩
          replace h1 := hid h1
          replace h2 := hid h2
          clear WT
          go_wp2_with fail
          refine h2.out.mono ?_
          rintro e w9 ⟨rfl, h3, h4⟩
          replace h3 := hid h3
          replace h4 := hid h4
          clear h2
          go_wp2
          go_ret
          exact ps_ra h3.out ((C.out.trans h1.out (fun _ _ h => h)).trans h4.out (fun _ _ h => h))
        | some m =>
          obtain ⟨m1, m2⟩ := LV.out m hlo
          have YE := hid (wok_fair1 HCL.out hlo)
          replace hlo := hid hlo
          simp only [Option.isSome_some, lowV]
          obtain ⟨V, hV⟩ : ∃ V, V = max x.v m := ⟨_, rfl⟩
          rw [← hV] at YE
          have D := hid (H2.out.put (y := { x with v := V }) (u := .int .i64 V) HX.out (j := 9) (by omega) rfl)
          have C := hid (C0.out.setCell (p := ⟨g, off + i * 15 + 9, none⟩) (.inl (H2.out.gF HX.out)) (.int .i64 V))
          have TM2 := hid (TM.out _ _ D.out rfl rfl)
          clear TM LV H2 C0
          by_cases hvm : x.v < m
          · obtain rfl : V = m := by omega
            clear hV
            go_wp2_with fail
            refine TM2.out.mono ?_
            rintro e w3 ⟨rfl, q, rfl⟩
            replace D := hid (D.out.drewN q)
            replace C := hid (C.out.drewN q)
            clear TM2 x1 x9 f9
            generalize (World.setCell w2 _ _).drewN q = W3 at D C ⊢
            have x1 := D.out.cell (i := i) (set_get HX.out) 1 (by omega)
            simp only [stCells, List.getElem?_cons_succ, List.getElem?_cons_zero] at x1
            go_wp2
            go_quiet (fail)
            replace D := hid (D.out.drewN nq)
            replace C := hid (C.out.drewN nq)
            clear x1
            generalize W3.drewN nq = W at D C ⊢
            obtain ⟨k12, f12, WT⟩ := wake_tail D.out HX.out YE.out OK.out hM
            replace WT := hid WT
            clear D YE
            go_wp2_with fail
            refine WT.out.mono ?_
            rintro e w8 ⟨rfl, h1, h2⟩
            replace h1 := hid h1
            replace h2 := hid h2
            clear WT
            go_wp2_with fail
            refine h2.out.mono ?_
            rintro e w9 ⟨rfl, h3, h4⟩
            replace h3 := hid h3
            replace h4 := hid h4
            clear h2
            go_wp2
            go_ret
            exact ps_ra h3.out ((C.out.trans h1.out (fun _ _ h => h)).trans h4.out (fun _ _ h => h))
          · obtain rfl : V = x.v := by omega
            clear hV
            go_wp2_with fail
            refine TM2.out.mono ?_
            rintro e w3 ⟨rfl, q, rfl⟩
            replace D := hid (D.out.drewN q)
            replace C := hid (C.out.drewN q)
            clear TM2 x1 x9 f9
            generalize (World.setCell w2 _ _).drewN q = W3 at D C ⊢
            have x1 := D.out.cell (i := i) (set_get HX.out) 1 (by omega)
            simp only [stCells, List.getElem?_cons_succ, List.getElem?_cons_zero] at x1
            go_wp2
            go_quiet (fail)
            replace D := hid (D.out.drewN nq)
            replace C := hid (C.out.drewN nq)
            clear x1
            generalize W3.drewN nq = W at D C ⊢
            obtain ⟨k12, f12, WT⟩ := wake_tail D.out HX.out YE.out OK.out hM
            replace WT := hid WT
            clear D YE
            go_wp2_with fail
            refine WT.out.mono ?_
            rintro e w8 ⟨rfl, h1, h2⟩
            replace h1 := hid h1
            replace h2 := hid h2
            clear WT
            go_wp2_with fail
            refine h2.out.mono ?_
            rintro e w9 ⟨rfl, h3, h4⟩
            replace h3 := hid h3
            replace h4 := hid h4
            clear h2
            go_wp2
            go_ret
            exact ps_ra h3.out ((C.out.trans h1.out (fun _ _ h => h)).trans h4.out (fun _ _ h => h))
      · have hb1 : (x.cl == 1) = false := by rw [beq_eq_false_iff_ne]; exact hcl
        have HCL := hid hcl
        obtain ⟨lv, hlv⟩ : ∃ lv, lv = lowV (lowI s.ts) := ⟨_, rfl⟩
        obtain ⟨lb, hlb⟩ : ∃ lb, lb = (lowI s.ts).isSome := ⟨_, rfl⟩
        rw [← hlv, ← hlb]
        clear hlv hlb LV
        have D : Hid (RA w2 F p { s with ts := s.ts.set i x } g off a c G) := hid (by rw [set_same HX.out]; exact H2.out)
        have TM2 := hid (TM.out w2 _ H2.out rfl rfl)
        clear TM H2 x9 f9
        cases lb
        all_goals
          go_wp2_with fail
          refine TM2.out.mono ?_
          rintro e w3 ⟨rfl, q, rfl⟩
          replace D := hid (D.out.drewN q)
          have C := hid (C0.out.drewN q)
          clear TM2 x1 C0
          generalize w2.drewN q = W3 at D C ⊢
          have x1 := D.out.cell (i := i) (set_get HX.out) 1 (by omega)
          have x5 := D.out.cell (i := i) (set_get HX.out) 5 (by omega)
          have x6 := D.out.cell (i := i) (set_get HX.out) 6 (by omega)
          have x7 := D.out.cell (i := i) (set_get HX.out) 7 (by omega)
          have x8 := D.out.cell (i := i) (set_get HX.out) 8 (by omega)
          have x13 := D.out.cell (i := i) (set_get HX.out) 13 (by omega)
          simp only [stCells, List.getElem?_cons_succ, List.getElem?_cons_zero] at x1 x5 x6 x7 x8 x13
          by_cases h3 : x.cl = 3
          · have hb3 : (x.cl == 3) = true := by rw [beq_iff_eq]; exact h3
            have HC3 := hid h3
            clear h3 hcl
            cases ho : x.o with
            | true =>
              have YE := hid (wok_else HCL.out (s := s) (x := x) (fun h => by rw [ho] at h; cases h.2.1))
              rw [ho] at x13
              clear ho
              go_wp2
              go_quiet (fail)
              replace D := hid (D.out.drewN nq)
              replace C := hid (C.out.drewN nq)
              clear x1 x5 x6 x7 x8 x13
              generalize W3.drewN nq = W at D C ⊢
              obtain ⟨k12, f12, WT⟩ := wake_tail D.out HX.out YE.out OK.out hM
              replace WT := hid WT
              clear D YE
              go_wp2_with fail
              refine WT.out.mono ?_
              rintro e w8 ⟨rfl, h1, h2⟩
              replace h1 := hid h1
              replace h2 := hid h2
              clear WT
              go_wp2_with fail
              refine h2.out.mono ?_
              rintro e w9 ⟨rfl, h3, h4⟩
              replace h3 := hid h3
              replace h4 := hid h4
              clear h2
              go_wp2
              go_ret
              exact ps_ra h3.out ((C.out.trans h1.out (fun _ _ h => h)).trans h4.out (fun _ _ h => h))
            | false =>
              rw [ho] at x13
              have HO := hid ho
              clear ho
              have hs := wk_small d1 (show x.du ≤ 2000000 by omega) t1 (show s.time ≤ 2000000 by omega) b1 b2 l1 l2 p1 p2
              obtain ⟨hs1, hs2, hs3, hs4⟩ := hs
              have hsum := IntWalk.i64_in (s.time + x.pe) (by omega)
              have hsub := IntWalk.i64_in (x.du - s.time) (by omega)
              by_cases hdn : x.du ≤ s.time
              · have YE := hid (wok_dead HCL.out (s := s) (x := x) ⟨HC3.out, HO.out, .inl hdn⟩)
                go_wp2
                go_quiet (fail)
                replace D := hid (D.out.drewN nq)
                replace C := hid (C.out.drewN nq)
                clear x1 x5 x6 x7 x8 x13 hs1 hs2 hs3 hs4 hsub
                generalize W3.drewN nq = W4 at D C ⊢
                have x5 := D.out.cell (i := i) (set_get HX.out) 5 (by omega)
                have x6 := D.out.cell (i := i) (set_get HX.out) 6 (by omega)
                have x7 := D.out.cell (i := i) (set_get HX.out) 7 (by omega)
                have x8 := D.out.cell (i := i) (set_get HX.out) 8 (by omega)
                have f7 := D.out.free (by show 0 < (s.ts.set i x).length; rw [List.length_set]; have := (List.getElem?_eq_some_iff.1 HX.out).1; omega) (off + i * 15 + 7)
                have f8 := D.out.free (by show 0 < (s.ts.set i x).length; rw [List.length_set]; have := (List.getElem?_eq_some_iff.1 HX.out).1; omega) (off + i * 15 + 8)
                simp only [stCells, List.getElem?_cons_succ, List.getElem?_cons_zero] at x5 x6 x7 x8
                go_wp2
                go_region
                have y1 := D.out.put (i := i) (x := x) (y := { x with le := x.bu }) (u := .int .i64 x.bu) (set_get HX.out) (j := 7) (by omega) rfl
                have y2 := y1.put (i := i) (x := { x with le := x.bu }) (y := { x with le := x.bu, du := s.time + x.pe }) (u := .int .i64 (s.time + x.pe)) (set_get (set_get HX.out)) (j := 8) (by omega) rfl
                rw [show ((s.ts.set i x).set i { x with le := x.bu }).set i { x with le := x.bu, du := s.time + x.pe } = s.ts.set i { x with le := x.bu, du := s.time + x.pe } by rw [set_set, set_set]] at y2
                have hFg := D.out.gF (i := i) (x := x) (set_get HX.out)
                replace D := hid (y2.drewN 1)
                replace C := hid ((((C.out).setCell (p := ⟨g, off + i * 15 + 7, none⟩) (.inl hFg) (.int .i64 x.bu)).setCell (p := ⟨g, off + i * 15 + 8, none⟩) (.inl hFg) (.int .i64 (s.time + x.pe))).drewN 1)
                clear y1 y2 x5 x6 x7 x8 f7 f8 hsum
                change Hid (RA (World.drew (World.setCell (World.setCell W4 _ _) _ _)) _ _ _ _ _ _ _ _) at D
                change Hid (Chg _ _ (World.drew (World.setCell (World.setCell W4 _ _) _ _))) at C
                generalize World.drew (World.setCell (World.setCell W4 _ _) _ _) = W at D C ⊢
                obtain ⟨k12, f12, WT⟩ := wake_tail D.out HX.out YE.out OK.out hM
                replace WT := hid WT
                clear D YE
                go_wp2_with fail
                refine WT.out.mono ?_
                rintro e w8 ⟨rfl, h1, h2⟩
                replace h1 := hid h1
                replace h2 := hid h2
                clear WT
                go_wp2_with fail
                refine h2.out.mono ?_
                rintro e w9 ⟨rfl, h3, h4⟩
                replace h3 := hid h3
                replace h4 := hid h4
                clear h2
                go_wp2
                go_ret
                exact ps_ra h3.out ((C.out.trans h1.out (fun _ _ h => h)).trans h4.out (fun _ _ h => h))
              · by_cases hpr : (x.du - s.time) * x.bu < x.le * x.pe
                · have YE := hid (wok_dead HCL.out (s := s) (x := x) ⟨HC3.out, HO.out, .inr hpr⟩)
                  go_wp2
                  go_quiet (fail)
                  replace D := hid (D.out.drewN nq)
                  replace C := hid (C.out.drewN nq)
                  clear x1 x5 x6 x7 x8 x13 hs1 hs2 hs3 hs4 hsub
                  generalize W3.drewN nq = W4 at D C ⊢
                  have x5 := D.out.cell (i := i) (set_get HX.out) 5 (by omega)
                  have x6 := D.out.cell (i := i) (set_get HX.out) 6 (by omega)
                  have x7 := D.out.cell (i := i) (set_get HX.out) 7 (by omega)
                  have x8 := D.out.cell (i := i) (set_get HX.out) 8 (by omega)
                  have f7 := D.out.free (by show 0 < (s.ts.set i x).length; rw [List.length_set]; have := (List.getElem?_eq_some_iff.1 HX.out).1; omega) (off + i * 15 + 7)
                  have f8 := D.out.free (by show 0 < (s.ts.set i x).length; rw [List.length_set]; have := (List.getElem?_eq_some_iff.1 HX.out).1; omega) (off + i * 15 + 8)
                  simp only [stCells, List.getElem?_cons_succ, List.getElem?_cons_zero] at x5 x6 x7 x8
                  go_wp2
                  go_region
                  have y1 := D.out.put (i := i) (x := x) (y := { x with le := x.bu }) (u := .int .i64 x.bu) (set_get HX.out) (j := 7) (by omega) rfl
                  have y2 := y1.put (i := i) (x := { x with le := x.bu }) (y := { x with le := x.bu, du := s.time + x.pe }) (u := .int .i64 (s.time + x.pe)) (set_get (set_get HX.out)) (j := 8) (by omega) rfl
                  rw [show ((s.ts.set i x).set i { x with le := x.bu }).set i { x with le := x.bu, du := s.time + x.pe } = s.ts.set i { x with le := x.bu, du := s.time + x.pe } by rw [set_set, set_set]] at y2
                  have hFg := D.out.gF (i := i) (x := x) (set_get HX.out)
                  replace D := hid (y2.drewN 1)
                  replace C := hid ((((C.out).setCell (p := ⟨g, off + i * 15 + 7, none⟩) (.inl hFg) (.int .i64 x.bu)).setCell (p := ⟨g, off + i * 15 + 8, none⟩) (.inl hFg) (.int .i64 (s.time + x.pe))).drewN 1)
                  clear y1 y2 x5 x6 x7 x8 f7 f8 hsum
                  change Hid (RA (World.drew (World.setCell (World.setCell W4 _ _) _ _)) _ _ _ _ _ _ _ _) at D
                  change Hid (Chg _ _ (World.drew (World.setCell (World.setCell W4 _ _) _ _))) at C
                  generalize World.drew (World.setCell (World.setCell W4 _ _) _ _) = W at D C ⊢
                  obtain ⟨k12, f12, WT⟩ := wake_tail D.out HX.out YE.out OK.out hM
                  replace WT := hid WT
                  clear D YE
                  go_wp2_with fail
                  refine WT.out.mono ?_
                  rintro e w8 ⟨rfl, h1, h2⟩
                  replace h1 := hid h1
                  replace h2 := hid h2
                  clear WT
                  go_wp2_with fail
                  refine h2.out.mono ?_
                  rintro e w9 ⟨rfl, h3, h4⟩
                  replace h3 := hid h3
                  replace h4 := hid h4
                  clear h2
                  go_wp2
                  go_ret
                  exact ps_ra h3.out ((C.out.trans h1.out (fun _ _ h => h)).trans h4.out (fun _ _ h => h))
                · have YE := hid (wok_else HCL.out (s := s) (x := x) (fun h => h.2.2.elim hdn hpr))
                  go_wp2
                  go_quiet (fail)
                  replace D := hid (D.out.drewN nq)
                  replace C := hid (C.out.drewN nq)
                  clear x1 x5 x6 x7 x8 x13 hs1 hs2 hs3 hs4 hsum hsub
                  generalize W3.drewN nq = W at D C ⊢
                  obtain ⟨k12, f12, WT⟩ := wake_tail D.out HX.out YE.out OK.out hM
                  replace WT := hid WT
                  clear D YE
                  go_wp2_with fail
                  refine WT.out.mono ?_
                  rintro e w8 ⟨rfl, h1, h2⟩
                  replace h1 := hid h1
                  replace h2 := hid h2
                  clear WT
                  go_wp2_with fail
                  refine h2.out.mono ?_
                  rintro e w9 ⟨rfl, h3, h4⟩
                  replace h3 := hid h3
                  replace h4 := hid h4
                  clear h2
                  go_wp2
                  go_ret
                  exact ps_ra h3.out ((C.out.trans h1.out (fun _ _ h => h)).trans h4.out (fun _ _ h => h))
          · have hb3 : (x.cl == 3) = false := by rw [beq_eq_false_iff_ne]; exact h3
            have YE := hid (wok_else HCL.out (s := s) (x := x) (fun h => h3 h.1))
            clear h3 hcl
            go_wp2
            go_quiet (fail)
            replace D := hid (D.out.drewN nq)
            replace C := hid (C.out.drewN nq)
            clear x1 x5 x6 x7 x8 x13
            generalize W3.drewN nq = W at D C ⊢
            obtain ⟨k12, f12, WT⟩ := wake_tail D.out HX.out YE.out OK.out hM
            replace WT := hid WT
            clear D YE
            go_wp2_with fail
            refine WT.out.mono ?_
            rintro e w8 ⟨rfl, h1, h2⟩
            replace h1 := hid h1
            replace h2 := hid h2
            clear WT
            go_wp2_with fail
            refine h2.out.mono ?_
            rintro e w9 ⟨rfl, h3, h4⟩
            replace h3 := hid h3
            replace h4 := hid h4
            clear h2
            go_wp2
            go_ret
            exact ps_ra h3.out ((C.out.trans h1.out (fun _ _ h => h)).trans h4.out (fun _ _ h => h))
end Go.Proofs.YtjllklddjkkddaaGreatDoor
