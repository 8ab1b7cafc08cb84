/- The contract of the laws' helper play: what it asks of a run, and what it notes. Conditions: a run and its notes; a row of three numbers at least. -/
import Derived.Test.YthcgeigijnbpkaaPlayT
import Derived.Deep.CutBlock
namespace Go.Proofs.Ythcgeigijnbpkaa
open Go.ChangeShapes Go.WideShapes Go.ChangeAt Go.RowKit
set_option linter.unusedVariables false
theorem rest_q (k n : Int) (w : World) (h1 : 1 ≤ n) (h2 : n ≤ 9223372036854775807) : Calls Try.prog 12 #[.int .i64 k, .int .i64 n] w fun e w' => e = .returned (.int .i64 (rest k n)) ∧ w' = w :=
  (rest_any k n w h1 h2).mono (by rintro e w' ⟨rfl, rfl⟩; exact ⟨rfl, rfl⟩)
set_option maxRecDepth 100000 in
set_option maxHeartbeats 2000000 in
theorem play_ok (w0 : World) (R : Nat → Prop) (p b c : Nat) (M : Int) (a : Option Addr) (n cc : Nat) (l : List Int) (w : World) (h : PlM w0 p b c M w) (hM : M ≤ 1000000) (hr : Rd w R 1 a n cc (ints .i64 l)) (hn : 3 ≤ n) (hc : c ≤ 4) :
    Calls Try.prog 25 #[.pointer (some ⟨b, 0, none⟩), .pointer (some ⟨p, 0, none⟩), .int .i64 c, .slice a n cc] w fun e w' => e = .returned (.tuple #[]) ∧ PlM w0 p b c (M + 1) w' := by
  obtain rfl := hr.ilen
  obtain ⟨g, off, rfl, _, _, hcl⟩ := hr.at (i := 0) (by omega)
  have l0 := hcl 0 (by omega)
  have l1 := hcl 1 (by omega)
  have l2 := hcl 2 (by omega)
  generalize l[0] = v0 at l0
  generalize l[1] = v1 at l1
  generalize l[2] = v2 at l2
  rw [Nat.add_zero] at l0
  have H := hid h
  have i1 : (1 : Int) < (l.length : Int) := by omega
  have i2 : (2 : Int) < (l.length : Int) := by omega
  have hwr1 := IntWalk.i64_in (1 + rest v1 16) (by have := rest_nonneg v1 16 (by omega); have := rest_lt v1 16 (by omega); omega)
  clear h hr hcl
  go_enter Try.func25, Try.ntmps25
  go_wp2
  go_quiet ((go_at_call 12; exact Calls.quiet_of_same (rest_q _ _ _ (by omega) (by omega))))
  obtain ⟨q, hq⟩ := Int.eq_ofNat_of_zero_le (rest_nonneg v1 16 (by omega))
  have hq16 := rest_lt v1 16 (by omega)
  obtain ⟨t, ht⟩ : ∃ t : Nat, t = q + 1 := ⟨_, rfl⟩
  have hqt : 1 + rest v1 16 = (t : Int) := by omega
  have t1 : 1 ≤ t := by omega
  have t2 : t ≤ 16 := by omega
  rw [hqt]
  clear hq hq16 ht hqt hwr1
  replace H := hid (H.out.drewN nq)
  have l0' : (World.drewN w nq).cell? ⟨g, off, none⟩ = some (.int .i64 v0) := l0
  clear l0 l1 l2
  generalize World.drewN w nq = w1 at H l0' ⊢
  go_wp2_with fail
  refine (rest_nat v0 14 _ (by omega) (by omega)).mono ?_
  rintro e w2 ⟨m, hm, rfl, rfl⟩
  clear l0'
  have hM2 : M ≤ 1000000 := hM
  have tI : (t : Int) < 17 := by omega
  have c1 : 1 ≤ c := by obtain ⟨s, o, _, _, hp⟩ := H.out; rw [← hp.nn]; exact hp.ok.n1
  have P1 : (1 : Int) ≤ 2 ^ c := by exact_mod_cast (Nat.one_le_two_pow : 1 ≤ 2 ^ c)
  have P2 : (2 : Int) ^ c ≤ 16 := by exact_mod_cast (Nat.pow_le_pow_right (n := 2) (by omega) hc : 2 ^ c ≤ 2 ^ 4)
  have P : Hid ((2 : Int) ^ c - 1 = ((2 ^ c - 1 : Nat) : Int)) := hid (by
    have e : ((2 ^ c : Nat) : Int) = (2 : Int) ^ c := by exact_mod_cast rfl
    have : 1 ≤ 2 ^ c := Nat.one_le_two_pow
    omega)
  clear hM
  have hs : m = 0 ∨ m = 1 ∨ m = 2 ∨ m = 3 ∨ m = 4 ∨ m = 5 ∨ m = 6 ∨ m = 7 ∨ m = 8 ∨ 9 ≤ m := by omega
  rcases hs with rfl | rfl | rfl | rfl | rfl | rfl | rfl | rfl | rfl | h9
  · go_upto_region 5 with (go_at_call 12; refine (rest_nat _ 2 _ (by omega) (by omega)).mono ?_; rintro e w3 ⟨q, hq, rfl, rfl⟩)
    go_wp2_with fail
    refine (rest_nat _ 7 _ (by omega) (by omega)).mono ?_
    rintro e w3 ⟨u, hu, rfl, rfl⟩
    have CL := hid (pq_add H.out hM2 t1 t2 (cl := 1 + (q : Int)) (va := 1 + (u : Int)) (by
      unfold valB
      split
      · simp; omega
      · rw [if_pos (by omega)]; simp; omega))
    go_wp2_with fail
    refine CL.out.mono ?_
    rintro e w3 ⟨r, rfl, ⟨hr, hp⟩ | ⟨rfl, s, o, hx, hb, hp⟩⟩
    · replace hp := hid hp
      have hr2 : (r == 0) = false := by simp [hr]
      clear CL
      go_wp2
      go_end0
      exact ⟨rfl, hp.out⟩
    · have g0 := hb.cell (t)
      rw [note_is o (by omega)] at g0
      have f0 := hb.frozen (t)
      have g1 := hb.cell (17 + t)
      rw [note_rd o (by omega)] at g1
      have f1 := hb.frozen (17 + t)
      have g2 := hb.cell (34 + t)
      rw [note_dd o (by omega)] at g2
      have f2 := hb.frozen (34 + t)
      have g3 := hb.cell (51 + t)
      rw [note_mo o (by omega)] at g3
      have f3 := hb.frozen (51 + t)
      have g4 := hb.cell (68 + t)
      rw [note_pn o (by omega)] at g4
      have f4 := hb.frozen (68 + t)
      replace hx := hid hx
      replace hb := hid hb
      replace hp := hid hp
      clear CL
      go_upto_region 6 with fail
      go_region
      go_end0
      obtain ⟨x0, y0⟩ := pln_put hx.out hb.out (i := t) (v := .bool true) (note_sis _ (by omega) _)
      obtain ⟨x1, y1⟩ := pln_put x0 y0 (i := 17 + t) (v := .bool true) (note_srd _ (by omega) _)
      obtain ⟨x2, y2⟩ := pln_put x1 y1 (i := 34 + t) (v := .bool false) (note_sdd _ (by omega) _)
      obtain ⟨x3, y3⟩ := pln_put x2 y2 (i := 51 + t) (v := .bool false) (note_smo _ (by omega) _)
      obtain ⟨x4, y4⟩ := pln_put x3 y3 (i := 68 + t) (v := .int .i64 ((2 : Int) ^ c - 1)) (note_spn _ (by omega) _)
      refine ⟨rfl, s, _, x4.chgNil ((Chg.refl Nil _).drew), ?_, hp.out⟩
      rw [← P.out]
      exact y4.drew
  · go_wp2_with fail
    refine (rest_nat _ 10 _ (by omega) (by omega)).mono ?_
    rintro e w3 ⟨u, hu, rfl, rfl⟩
    have CL := hid (pq_dead H.out hM2 t1 t2 (b' := 1) (q := 2 + u) (by omega) (by omega) (by omega))
    rw [show ((2 + u : Nat) : Int) = 2 + (u : Int) by omega] at CL
    go_wp2_with fail
    refine CL.out.mono ?_
    rintro e w3 ⟨r, rfl, ⟨hr, hp⟩ | ⟨rfl, s, o, hx, hb, hp⟩⟩
    · replace hp := hid hp
      have hr2 : (r == 0) = false := by simp [hr]
      clear CL
      go_wp2
      go_end0
      exact ⟨rfl, hp.out⟩
    · have g0 := hb.cell (t)
      rw [note_is o (by omega)] at g0
      have f0 := hb.frozen (t)
      have g1 := hb.cell (17 + t)
      rw [note_rd o (by omega)] at g1
      have f1 := hb.frozen (17 + t)
      have g2 := hb.cell (34 + t)
      rw [note_dd o (by omega)] at g2
      have f2 := hb.frozen (34 + t)
      have g3 := hb.cell (51 + t)
      rw [note_mo o (by omega)] at g3
      have f3 := hb.frozen (51 + t)
      have g4 := hb.cell (68 + t)
      rw [note_pn o (by omega)] at g4
      have f4 := hb.frozen (68 + t)
      replace hx := hid hx
      replace hb := hid hb
      replace hp := hid hp
      clear CL
      go_upto_region 9 with fail
      go_region
      go_end0
      obtain ⟨x0, y0⟩ := pln_put hx.out hb.out (i := t) (v := .bool true) (note_sis _ (by omega) _)
      obtain ⟨x1, y1⟩ := pln_put x0 y0 (i := 17 + t) (v := .bool true) (note_srd _ (by omega) _)
      obtain ⟨x2, y2⟩ := pln_put x1 y1 (i := 34 + t) (v := .bool true) (note_sdd _ (by omega) _)
      obtain ⟨x3, y3⟩ := pln_put x2 y2 (i := 51 + t) (v := .bool false) (note_smo _ (by omega) _)
      obtain ⟨x4, y4⟩ := pln_put x3 y3 (i := 68 + t) (v := .int .i64 ((2 : Int) ^ c - 1)) (note_spn _ (by omega) _)
      refine ⟨rfl, s, _, x4.chgNil ((Chg.refl Nil _).drew), ?_, hp.out⟩
      rw [← P.out]
      exact y4.drew
  · have CL := hid (pq_leave H.out t1 t2)
    go_wp2_with fail
    refine CL.out.mono ?_
    rintro e w3 ⟨r, rfl, ⟨hr, hp⟩ | ⟨rfl, s, o, hx, hb, hp⟩⟩
    · replace hp := hid hp
      have hr2 : (r == 0) = false := by simp [hr]
      clear CL
      go_wp2
      go_end0
      exact ⟨rfl, hp.out⟩
    · have g0 := hb.cell (t)
      rw [note_is o (by omega)] at g0
      have f0 := hb.frozen (t)
      have g1 := hb.cell (17 + t)
      rw [note_rd o (by omega)] at g1
      have f1 := hb.frozen (17 + t)
      replace hx := hid hx
      replace hb := hid hb
      replace hp := hid hp
      clear CL
      go_upto_region 12 with fail
      go_region
      go_end0
      obtain ⟨x0, y0⟩ := pln_put hx.out hb.out (i := t) (v := .bool false) (note_sis _ (by omega) _)
      obtain ⟨x1, y1⟩ := pln_put x0 y0 (i := 17 + t) (v := .bool false) (note_srd _ (by omega) _)
      refine ⟨rfl, s, _, x1.chgNil ((Chg.refl Nil _).drew), ?_, hp.out⟩
      exact y1.drew
  · have CL := hid (pq_block H.out t1 t2)
    go_wp2_with fail
    refine CL.out.mono ?_
    rintro e w3 ⟨r, rfl, ⟨hr, hp⟩ | ⟨rfl, s, o, hx, hb, hp⟩⟩
    · replace hp := hid hp
      have hr2 : (r == 0) = false := by simp [hr]
      clear CL
      go_wp2
      go_end0
      exact ⟨rfl, hp.out⟩
    · have g0 := hb.cell (17 + t)
      rw [note_rd o (by omega)] at g0
      have f0 := hb.frozen (17 + t)
      replace hx := hid hx
      replace hb := hid hb
      replace hp := hid hp
      clear CL
      go_upto_region 15 with fail
      go_wp2
      go_end0
      obtain ⟨x0, y0⟩ := pln_put hx.out hb.out (i := 17 + t) (v := .bool false) (note_srd _ (by omega) _)
      refine ⟨rfl, s, _, x0, y0, hp.out⟩
  · have CL := hid (pq_wake H.out hM2 t1 t2)
    go_wp2_with fail
    refine CL.out.mono ?_
    rintro e w3 ⟨r, rfl, ⟨hr, hp⟩ | ⟨rfl, s, o, hx, hb, hp⟩⟩
    · replace hp := hid hp
      have hr2 : (r == 0) = false := by simp [hr]
      clear CL
      go_wp2
      go_end0
      exact ⟨rfl, hp.out⟩
    · have g0 := hb.cell (17 + t)
      rw [note_rd o (by omega)] at g0
      have f0 := hb.frozen (17 + t)
      replace hx := hid hx
      replace hb := hid hb
      replace hp := hid hp
      clear CL
      go_upto_region 19 with fail
      go_wp2
      go_end0
      obtain ⟨x0, y0⟩ := pln_put hx.out hb.out (i := 17 + t) (v := .bool true) (note_srd _ (by omega) _)
      refine ⟨rfl, s, _, x0, y0, hp.out⟩
  · have CL := hid (pq_wake H.out hM2 t1 t2)
    go_wp2_with fail
    refine CL.out.mono ?_
    rintro e w3 ⟨r, rfl, ⟨hr, hp⟩ | ⟨rfl, s, o, hx, hb, hp⟩⟩
    · replace hp := hid hp
      have hr2 : (r == 0) = false := by simp [hr]
      clear CL
      go_wp2
      go_end0
      exact ⟨rfl, hp.out⟩
    · have g0 := hb.cell (17 + t)
      rw [note_rd o (by omega)] at g0
      have f0 := hb.frozen (17 + t)
      replace hx := hid hx
      replace hb := hid hb
      replace hp := hid hp
      clear CL
      go_upto_region 19 with fail
      go_wp2
      go_end0
      obtain ⟨x0, y0⟩ := pln_put hx.out hb.out (i := 17 + t) (v := .bool true) (note_srd _ (by omega) _)
      refine ⟨rfl, s, _, x0, y0, hp.out⟩
  · have P0 : (2 : Int) ≤ 2 ^ c := by
      have : 2 ^ 1 ≤ 2 ^ c := Nat.pow_le_pow_right (by omega) c1
      exact_mod_cast this
    go_upto_region 22 with (go_at_call 12; refine (rest_nat _ _ _ (by omega) (by omega)).mono ?_; rintro e w3 ⟨u, hu, rfl, rfl⟩)
    have hu2 : 1 + u < 2 ^ c := by
      have e : ((2 ^ c : Nat) : Int) = (2 : Int) ^ c := by exact_mod_cast rfl
      omega
    have CL := hid (pq_pin H.out hM2 t1 t2 (m := 1 + u) (by omega) hu2)
    rw [show ((1 + u : Nat) : Int) = 1 + (u : Int) by omega] at CL
    go_wp2_with fail
    refine CL.out.mono ?_
    rintro e w3 ⟨r, rfl, ⟨hr, hp⟩ | ⟨rfl, s, o, hx, hb, hp⟩⟩
    · replace hp := hid hp
      have hr2 : (r == 0) = false := by simp [hr]
      clear CL
      go_wp2
      go_end0
      exact ⟨rfl, hp.out⟩
    · have g0 := hb.cell (68 + t)
      rw [note_pn o (by omega)] at g0
      have f0 := hb.frozen (68 + t)
      replace hx := hid hx
      replace hb := hid hb
      replace hp := hid hp
      clear CL
      go_upto_region 23 with fail
      go_wp2
      go_end0
      obtain ⟨x0, y0⟩ := pln_put hx.out hb.out (i := 68 + t) (v := .int .i64 (1 + (u : Int))) (note_spn _ (by omega) _)
      refine ⟨rfl, s, _, x0, y0, hp.out⟩
  · go_wp2_with fail
    refine (rest_nat _ 8 _ (by omega) (by omega)).mono ?_
    rintro e w3 ⟨u, hu, rfl, rfl⟩
    have CL := hid (pq_boost H.out t1 t2 (va := (u : Int)) (by omega) (by omega))
    go_wp2_with fail
    refine CL.out.mono ?_
    rintro e w3 ⟨r, rfl, ⟨hr, hp⟩ | ⟨rfl, s, o, hx, hb, hp⟩⟩
    · replace hp := hid hp
      have hr2 : (r == 0) = false := by simp [hr]
      clear CL
      go_wp2
      go_end0
      exact ⟨rfl, hp.out⟩
    · have g0 := hb.cell (51 + t)
      rw [note_mo o (by omega)] at g0
      have f0 := hb.frozen (51 + t)
      replace hx := hid hx
      replace hb := hid hb
      replace hp := hid hp
      clear CL
      go_upto_region 26 with fail
      go_wp2
      go_end0
      obtain ⟨x0, y0⟩ := pln_put hx.out hb.out (i := 51 + t) (v := .bool true) (note_smo _ (by omega) _)
      refine ⟨rfl, s, _, x0, y0, hp.out⟩
  · have CL := hid (pq_calm H.out hM2 t1 t2)
    go_wp2_with fail
    refine CL.out.mono ?_
    rintro e w3 ⟨r, rfl, ⟨hr, hp⟩ | ⟨rfl, s, o, hx, hb, hp⟩⟩
    · replace hp := hid hp
      have hr2 : (r == 0) = false := by simp [hr]
      clear CL
      go_wp2
      go_end0
      exact ⟨rfl, hp.out⟩
    · have g0 := hb.cell (51 + t)
      rw [note_mo o (by omega)] at g0
      have f0 := hb.frozen (51 + t)
      replace hx := hid hx
      replace hb := hid hb
      replace hp := hid hp
      clear CL
      go_upto_region 29 with fail
      go_wp2
      go_end0
      obtain ⟨x0, y0⟩ := pln_put hx.out hb.out (i := 51 + t) (v := .bool false) (note_smo _ (by omega) _)
      refine ⟨rfl, s, _, x0, y0, hp.out⟩
  · have b0 : ((m : Int) == 0) = false := by rw [beq_eq_false_iff_ne]; omega
    have b1 : ((m : Int) == 1) = false := by rw [beq_eq_false_iff_ne]; omega
    have b2 : ((m : Int) == 2) = false := by rw [beq_eq_false_iff_ne]; omega
    have b3 : ((m : Int) == 3) = false := by rw [beq_eq_false_iff_ne]; omega
    have b4 : ((m : Int) == 4) = false := by rw [beq_eq_false_iff_ne]; omega
    have b5 : ((m : Int) == 5) = false := by rw [beq_eq_false_iff_ne]; omega
    have b6 : ((m : Int) == 6) = false := by rw [beq_eq_false_iff_ne]; omega
    have b7 : ((m : Int) == 7) = false := by rw [beq_eq_false_iff_ne]; omega
    have b8 : ((m : Int) == 8) = false := by rw [beq_eq_false_iff_ne]; omega
    go_wp2_with fail
    refine (rest_nat _ (c : Int) _ (by omega) (by omega)).mono ?_
    rintro e w3 ⟨u, hu, rfl, rfl⟩
    have CL := hid (pq_tick H.out hM2 u (by omega))
    go_wp2_with fail
    refine CL.out.mono ?_
    rintro e w3 ⟨rfl, hp⟩
    replace hp := hid hp
    go_wp2
    go_end0
    exact ⟨rfl, hp.out⟩
end Go.Proofs.Ythcgeigijnbpkaa
