/- Contracts of package spread: Tick. Conditions: a run as it may be. -/
import Derived.Test.YthcgeigijnbpkaaSpr8
namespace Go.Proofs.Ythcgeigijnbpkaa
open Go.ChangeShapes Go.WideShapes Go.ChangeAt Go.RowKit
set_option linter.unusedVariables false
/-- The first k are done. -/
def mapS (f : ST → ST) (ts : List ST) (k : Nat) : List ST := (ts.take k).map f ++ ts.drop k
theorem mapS_zero (f : ST → ST) (ts : List ST) : mapS f ts 0 = ts := rfl
theorem mapS_len (f : ST → ST) (ts : List ST) (k : Nat) : (mapS f ts k).length = ts.length := by
  unfold mapS; rw [List.length_append, List.length_map, List.length_take, List.length_drop]; omega
theorem mapS_get (f : ST → ST) {ts : List ST} {k : Nat} (h : k < ts.length) : (mapS f ts k)[k]? = some ts[k] := by
  unfold mapS
  rw [List.getElem?_append_right (by rw [List.length_map, List.length_take]; omega), List.length_map, List.length_take, List.getElem?_drop, show k + (k - min k ts.length) = k by omega, List.getElem?_eq_getElem h]
theorem mapS_succ (f : ST → ST) {ts : List ST} {k : Nat} (h : k < ts.length) : (mapS f ts k).set k (f ts[k]) = mapS f ts (k + 1) := by
  unfold mapS
  have hl : ((ts.take k).map f).length = k := by rw [List.length_map, List.length_take]; omega
  rw [List.set_append_right _ _ (by omega), hl, Nat.sub_self, List.take_succ_eq_append_getElem h, List.map_append, List.append_assoc]
  congr 1
  rw [← List.getElem_cons_drop (h := h)]
  rfl
theorem mapS_all (f : ST → ST) {ts : List ST} {k : Nat} (h : ts.length ≤ k) : mapS f ts k = ts.map f := by
  unfold mapS
  rw [List.take_of_length_le h, List.drop_of_length_le h, List.append_nil]
/-- A run on the way through Tick. -/
def TikS (F : Nat → Prop) (p : Nat) (s : SR) (g off : Nat) (a : Option Addr) (c : Nat) (G : Option Nat) (now : Int) (w0 : World) (k : Nat) (w : World) : Prop := RA w F p { s with ts := mapS (refT now) s.ts k } g off a c G ∧ Chg F w0 w
theorem tick1_none {s : SR} {cpu : Int} (h : onI s.ts cpu = none) : s.tick1 cpu = { s with tk := s.tk + 1 } := by unfold SR.tick1; rw [h]
theorem tick1_some {s : SR} {cpu : Int} {i : Nat} {x : ST} (h : onI s.ts cpu = some i) (hx : s.ts[i]? = some x) : s.tick1 cpu = { s with tk := s.tk + 1, ts := s.ts.set i (runT x) } := by unfold SR.tick1; rw [h]; simp only; rw [upd_of hx]
theorem cost_i (v : Int) (w : World) (h1 : 1 ≤ v) (h2 : v ≤ 100) : Calls Try.prog 18 #[.int .i64 v] w fun e w' => e = .returned (.tuple #[.int .i64 (costI v), .int .i64 0]) ∧ w = w' := by
  have hq : (1048576 : Int).tdiv v = 1048576 / v := Int.tdiv_eq_ediv_of_nonneg (by omega)
  have hz : (v == 0) = false := by rw [beq_eq_false_iff_ne]; omega
  have hb := cost_bd h1
  unfold costI at hb ⊢
  obtain ⟨b1, b2⟩ := hb
  go_enter Try.func18, Try.ntmps18
  go_wp2
  go_ret2
  exact ⟨rfl, rfl⟩
set_option maxRecDepth 100000 in
set_option maxHeartbeats 2000000 in
theorem stick_any (w : World) (F : Nat → Prop) (p : Nat) (s : SR) (h : RunAt w F p s) (M : Int) (hok : SOk M s) (hM : M ≤ 1000000) (cpu : Nat) (hc : cpu < s.n) :
    Calls Try.prog 16 #[.pointer (some ⟨p, 0, none⟩), .int .i64 cpu] w (PS F p (s.tick cpu) 0 w) := by
  obtain ⟨g, off, a, c, G, h⟩ := h
  have c0 := h.c0
  have c1 := h.c1
  have f1 := h.fr 1
  have h4 := hok.n2
  have tk1 := hok.tk1
  have tk2 := hok.tk2
  have H1 := hid (h.ticks (s.tk + 1))
  have C1 := hid ((Chg.refl F w).setCell (p := ⟨p, 1, none⟩) (.inl h.fp) (.int .i64 (s.tk + 1)))
  have ON := hid (son_ok _ F p _ g off a c G H1.out hok.len cpu)
  have H := hid h
  have OK := hid hok
  clear hok h
  obtain ⟨w1, hw1⟩ : ∃ w1, w1 = w.setCell ⟨p, 1, none⟩ (.int .i64 (s.tk + 1)) := ⟨_, rfl⟩
  rw [← hw1] at H1 C1 ON
  have HW1 := hid hw1
  clear hw1
  change Hid (Calls _ _ _ _ fun e w' => e = .returned (elV g off (onI s.ts cpu)) ∧ w1 = w') at ON
  go_enter Try.func16, Try.ntmps16
  go_upto_region 4 with fail
  rw [← HW1.out]
  clear HW1
  cases hon : onI s.ts cpu with
  | none =>
    rw [hon] at ON
    have E0 := hid (tick1_none hon)
    obtain ⟨s1, hs1⟩ : ∃ s1 : SR, s1 = { s with tk := s.tk + 1 } := ⟨_, rfl⟩
    have D := H1
    rw [← hs1] at D E0
    have E1 : Hid (s1 = s.tick1 cpu) := hid E0.out.symm
    have OK1 : Hid (SOk (M + 1) s1) := hid (by rw [E1.out]; exact OK.out.tick1 cpu)
    have C := C1
    unfold elV at ON
    clear hon E0 H1 C1 hs1
    go_wp2_with fail
    refine ON.out.mono ?_
    rintro e w2 ⟨rfl, hw⟩
    subst hw
    obtain ⟨W, hW⟩ : ∃ W, W = w1 := ⟨_, rfl⟩
    rw [← hW] at D C ⊢
    clear hW ON c0 c1 f1
    have TM := hid (stime_ok W F p s1 g off a c G D.out OK1.out.n1 OK1.out.n2 OK1.out.tk1 (by have := OK1.out.tk2; omega))
    have tm := OK1.out.time
    obtain ⟨now, hnow⟩ : ∃ now, now = s1.time := ⟨_, rfl⟩
    rw [← hnow] at TM tm
    obtain ⟨t1, t2⟩ := tm
    go_wp2_with fail
    refine TM.out.mono ?_
    rintro e w3 ⟨rfl, q, rfl⟩
    replace D := hid (D.out.drewN q)
    replace C := hid (C.out.drewN q)
    clear TM
    generalize W.drewN q = W2 at D C ⊢
    have c3 := D.out.c3
    have I0 : Hid (TikS F p s1 g off a c G now w 0 W2) := hid ⟨by rw [mapS_zero]; exact D.out, C.out⟩
    clear D C
    go_wp2
    go_loopw [85] (fun s85 wr => ∃ k : Nat, k ≤ s1.ts.length ∧ s85 = .int .i64 k ∧ Hid (TikS F p s1 g off a c G now w k wr)) (fun s85 _ => s1.ts.length - (intOf s85).toNat)
    case atStart => exact ⟨0, by omega, rfl, I0⟩
    case round =>
      obtain ⟨k, hk, rfl, hJ⟩ := hrel
      clear I0 c3
      have hlen := OK1.out.len
      by_cases hlt : k < s1.ts.length
      · obtain ⟨j1, j2⟩ := id hJ.out
        have hx := mapS_get (refT now) hlt
        have hs := mapS_succ (refT now) hlt
        have XO := OK1.out.each s1.ts[k] (List.getElem_mem hlt)
        generalize s1.ts[k] = x at hx hs XO
        obtain ⟨rfl, rfl⟩ := j1.eq hx
        have c3 := j1.c3
        have e3 : ({ s1 with ts := mapS (refT now) s1.ts k } : SR).ts.length = s1.ts.length := mapS_len _ _ _
        rw [e3] at c3
        have x5 := j1.cell hx 5 (by omega)
        have x6 := j1.cell hx 6 (by omega)
        have x7 := j1.cell hx 7 (by omega)
        have x8 := j1.cell hx 8 (by omega)
        have x13 := j1.cell hx 13 (by omega)
        have f7 := j1.free (by rw [e3]; omega) (off + k * 15 + 7)
        have f8 := j1.free (by rw [e3]; omega) (off + k * 15 + 8)
        have f13 := j1.free (by rw [e3]; omega) (off + k * 15 + 13)
        simp only [stCells, List.getElem?_cons_succ, List.getElem?_cons_zero] at x5 x6 x7 x8 x13
        have hFg := j1.gF hx
        have d1 := XO.d1
        have d2 := XO.d2
        have p1 := XO.p1
        have p2 := XO.p2
        have J1 := hid j1
        have J2 := hid j2
        have HX := hid hx
        have HS := hid hs
        clear j1 j2 hx hs XO e3 hJ
        cases ho : x.o with
        | false =>
          have e : refT now x = x := by unfold refT; rw [ho]; simp
          have HZ : Hid (TikS F p s1 g off _ c _ now w (k + 1) wr) := hid (by
            unfold TikS
            rw [← HS.out, e, set_same HX.out]
            exact ⟨J1.out, J2.out⟩)
          rw [ho] at x13
          clear ho e
          go_wp2
          go_roundw
          case rel => exact ⟨k + 1, by omega, by go_num, HZ⟩
          case measure => simp [intOf]; omega
        | true =>
          rw [ho] at x13
          by_cases hd : x.du ≤ now
          · have e : refT now x = { x with o := false, le := x.bu, du := x.du + x.pe } := by unfold refT; rw [if_pos ⟨ho, hd⟩]
            have hw := IntWalk.i64_in (x.du + x.pe) (by omega)
            have y1 := J1.out.put (y := { x with o := false }) (u := .bool false) HX.out (j := 13) (by omega) rfl
            have y2 := y1.put (i := k) (x := { x with o := false }) (y := { x with o := false, le := x.bu }) (u := .int .i64 x.bu) (set_get HX.out) (j := 7) (by omega) rfl
            have y3 := y2.put (i := k) (x := { x with o := false, le := x.bu }) (y := { x with o := false, le := x.bu, du := x.du + x.pe }) (u := .int .i64 (x.du + x.pe)) (set_get (set_get HX.out)) (j := 8) (by omega) rfl
            have HZ : Hid (TikS F p s1 g off _ c _ now w (k + 1) (World.drew (((wr.setCell ⟨g, off + k * 15 + 13, none⟩ (.bool false)).setCell ⟨g, off + k * 15 + 7, none⟩ (.int .i64 x.bu)).setCell ⟨g, off + k * 15 + 8, none⟩ (.int .i64 (x.du + x.pe))))) := hid (by
              refine ⟨?_, ((((J2.out).setCell (p := ⟨g, off + k * 15 + 13, none⟩) (.inl hFg) _).setCell (p := ⟨g, off + k * 15 + 7, none⟩) (.inl hFg) _).setCell (p := ⟨g, off + k * 15 + 8, none⟩) (.inl hFg) _).drewN 1⟩
              rw [← HS.out, e]
              have := y3.drewN 1
              rw [show ((((mapS (refT now) s1.ts k).set k { x with o := false }).set k { x with o := false, le := x.bu }).set k { x with o := false, le := x.bu, du := x.du + x.pe }) = (mapS (refT now) s1.ts k).set k { x with o := false, le := x.bu, du := x.du + x.pe } by rw [set_set, set_set]] at this
              exact this)
            clear ho e y1 y2 y3
            go_wp2
            go_region
            go_wp2
            go_roundw
            case rel => exact ⟨k + 1, by omega, by go_num, HZ⟩
            case measure => simp [intOf]; omega
          · have e : refT now x = x := by unfold refT; rw [if_neg (fun h => hd h.2)]
            have HZ : Hid (TikS F p s1 g off _ c _ now w (k + 1) wr) := hid (by
              unfold TikS
              rw [← HS.out, e, set_same HX.out]
              exact ⟨J1.out, J2.out⟩)
            clear ho e
            go_wp2
            go_roundw
            case rel => exact ⟨k + 1, by omega, by go_num, HZ⟩
            case measure => simp [intOf]; omega
      · obtain ⟨j1, j2⟩ := hJ.out
        rw [mapS_all _ (by omega)] at j1
        have E2 : Hid (({ s1 with ts := s1.ts.map (refT now) } : SR) = s.tick2 cpu) := hid (by
          unfold SR.tick2
          rw [← E1.out, hnow])
        rw [E2.out] at j1
        have OK2 := OK.out.tick2 cpu
        obtain ⟨s2, hs2⟩ : ∃ s2, s2 = s.tick2 cpu := ⟨_, rfl⟩
        rw [← hs2] at j1 OK2
        have E3 : Hid (∀ j, onI s2.ts cpu = some j → s.tick3 cpu = s2.wait j) := hid (fun j hj => by unfold SR.tick3; rw [← hs2, hj])
        have E4 : Hid (onI s2.ts cpu = none → s.tick3 cpu = s2) := hid (fun hj => by unfold SR.tick3; rw [← hs2, hj])
        have ON := hid (son_ok wr F p s2 g off a c G j1 OK2.len cpu)
        have J1 := hid j1
        have J2 := hid j2
        have OKK := hid OK2
        clear j1 j2 OK2 E2 hs2 hnow hJ
        cases hon : onI s2.ts cpu with
        | none =>
          rw [hon] at ON
          have E5 := hid (E4.out hon)
          have FL := hid (sfill_ok wr F p s2 g off a c G J1.out (M + 1) OKK.out)
          unfold elV at ON
          clear hon E3 E4
          go_wp2_with fail
          refine ON.out.mono ?_
          rintro e w5 ⟨rfl, hw⟩
          subst hw
          go_wp2_with fail
          refine FL.out.mono ?_
          rintro e w6 ⟨rfl, h1, h2⟩
          replace h1 := hid h1
          replace h2 := hid h2
          go_wp2
          go_ret
          unfold SR.tick
          rw [E5.out]
          exact ps_ra h1.out (J2.out.trans h2.out (fun _ _ h => h))
        | some j =>
          rw [hon] at ON
          obtain ⟨x, hx, _⟩ := on_get hon
          have E5 := hid (E3.out j hon)
          have WT := hid (swait_ok wr F p s2 g off a c G J1.out j x hx OKK.out.st1 (by have := OKK.out.st2; omega))
          have FL := hid (fun w6 h => sfill_ok w6 F p (s2.wait j) g off a c G h (M + 1 + 1) (OKK.out.wait j))
          unfold elV at ON
          clear hon E3 E4 hx
          go_wp2_with fail
          refine ON.out.mono ?_
          rintro e w5 ⟨rfl, hw⟩
          subst hw
          go_wp2_with fail
          refine WT.out.mono ?_
          rintro e w6 ⟨rfl, h1, h2⟩
          have FL2 := hid (FL.out w6 h1)
          replace h1 := hid h1
          replace h2 := hid h2
          clear FL
          go_wp2_with fail
          refine FL2.out.mono ?_
          rintro e w7 ⟨rfl, h3, h4⟩
          replace h3 := hid h3
          replace h4 := hid h4
          go_wp2
          go_ret
          unfold SR.tick
          rw [E5.out]
          exact ps_ra h3.out ((J2.out.trans h2.out (fun _ _ h => h)).trans h4.out (fun _ _ h => h))
  | some i =>
    rw [hon] at ON
    obtain ⟨x, hx, _⟩ := on_get hon
    have E0 := hid (tick1_some hon hx)
    have XO := OK.out.each x (List.mem_of_getElem? hx)
    have x1 := H1.out.cell (i := i) (x := x) hx 1 (by omega)
    have x2 := H1.out.cell (i := i) (x := x) hx 2 (by omega)
    have x7 := H1.out.cell (i := i) (x := x) hx 7 (by omega)
    have x9 := H1.out.cell (i := i) (x := x) hx 9 (by omega)
    have x13 := H1.out.cell (i := i) (x := x) hx 13 (by omega)
    have hl0 : 0 < s.ts.length := by have := (List.getElem?_eq_some_iff.1 hx).1; omega
    have f7 := H1.out.free hl0 (off + i * 15 + 7)
    have f9 := H1.out.free hl0 (off + i * 15 + 9)
    have f13 := H1.out.free hl0 (off + i * 15 + 13)
    simp only [stCells, List.getElem?_cons_succ, List.getElem?_cons_zero] at x1 x2 x7 x9 x13
    have hFg := H1.out.gF (i := i) (x := x) hx
    have HX := hid hx
    unfold elV at ON
    clear hon hx
    by_cases hcl : x.cl = 1
    · have hb1 : (x.cl == 1) = true := by rw [beq_iff_eq]; exact hcl
      have va1 := XO.va3 hcl
      have va2 := XO.va2
      have v1 := XO.v1
      have v2 := XO.v2
      have cb := cost_bd va1
      have CO := hid (fun w => cost_i x.va w va1 va2)
      have hr : runT x = { x with v := x.v + costI x.va } := by unfold runT; rw [if_pos hcl]
      rw [hr] at E0
      obtain ⟨K, hK⟩ : ∃ K, K = costI x.va := ⟨_, rfl⟩
      rw [← hK] at cb CO E0
      obtain ⟨cb1, cb2⟩ := cb
      have D := hid (H1.out.put (i := i) (x := x) (y := { x with v := x.v + K }) (u := .int .i64 (x.v + K)) HX.out (j := 9) (by omega) rfl)
      have C := hid (C1.out.setCell (p := ⟨g, off + i * 15 + 9, none⟩) (.inl hFg) (.int .i64 (x.v + K)))
      obtain ⟨s1, hs1⟩ : ∃ s1 : SR, s1 = { s with tk := s.tk + 1, ts := s.ts.set i { x with v := x.v + K } } := ⟨_, rfl⟩
      change Hid (RA _ _ _ ({ s with tk := s.tk + 1, ts := s.ts.set i { x with v := x.v + K } } : SR) _ _ _ _ _) at D
      rw [← hs1] at D E0
      have E1 : Hid (s1 = s.tick1 cpu) := hid E0.out.symm
      have OK1 : Hid (SOk (M + 1) s1) := hid (by rw [E1.out]; exact OK.out.tick1 cpu)
      clear XO hcl hr E0 hs1 hK H1 C1
      go_wp2_with fail
      refine ON.out.mono ?_
      rintro e w2 ⟨rfl, hw⟩
      subst hw
      go_wp2_with fail
      refine (CO.out _).mono ?_
      rintro e w2 ⟨rfl, hw⟩
      subst hw
      go_upto_region 14 with fail
      generalize World.setCell w1 _ _ = W at D C ⊢
      clear ON CO c0 c1 f1 x1 x2 x7 x9 x13 f7 f9 f13
      have TM := hid (stime_ok W F p s1 g off a c G D.out OK1.out.n1 OK1.out.n2 OK1.out.tk1 (by have := OK1.out.tk2; omega))
      have tm := OK1.out.time
      obtain ⟨now, hnow⟩ : ∃ now, now = s1.time := ⟨_, rfl⟩
      rw [← hnow] at TM tm
      obtain ⟨t1, t2⟩ := tm
      go_wp2_with fail
      refine TM.out.mono ?_
      rintro e w3 ⟨rfl, q, rfl⟩
      replace D := hid (D.out.drewN q)
      replace C := hid (C.out.drewN q)
      clear TM
      generalize W.drewN q = W2 at D C ⊢
      have c3 := D.out.c3
      have I0 : Hid (TikS F p s1 g off a c G now w 0 W2) := hid ⟨by rw [mapS_zero]; exact D.out, C.out⟩
      clear D C
      go_wp2
      go_loopw [85] (fun s85 wr => ∃ k : Nat, k ≤ s1.ts.length ∧ s85 = .int .i64 k ∧ Hid (TikS F p s1 g off a c G now w k wr)) (fun s85 _ => s1.ts.length - (intOf s85).toNat)
      case atStart => exact ⟨0, by omega, rfl, I0⟩
      case round =>
        obtain ⟨k, hk, rfl, hJ⟩ := hrel
        clear I0 c3
        have hlen := OK1.out.len
        by_cases hlt : k < s1.ts.length
        · obtain ⟨j1, j2⟩ := id hJ.out
          have hx := mapS_get (refT now) hlt
          have hs := mapS_succ (refT now) hlt
          have XO := OK1.out.each s1.ts[k] (List.getElem_mem hlt)
          generalize s1.ts[k] = x at hx hs XO
          obtain ⟨rfl, rfl⟩ := j1.eq hx
          have c3 := j1.c3
          have e3 : ({ s1 with ts := mapS (refT now) s1.ts k } : SR).ts.length = s1.ts.length := mapS_len _ _ _
          rw [e3] at c3
          have x5 := j1.cell hx 5 (by omega)
          have x6 := j1.cell hx 6 (by omega)
          have x7 := j1.cell hx 7 (by omega)
          have x8 := j1.cell hx 8 (by omega)
          have x13 := j1.cell hx 13 (by omega)
          have f7 := j1.free (by rw [e3]; omega) (off + k * 15 + 7)
          have f8 := j1.free (by rw [e3]; omega) (off + k * 15 + 8)
          have f13 := j1.free (by rw [e3]; omega) (off + k * 15 + 13)
          simp only [stCells, List.getElem?_cons_succ, List.getElem?_cons_zero] at x5 x6 x7 x8 x13
          have hFg := j1.gF hx
          have d1 := XO.d1
          have d2 := XO.d2
          have p1 := XO.p1
          have p2 := XO.p2
          have J1 := hid j1
          have J2 := hid j2
          have HX := hid hx
          have HS := hid hs
          clear j1 j2 hx hs XO e3 hJ
          cases ho : x.o with
          | false =>
            have e : refT now x = x := by unfold refT; rw [ho]; simp
            have HZ : Hid (TikS F p s1 g off _ c _ now w (k + 1) wr) := hid (by
              unfold TikS
              rw [← HS.out, e, set_same HX.out]
              exact ⟨J1.out, J2.out⟩)
            rw [ho] at x13
            clear ho e
            go_wp2
            go_roundw
            case rel => exact ⟨k + 1, by omega, by go_num, HZ⟩
            case measure => simp [intOf]; omega
          | true =>
            rw [ho] at x13
            by_cases hd : x.du ≤ now
            · have e : refT now x = { x with o := false, le := x.bu, du := x.du + x.pe } := by unfold refT; rw [if_pos ⟨ho, hd⟩]
              have hw := IntWalk.i64_in (x.du + x.pe) (by omega)
              have y1 := J1.out.put (y := { x with o := false }) (u := .bool false) HX.out (j := 13) (by omega) rfl
              have y2 := y1.put (i := k) (x := { x with o := false }) (y := { x with o := false, le := x.bu }) (u := .int .i64 x.bu) (set_get HX.out) (j := 7) (by omega) rfl
              have y3 := y2.put (i := k) (x := { x with o := false, le := x.bu }) (y := { x with o := false, le := x.bu, du := x.du + x.pe }) (u := .int .i64 (x.du + x.pe)) (set_get (set_get HX.out)) (j := 8) (by omega) rfl
              have HZ : Hid (TikS F p s1 g off _ c _ now w (k + 1) (World.drew (((wr.setCell ⟨g, off + k * 15 + 13, none⟩ (.bool false)).setCell ⟨g, off + k * 15 + 7, none⟩ (.int .i64 x.bu)).setCell ⟨g, off + k * 15 + 8, none⟩ (.int .i64 (x.du + x.pe))))) := hid (by
                refine ⟨?_, ((((J2.out).setCell (p := ⟨g, off + k * 15 + 13, none⟩) (.inl hFg) _).setCell (p := ⟨g, off + k * 15 + 7, none⟩) (.inl hFg) _).setCell (p := ⟨g, off + k * 15 + 8, none⟩) (.inl hFg) _).drewN 1⟩
                rw [← HS.out, e]
                have := y3.drewN 1
                rw [show ((((mapS (refT now) s1.ts k).set k { x with o := false }).set k { x with o := false, le := x.bu }).set k { x with o := false, le := x.bu, du := x.du + x.pe }) = (mapS (refT now) s1.ts k).set k { x with o := false, le := x.bu, du := x.du + x.pe } by rw [set_set, set_set]] at this
                exact this)
              clear ho e y1 y2 y3
              go_wp2
              go_region
              go_wp2
              go_roundw
              case rel => exact ⟨k + 1, by omega, by go_num, HZ⟩
              case measure => simp [intOf]; omega
            · have e : refT now x = x := by unfold refT; rw [if_neg (fun h => hd h.2)]
              have HZ : Hid (TikS F p s1 g off _ c _ now w (k + 1) wr) := hid (by
                unfold TikS
                rw [← HS.out, e, set_same HX.out]
                exact ⟨J1.out, J2.out⟩)
              clear ho e
              go_wp2
              go_roundw
              case rel => exact ⟨k + 1, by omega, by go_num, HZ⟩
              case measure => simp [intOf]; omega
        · obtain ⟨j1, j2⟩ := hJ.out
          rw [mapS_all _ (by omega)] at j1
          have E2 : Hid (({ s1 with ts := s1.ts.map (refT now) } : SR) = s.tick2 cpu) := hid (by
            unfold SR.tick2
            rw [← E1.out, hnow])
          rw [E2.out] at j1
          have OK2 := OK.out.tick2 cpu
          obtain ⟨s2, hs2⟩ : ∃ s2, s2 = s.tick2 cpu := ⟨_, rfl⟩
          rw [← hs2] at j1 OK2
          have E3 : Hid (∀ j, onI s2.ts cpu = some j → s.tick3 cpu = s2.wait j) := hid (fun j hj => by unfold SR.tick3; rw [← hs2, hj])
          have E4 : Hid (onI s2.ts cpu = none → s.tick3 cpu = s2) := hid (fun hj => by unfold SR.tick3; rw [← hs2, hj])
          have ON := hid (son_ok wr F p s2 g off a c G j1 OK2.len cpu)
          have J1 := hid j1
          have J2 := hid j2
          have OKK := hid OK2
          clear j1 j2 OK2 E2 hs2 hnow hJ
          cases hon : onI s2.ts cpu with
          | none =>
            rw [hon] at ON
            have E5 := hid (E4.out hon)
            have FL := hid (sfill_ok wr F p s2 g off a c G J1.out (M + 1) OKK.out)
            unfold elV at ON
            clear hon E3 E4
            go_wp2_with fail
            refine ON.out.mono ?_
            rintro e w5 ⟨rfl, hw⟩
            subst hw
            go_wp2_with fail
            refine FL.out.mono ?_
            rintro e w6 ⟨rfl, h1, h2⟩
            replace h1 := hid h1
            replace h2 := hid h2
            go_wp2
            go_ret
            unfold SR.tick
            rw [E5.out]
            exact ps_ra h1.out (J2.out.trans h2.out (fun _ _ h => h))
          | some j =>
            rw [hon] at ON
            obtain ⟨x, hx, _⟩ := on_get hon
            have E5 := hid (E3.out j hon)
            have WT := hid (swait_ok wr F p s2 g off a c G J1.out j x hx OKK.out.st1 (by have := OKK.out.st2; omega))
            have FL := hid (fun w6 h => sfill_ok w6 F p (s2.wait j) g off a c G h (M + 1 + 1) (OKK.out.wait j))
            unfold elV at ON
            clear hon E3 E4 hx
            go_wp2_with fail
            refine ON.out.mono ?_
            rintro e w5 ⟨rfl, hw⟩
            subst hw
            go_wp2_with fail
            refine WT.out.mono ?_
            rintro e w6 ⟨rfl, h1, h2⟩
            have FL2 := hid (FL.out w6 h1)
            replace h1 := hid h1
            replace h2 := hid h2
            clear FL
            go_wp2_with fail
            refine FL2.out.mono ?_
            rintro e w7 ⟨rfl, h3, h4⟩
            replace h3 := hid h3
            replace h4 := hid h4
            go_wp2
            go_ret
            unfold SR.tick
            rw [E5.out]
            exact ps_ra h3.out ((J2.out.trans h2.out (fun _ _ h => h)).trans h4.out (fun _ _ h => h))
    · have hb1 : (x.cl == 1) = false := by rw [beq_eq_false_iff_ne]; exact hcl
      by_cases h3 : x.cl = 3
      · have hb3 : (x.cl == 3) = true := by rw [beq_iff_eq]; exact h3
        cases ho : x.o with
        | true =>
          rw [ho] at x13
          have hr : runT x = x := by unfold runT; rw [if_neg hcl, if_neg (fun h => by rw [ho] at h; cases h.2)]
          rw [hr, set_same HX.out] at E0
          obtain ⟨s1, hs1⟩ : ∃ s1 : SR, s1 = { s with tk := s.tk + 1 } := ⟨_, rfl⟩
          have D := H1
          change Hid (s.tick1 cpu = { s with tk := s.tk + 1 }) at E0
          rw [← hs1] at D E0
          have E1 : Hid (s1 = s.tick1 cpu) := hid E0.out.symm
          have OK1 : Hid (SOk (M + 1) s1) := hid (by rw [E1.out]; exact OK.out.tick1 cpu)
          have C := C1
          clear XO hcl h3 ho hr E0 hs1 H1 C1
          go_wp2_with fail
          refine ON.out.mono ?_
          rintro e w2 ⟨rfl, hw⟩
          subst hw
          go_upto_region 14 with fail
          obtain ⟨W, hW⟩ : ∃ W, W = w1 := ⟨_, rfl⟩
          rw [← hW] at D C ⊢
          clear hW ON c0 c1 f1 x1 x2 x7 x9 x13 f7 f9 f13
          have TM := hid (stime_ok W F p s1 g off a c G D.out OK1.out.n1 OK1.out.n2 OK1.out.tk1 (by have := OK1.out.tk2; omega))
          have tm := OK1.out.time
          obtain ⟨now, hnow⟩ : ∃ now, now = s1.time := ⟨_, rfl⟩
          rw [← hnow] at TM tm
          obtain ⟨t1, t2⟩ := tm
          go_wp2_with fail
          refine TM.out.mono ?_
          rintro e w3 ⟨rfl, q, rfl⟩
          replace D := hid (D.out.drewN q)
          replace C := hid (C.out.drewN q)
          clear TM
          generalize W.drewN q = W2 at D C ⊢
          have c3 := D.out.c3
          have I0 : Hid (TikS F p s1 g off a c G now w 0 W2) := hid ⟨by rw [mapS_zero]; exact D.out, C.out⟩
          clear D C
          go_wp2
          go_loopw [85] (fun s85 wr => ∃ k : Nat, k ≤ s1.ts.length ∧ s85 = .int .i64 k ∧ Hid (TikS F p s1 g off a c G now w k wr)) (fun s85 _ => s1.ts.length - (intOf s85).toNat)
          case atStart => exact ⟨0, by omega, rfl, I0⟩
          case round =>
            obtain ⟨k, hk, rfl, hJ⟩ := hrel
            clear I0 c3
            have hlen := OK1.out.len
            by_cases hlt : k < s1.ts.length
            · obtain ⟨j1, j2⟩ := id hJ.out
              have hx := mapS_get (refT now) hlt
              have hs := mapS_succ (refT now) hlt
              have XO := OK1.out.each s1.ts[k] (List.getElem_mem hlt)
              generalize s1.ts[k] = x at hx hs XO
              obtain ⟨rfl, rfl⟩ := j1.eq hx
              have c3 := j1.c3
              have e3 : ({ s1 with ts := mapS (refT now) s1.ts k } : SR).ts.length = s1.ts.length := mapS_len _ _ _
              rw [e3] at c3
              have x5 := j1.cell hx 5 (by omega)
              have x6 := j1.cell hx 6 (by omega)
              have x7 := j1.cell hx 7 (by omega)
              have x8 := j1.cell hx 8 (by omega)
              have x13 := j1.cell hx 13 (by omega)
              have f7 := j1.free (by rw [e3]; omega) (off + k * 15 + 7)
              have f8 := j1.free (by rw [e3]; omega) (off + k * 15 + 8)
              have f13 := j1.free (by rw [e3]; omega) (off + k * 15 + 13)
              simp only [stCells, List.getElem?_cons_succ, List.getElem?_cons_zero] at x5 x6 x7 x8 x13
              have hFg := j1.gF hx
              have d1 := XO.d1
              have d2 := XO.d2
              have p1 := XO.p1
              have p2 := XO.p2
              have J1 := hid j1
              have J2 := hid j2
              have HX := hid hx
              have HS := hid hs
              clear j1 j2 hx hs XO e3 hJ
              cases ho : x.o with
              | false =>
                have e : refT now x = x := by unfold refT; rw [ho]; simp
                have HZ : Hid (TikS F p s1 g off _ c _ now w (k + 1) wr) := hid (by
                  unfold TikS
                  rw [← HS.out, e, set_same HX.out]
                  exact ⟨J1.out, J2.out⟩)
                rw [ho] at x13
                clear ho e
                go_wp2
                go_roundw
                case rel => exact ⟨k + 1, by omega, by go_num, HZ⟩
                case measure => simp [intOf]; omega
              | true =>
                rw [ho] at x13
                by_cases hd : x.du ≤ now
                · have e : refT now x = { x with o := false, le := x.bu, du := x.du + x.pe } := by unfold refT; rw [if_pos ⟨ho, hd⟩]
                  have hw := IntWalk.i64_in (x.du + x.pe) (by omega)
                  have y1 := J1.out.put (y := { x with o := false }) (u := .bool false) HX.out (j := 13) (by omega) rfl
                  have y2 := y1.put (i := k) (x := { x with o := false }) (y := { x with o := false, le := x.bu }) (u := .int .i64 x.bu) (set_get HX.out) (j := 7) (by omega) rfl
                  have y3 := y2.put (i := k) (x := { x with o := false, le := x.bu }) (y := { x with o := false, le := x.bu, du := x.du + x.pe }) (u := .int .i64 (x.du + x.pe)) (set_get (set_get HX.out)) (j := 8) (by omega) rfl
                  have HZ : Hid (TikS F p s1 g off _ c _ now w (k + 1) (World.drew (((wr.setCell ⟨g, off + k * 15 + 13, none⟩ (.bool false)).setCell ⟨g, off + k * 15 + 7, none⟩ (.int .i64 x.bu)).setCell ⟨g, off + k * 15 + 8, none⟩ (.int .i64 (x.du + x.pe))))) := hid (by
                    refine ⟨?_, ((((J2.out).setCell (p := ⟨g, off + k * 15 + 13, none⟩) (.inl hFg) _).setCell (p := ⟨g, off + k * 15 + 7, none⟩) (.inl hFg) _).setCell (p := ⟨g, off + k * 15 + 8, none⟩) (.inl hFg) _).drewN 1⟩
                    rw [← HS.out, e]
                    have := y3.drewN 1
                    rw [show ((((mapS (refT now) s1.ts k).set k { x with o := false }).set k { x with o := false, le := x.bu }).set k { x with o := false, le := x.bu, du := x.du + x.pe }) = (mapS (refT now) s1.ts k).set k { x with o := false, le := x.bu, du := x.du + x.pe } by rw [set_set, set_set]] at this
                    exact this)
                  clear ho e y1 y2 y3
                  go_wp2
                  go_region
                  go_wp2
                  go_roundw
                  case rel => exact ⟨k + 1, by omega, by go_num, HZ⟩
                  case measure => simp [intOf]; omega
                · have e : refT now x = x := by unfold refT; rw [if_neg (fun h => hd h.2)]
                  have HZ : Hid (TikS F p s1 g off _ c _ now w (k + 1) wr) := hid (by
                    unfold TikS
                    rw [← HS.out, e, set_same HX.out]
                    exact ⟨J1.out, J2.out⟩)
                  clear ho e
                  go_wp2
                  go_roundw
                  case rel => exact ⟨k + 1, by omega, by go_num, HZ⟩
                  case measure => simp [intOf]; omega
            · obtain ⟨j1, j2⟩ := hJ.out
              rw [mapS_all _ (by omega)] at j1
              have E2 : Hid (({ s1 with ts := s1.ts.map (refT now) } : SR) = s.tick2 cpu) := hid (by
                unfold SR.tick2
                rw [← E1.out, hnow])
              rw [E2.out] at j1
              have OK2 := OK.out.tick2 cpu
              obtain ⟨s2, hs2⟩ : ∃ s2, s2 = s.tick2 cpu := ⟨_, rfl⟩
              rw [← hs2] at j1 OK2
              have E3 : Hid (∀ j, onI s2.ts cpu = some j → s.tick3 cpu = s2.wait j) := hid (fun j hj => by unfold SR.tick3; rw [← hs2, hj])
              have E4 : Hid (onI s2.ts cpu = none → s.tick3 cpu = s2) := hid (fun hj => by unfold SR.tick3; rw [← hs2, hj])
              have ON := hid (son_ok wr F p s2 g off a c G j1 OK2.len cpu)
              have J1 := hid j1
              have J2 := hid j2
              have OKK := hid OK2
              clear j1 j2 OK2 E2 hs2 hnow hJ
              cases hon : onI s2.ts cpu with
              | none =>
                rw [hon] at ON
                have E5 := hid (E4.out hon)
                have FL := hid (sfill_ok wr F p s2 g off a c G J1.out (M + 1) OKK.out)
                unfold elV at ON
                clear hon E3 E4
                go_wp2_with fail
                refine ON.out.mono ?_
                rintro e w5 ⟨rfl, hw⟩
                subst hw
                go_wp2_with fail
                refine FL.out.mono ?_
                rintro e w6 ⟨rfl, h1, h2⟩
                replace h1 := hid h1
                replace h2 := hid h2
                go_wp2
                go_ret
                unfold SR.tick
                rw [E5.out]
                exact ps_ra h1.out (J2.out.trans h2.out (fun _ _ h => h))
              | some j =>
                rw [hon] at ON
                obtain ⟨x, hx, _⟩ := on_get hon
                have E5 := hid (E3.out j hon)
                have WT := hid (swait_ok wr F p s2 g off a c G J1.out j x hx OKK.out.st1 (by have := OKK.out.st2; omega))
                have FL := hid (fun w6 h => sfill_ok w6 F p (s2.wait j) g off a c G h (M + 1 + 1) (OKK.out.wait j))
                unfold elV at ON
                clear hon E3 E4 hx
                go_wp2_with fail
                refine ON.out.mono ?_
                rintro e w5 ⟨rfl, hw⟩
                subst hw
                go_wp2_with fail
                refine WT.out.mono ?_
                rintro e w6 ⟨rfl, h1, h2⟩
                have FL2 := hid (FL.out w6 h1)
                replace h1 := hid h1
                replace h2 := hid h2
                clear FL
                go_wp2_with fail
                refine FL2.out.mono ?_
                rintro e w7 ⟨rfl, h3, h4⟩
                replace h3 := hid h3
                replace h4 := hid h4
                go_wp2
                go_ret
                unfold SR.tick
                rw [E5.out]
                exact ps_ra h3.out ((J2.out.trans h2.out (fun _ _ h => h)).trans h4.out (fun _ _ h => h))
        | false =>
          rw [ho] at x13
          have l1 := XO.l3 h3 ho
          have l2 := XO.l2
          have hr : runT x = { x with le := x.le - 1, o := decide (x.le - 1 = 0) } := by unfold runT; rw [if_neg hcl, if_pos ⟨h3, ho⟩]
          rw [hr] at E0
          have hbz : (x.le - 1 == 0) = decide (x.le - 1 = 0) := rfl
          obtain ⟨B, hB⟩ : ∃ B, B = decide (x.le - 1 = 0) := ⟨_, rfl⟩
          rw [← hB] at E0 hbz
          have y1 := H1.out.put (i := i) (x := x) (y := { x with le := x.le - 1 }) (u := .int .i64 (x.le - 1)) HX.out (j := 7) (by omega) rfl
          have k7 := y1.cell (i := i) (x := { x with le := x.le - 1 }) (set_get HX.out) 7 (by omega)
          have k13 := y1.cell (i := i) (x := { x with le := x.le - 1 }) (set_get HX.out) 13 (by omega)
          simp only [stCells, List.getElem?_cons_succ, List.getElem?_cons_zero] at k7 k13
          have g13 := y1.free (by show 0 < (s.ts.set i _).length; rw [List.length_set]; exact hl0) (off + i * 15 + 13)
          have y2 := y1.put (i := i) (x := { x with le := x.le - 1 }) (y := { x with le := x.le - 1, o := B }) (u := .bool B) (set_get HX.out) (j := 13) (by omega) rfl
          rw [show ({ ({ ({ s with tk := s.tk + 1 } : SR) with ts := s.ts.set i { x with le := x.le - 1 } } : SR) with ts := (s.ts.set i { x with le := x.le - 1 }).set i { x with le := x.le - 1, o := B } } : SR) = { s with tk := s.tk + 1, ts := s.ts.set i { x with le := x.le - 1, o := B } } by rw [set_set]] at y2
          have D := hid y2
          have C := hid ((C1.out.setCell (p := ⟨g, off + i * 15 + 7, none⟩) (.inl hFg) (.int .i64 (x.le - 1))).setCell (p := ⟨g, off + i * 15 + 13, none⟩) (.inl hFg) (.bool B))
          obtain ⟨s1, hs1⟩ : ∃ s1 : SR, s1 = { s with tk := s.tk + 1, ts := s.ts.set i { x with le := x.le - 1, o := B } } := ⟨_, rfl⟩
          rw [← hs1] at D E0
          have E1 : Hid (s1 = s.tick1 cpu) := hid E0.out.symm
          have OK1 : Hid (SOk (M + 1) s1) := hid (by rw [E1.out]; exact OK.out.tick1 cpu)
          clear XO hcl h3 ho hr E0 hs1 H1 C1 y1 y2 hB
          go_wp2_with fail
          refine ON.out.mono ?_
          rintro e w2 ⟨rfl, hw⟩
          subst hw
          go_upto_region 14 with fail
          generalize World.setCell (World.setCell w1 _ _) _ _ = W at D C ⊢
          clear ON c0 c1 f1 x1 x2 x7 x9 x13 f7 f9 f13 k7 k13 g13
          have TM := hid (stime_ok W F p s1 g off a c G D.out OK1.out.n1 OK1.out.n2 OK1.out.tk1 (by have := OK1.out.tk2; omega))
          have tm := OK1.out.time
          obtain ⟨now, hnow⟩ : ∃ now, now = s1.time := ⟨_, rfl⟩
          rw [← hnow] at TM tm
          obtain ⟨t1, t2⟩ := tm
          go_wp2_with fail
          refine TM.out.mono ?_
          rintro e w3 ⟨rfl, q, rfl⟩
          replace D := hid (D.out.drewN q)
          replace C := hid (C.out.drewN q)
          clear TM
          generalize W.drewN q = W2 at D C ⊢
          have c3 := D.out.c3
          have I0 : Hid (TikS F p s1 g off a c G now w 0 W2) := hid ⟨by rw [mapS_zero]; exact D.out, C.out⟩
          clear D C
          go_wp2
          go_loopw [85] (fun s85 wr => ∃ k : Nat, k ≤ s1.ts.length ∧ s85 = .int .i64 k ∧ Hid (TikS F p s1 g off a c G now w k wr)) (fun s85 _ => s1.ts.length - (intOf s85).toNat)
          case atStart => exact ⟨0, by omega, rfl, I0⟩
          case round =>
            obtain ⟨k, hk, rfl, hJ⟩ := hrel
            clear I0 c3
            have hlen := OK1.out.len
            by_cases hlt : k < s1.ts.length
            · obtain ⟨j1, j2⟩ := id hJ.out
              have hx := mapS_get (refT now) hlt
              have hs := mapS_succ (refT now) hlt
              have XO := OK1.out.each s1.ts[k] (List.getElem_mem hlt)
              generalize s1.ts[k] = x at hx hs XO
              obtain ⟨rfl, rfl⟩ := j1.eq hx
              have c3 := j1.c3
              have e3 : ({ s1 with ts := mapS (refT now) s1.ts k } : SR).ts.length = s1.ts.length := mapS_len _ _ _
              rw [e3] at c3
              have x5 := j1.cell hx 5 (by omega)
              have x6 := j1.cell hx 6 (by omega)
              have x7 := j1.cell hx 7 (by omega)
              have x8 := j1.cell hx 8 (by omega)
              have x13 := j1.cell hx 13 (by omega)
              have f7 := j1.free (by rw [e3]; omega) (off + k * 15 + 7)
              have f8 := j1.free (by rw [e3]; omega) (off + k * 15 + 8)
              have f13 := j1.free (by rw [e3]; omega) (off + k * 15 + 13)
              simp only [stCells, List.getElem?_cons_succ, List.getElem?_cons_zero] at x5 x6 x7 x8 x13
              have hFg := j1.gF hx
              have d1 := XO.d1
              have d2 := XO.d2
              have p1 := XO.p1
              have p2 := XO.p2
              have J1 := hid j1
              have J2 := hid j2
              have HX := hid hx
              have HS := hid hs
              clear j1 j2 hx hs XO e3 hJ
              cases ho : x.o with
              | false =>
                have e : refT now x = x := by unfold refT; rw [ho]; simp
                have HZ : Hid (TikS F p s1 g off _ c _ now w (k + 1) wr) := hid (by
                  unfold TikS
                  rw [← HS.out, e, set_same HX.out]
                  exact ⟨J1.out, J2.out⟩)
                rw [ho] at x13
                clear ho e
                go_wp2
                go_roundw
                case rel => exact ⟨k + 1, by omega, by go_num, HZ⟩
                case measure => simp [intOf]; omega
              | true =>
                rw [ho] at x13
                by_cases hd : x.du ≤ now
                · have e : refT now x = { x with o := false, le := x.bu, du := x.du + x.pe } := by unfold refT; rw [if_pos ⟨ho, hd⟩]
                  have hw := IntWalk.i64_in (x.du + x.pe) (by omega)
                  have y1 := J1.out.put (y := { x with o := false }) (u := .bool false) HX.out (j := 13) (by omega) rfl
                  have y2 := y1.put (i := k) (x := { x with o := false }) (y := { x with o := false, le := x.bu }) (u := .int .i64 x.bu) (set_get HX.out) (j := 7) (by omega) rfl
                  have y3 := y2.put (i := k) (x := { x with o := false, le := x.bu }) (y := { x with o := false, le := x.bu, du := x.du + x.pe }) (u := .int .i64 (x.du + x.pe)) (set_get (set_get HX.out)) (j := 8) (by omega) rfl
                  have HZ : Hid (TikS F p s1 g off _ c _ now w (k + 1) (World.drew (((wr.setCell ⟨g, off + k * 15 + 13, none⟩ (.bool false)).setCell ⟨g, off + k * 15 + 7, none⟩ (.int .i64 x.bu)).setCell ⟨g, off + k * 15 + 8, none⟩ (.int .i64 (x.du + x.pe))))) := hid (by
                    refine ⟨?_, ((((J2.out).setCell (p := ⟨g, off + k * 15 + 13, none⟩) (.inl hFg) _).setCell (p := ⟨g, off + k * 15 + 7, none⟩) (.inl hFg) _).setCell (p := ⟨g, off + k * 15 + 8, none⟩) (.inl hFg) _).drewN 1⟩
                    rw [← HS.out, e]
                    have := y3.drewN 1
                    rw [show ((((mapS (refT now) s1.ts k).set k { x with o := false }).set k { x with o := false, le := x.bu }).set k { x with o := false, le := x.bu, du := x.du + x.pe }) = (mapS (refT now) s1.ts k).set k { x with o := false, le := x.bu, du := x.du + x.pe } by rw [set_set, set_set]] at this
                    exact this)
                  clear ho e y1 y2 y3
                  go_wp2
                  go_region
                  go_wp2
                  go_roundw
                  case rel => exact ⟨k + 1, by omega, by go_num, HZ⟩
                  case measure => simp [intOf]; omega
                · have e : refT now x = x := by unfold refT; rw [if_neg (fun h => hd h.2)]
                  have HZ : Hid (TikS F p s1 g off _ c _ now w (k + 1) wr) := hid (by
                    unfold TikS
                    rw [← HS.out, e, set_same HX.out]
                    exact ⟨J1.out, J2.out⟩)
                  clear ho e
                  go_wp2
                  go_roundw
                  case rel => exact ⟨k + 1, by omega, by go_num, HZ⟩
                  case measure => simp [intOf]; omega
            · obtain ⟨j1, j2⟩ := hJ.out
              rw [mapS_all _ (by omega)] at j1
              have E2 : Hid (({ s1 with ts := s1.ts.map (refT now) } : SR) = s.tick2 cpu) := hid (by
                unfold SR.tick2
                rw [← E1.out, hnow])
              rw [E2.out] at j1
              have OK2 := OK.out.tick2 cpu
              obtain ⟨s2, hs2⟩ : ∃ s2, s2 = s.tick2 cpu := ⟨_, rfl⟩
              rw [← hs2] at j1 OK2
              have E3 : Hid (∀ j, onI s2.ts cpu = some j → s.tick3 cpu = s2.wait j) := hid (fun j hj => by unfold SR.tick3; rw [← hs2, hj])
              have E4 : Hid (onI s2.ts cpu = none → s.tick3 cpu = s2) := hid (fun hj => by unfold SR.tick3; rw [← hs2, hj])
              have ON := hid (son_ok wr F p s2 g off a c G j1 OK2.len cpu)
              have J1 := hid j1
              have J2 := hid j2
              have OKK := hid OK2
              clear j1 j2 OK2 E2 hs2 hnow hJ
              cases hon : onI s2.ts cpu with
              | none =>
                rw [hon] at ON
                have E5 := hid (E4.out hon)
                have FL := hid (sfill_ok wr F p s2 g off a c G J1.out (M + 1) OKK.out)
                unfold elV at ON
                clear hon E3 E4
                go_wp2_with fail
                refine ON.out.mono ?_
                rintro e w5 ⟨rfl, hw⟩
                subst hw
                go_wp2_with fail
                refine FL.out.mono ?_
                rintro e w6 ⟨rfl, h1, h2⟩
                replace h1 := hid h1
                replace h2 := hid h2
                go_wp2
                go_ret
                unfold SR.tick
                rw [E5.out]
                exact ps_ra h1.out (J2.out.trans h2.out (fun _ _ h => h))
              | some j =>
                rw [hon] at ON
                obtain ⟨x, hx, _⟩ := on_get hon
                have E5 := hid (E3.out j hon)
                have WT := hid (swait_ok wr F p s2 g off a c G J1.out j x hx OKK.out.st1 (by have := OKK.out.st2; omega))
                have FL := hid (fun w6 h => sfill_ok w6 F p (s2.wait j) g off a c G h (M + 1 + 1) (OKK.out.wait j))
                unfold elV at ON
                clear hon E3 E4 hx
                go_wp2_with fail
                refine ON.out.mono ?_
                rintro e w5 ⟨rfl, hw⟩
                subst hw
                go_wp2_with fail
                refine WT.out.mono ?_
                rintro e w6 ⟨rfl, h1, h2⟩
                have FL2 := hid (FL.out w6 h1)
                replace h1 := hid h1
                replace h2 := hid h2
                clear FL
                go_wp2_with fail
                refine FL2.out.mono ?_
                rintro e w7 ⟨rfl, h3, h4⟩
                replace h3 := hid h3
                replace h4 := hid h4
                go_wp2
                go_ret
                unfold SR.tick
                rw [E5.out]
                exact ps_ra h3.out ((J2.out.trans h2.out (fun _ _ h => h)).trans h4.out (fun _ _ h => h))
      · have hb3 : (x.cl == 3) = false := by rw [beq_eq_false_iff_ne]; exact h3
        have hr : runT x = x := by unfold runT; rw [if_neg hcl, if_neg (fun h => h3 h.1)]
        rw [hr, set_same HX.out] at E0
        obtain ⟨s1, hs1⟩ : ∃ s1 : SR, s1 = { s with tk := s.tk + 1 } := ⟨_, rfl⟩
        have D := H1
        change Hid (s.tick1 cpu = { s with tk := s.tk + 1 }) at E0
        rw [← hs1] at D E0
        have E1 : Hid (s1 = s.tick1 cpu) := hid E0.out.symm
        have OK1 : Hid (SOk (M + 1) s1) := hid (by rw [E1.out]; exact OK.out.tick1 cpu)
        have C := C1
        clear XO hcl h3 hr E0 hs1 H1 C1
        go_wp2_with fail
        refine ON.out.mono ?_
        rintro e w2 ⟨rfl, hw⟩
        subst hw
        go_upto_region 14 with fail
        obtain ⟨W, hW⟩ : ∃ W, W = w1 := ⟨_, rfl⟩
        rw [← hW] at D C ⊢
        clear hW ON c0 c1 f1 x1 x2 x7 x9 x13 f7 f9 f13
        have TM := hid (stime_ok W F p s1 g off a c G D.out OK1.out.n1 OK1.out.n2 OK1.out.tk1 (by have := OK1.out.tk2; omega))
        have tm := OK1.out.time
        obtain ⟨now, hnow⟩ : ∃ now, now = s1.time := ⟨_, rfl⟩
        rw [← hnow] at TM tm
        obtain ⟨t1, t2⟩ := tm
        go_wp2_with fail
        refine TM.out.mono ?_
        rintro e w3 ⟨rfl, q, rfl⟩
        replace D := hid (D.out.drewN q)
        replace C := hid (C.out.drewN q)
        clear TM
        generalize W.drewN q = W2 at D C ⊢
        have c3 := D.out.c3
        have I0 : Hid (TikS F p s1 g off a c G now w 0 W2) := hid ⟨by rw [mapS_zero]; exact D.out, C.out⟩
        clear D C
        go_wp2
        go_loopw [85] (fun s85 wr => ∃ k : Nat, k ≤ s1.ts.length ∧ s85 = .int .i64 k ∧ Hid (TikS F p s1 g off a c G now w k wr)) (fun s85 _ => s1.ts.length - (intOf s85).toNat)
        case atStart => exact ⟨0, by omega, rfl, I0⟩
        case round =>
          obtain ⟨k, hk, rfl, hJ⟩ := hrel
          clear I0 c3
          have hlen := OK1.out.len
          by_cases hlt : k < s1.ts.length
          · obtain ⟨j1, j2⟩ := id hJ.out
            have hx := mapS_get (refT now) hlt
            have hs := mapS_succ (refT now) hlt
            have XO := OK1.out.each s1.ts[k] (List.getElem_mem hlt)
            generalize s1.ts[k] = x at hx hs XO
            obtain ⟨rfl, rfl⟩ := j1.eq hx
            have c3 := j1.c3
            have e3 : ({ s1 with ts := mapS (refT now) s1.ts k } : SR).ts.length = s1.ts.length := mapS_len _ _ _
            rw [e3] at c3
            have x5 := j1.cell hx 5 (by omega)
            have x6 := j1.cell hx 6 (by omega)
            have x7 := j1.cell hx 7 (by omega)
            have x8 := j1.cell hx 8 (by omega)
            have x13 := j1.cell hx 13 (by omega)
            have f7 := j1.free (by rw [e3]; omega) (off + k * 15 + 7)
            have f8 := j1.free (by rw [e3]; omega) (off + k * 15 + 8)
            have f13 := j1.free (by rw [e3]; omega) (off + k * 15 + 13)
            simp only [stCells, List.getElem?_cons_succ, List.getElem?_cons_zero] at x5 x6 x7 x8 x13
            have hFg := j1.gF hx
            have d1 := XO.d1
            have d2 := XO.d2
            have p1 := XO.p1
            have p2 := XO.p2
            have J1 := hid j1
            have J2 := hid j2
            have HX := hid hx
            have HS := hid hs
            clear j1 j2 hx hs XO e3 hJ
            cases ho : x.o with
            | false =>
              have e : refT now x = x := by unfold refT; rw [ho]; simp
              have HZ : Hid (TikS F p s1 g off _ c _ now w (k + 1) wr) := hid (by
                unfold TikS
                rw [← HS.out, e, set_same HX.out]
                exact ⟨J1.out, J2.out⟩)
              rw [ho] at x13
              clear ho e
              go_wp2
              go_roundw
              case rel => exact ⟨k + 1, by omega, by go_num, HZ⟩
              case measure => simp [intOf]; omega
            | true =>
              rw [ho] at x13
              by_cases hd : x.du ≤ now
              · have e : refT now x = { x with o := false, le := x.bu, du := x.du + x.pe } := by unfold refT; rw [if_pos ⟨ho, hd⟩]
                have hw := IntWalk.i64_in (x.du + x.pe) (by omega)
                have y1 := J1.out.put (y := { x with o := false }) (u := .bool false) HX.out (j := 13) (by omega) rfl
                have y2 := y1.put (i := k) (x := { x with o := false }) (y := { x with o := false, le := x.bu }) (u := .int .i64 x.bu) (set_get HX.out) (j := 7) (by omega) rfl
                have y3 := y2.put (i := k) (x := { x with o := false, le := x.bu }) (y := { x with o := false, le := x.bu, du := x.du + x.pe }) (u := .int .i64 (x.du + x.pe)) (set_get (set_get HX.out)) (j := 8) (by omega) rfl
                have HZ : Hid (TikS F p s1 g off _ c _ now w (k + 1) (World.drew (((wr.setCell ⟨g, off + k * 15 + 13, none⟩ (.bool false)).setCell ⟨g, off + k * 15 + 7, none⟩ (.int .i64 x.bu)).setCell ⟨g, off + k * 15 + 8, none⟩ (.int .i64 (x.du + x.pe))))) := hid (by
                  refine ⟨?_, ((((J2.out).setCell (p := ⟨g, off + k * 15 + 13, none⟩) (.inl hFg) _).setCell (p := ⟨g, off + k * 15 + 7, none⟩) (.inl hFg) _).setCell (p := ⟨g, off + k * 15 + 8, none⟩) (.inl hFg) _).drewN 1⟩
                  rw [← HS.out, e]
                  have := y3.drewN 1
                  rw [show ((((mapS (refT now) s1.ts k).set k { x with o := false }).set k { x with o := false, le := x.bu }).set k { x with o := false, le := x.bu, du := x.du + x.pe }) = (mapS (refT now) s1.ts k).set k { x with o := false, le := x.bu, du := x.du + x.pe } by rw [set_set, set_set]] at this
                  exact this)
                clear ho e y1 y2 y3
                go_wp2
                go_region
                go_wp2
                go_roundw
                case rel => exact ⟨k + 1, by omega, by go_num, HZ⟩
                case measure => simp [intOf]; omega
              · have e : refT now x = x := by unfold refT; rw [if_neg (fun h => hd h.2)]
                have HZ : Hid (TikS F p s1 g off _ c _ now w (k + 1) wr) := hid (by
                  unfold TikS
                  rw [← HS.out, e, set_same HX.out]
                  exact ⟨J1.out, J2.out⟩)
                clear ho e
                go_wp2
                go_roundw
                case rel => exact ⟨k + 1, by omega, by go_num, HZ⟩
                case measure => simp [intOf]; omega
          · obtain ⟨j1, j2⟩ := hJ.out
            rw [mapS_all _ (by omega)] at j1
            have E2 : Hid (({ s1 with ts := s1.ts.map (refT now) } : SR) = s.tick2 cpu) := hid (by
              unfold SR.tick2
              rw [← E1.out, hnow])
            rw [E2.out] at j1
            have OK2 := OK.out.tick2 cpu
            obtain ⟨s2, hs2⟩ : ∃ s2, s2 = s.tick2 cpu := ⟨_, rfl⟩
            rw [← hs2] at j1 OK2
            have E3 : Hid (∀ j, onI s2.ts cpu = some j → s.tick3 cpu = s2.wait j) := hid (fun j hj => by unfold SR.tick3; rw [← hs2, hj])
            have E4 : Hid (onI s2.ts cpu = none → s.tick3 cpu = s2) := hid (fun hj => by unfold SR.tick3; rw [← hs2, hj])
            have ON := hid (son_ok wr F p s2 g off a c G j1 OK2.len cpu)
            have J1 := hid j1
            have J2 := hid j2
            have OKK := hid OK2
            clear j1 j2 OK2 E2 hs2 hnow hJ
            cases hon : onI s2.ts cpu with
            | none =>
              rw [hon] at ON
              have E5 := hid (E4.out hon)
              have FL := hid (sfill_ok wr F p s2 g off a c G J1.out (M + 1) OKK.out)
              unfold elV at ON
              clear hon E3 E4
              go_wp2_with fail
              refine ON.out.mono ?_
              rintro e w5 ⟨rfl, hw⟩
              subst hw
              go_wp2_with fail
              refine FL.out.mono ?_
              rintro e w6 ⟨rfl, h1, h2⟩
              replace h1 := hid h1
              replace h2 := hid h2
              go_wp2
              go_ret
              unfold SR.tick
              rw [E5.out]
              exact ps_ra h1.out (J2.out.trans h2.out (fun _ _ h => h))
            | some j =>
              rw [hon] at ON
              obtain ⟨x, hx, _⟩ := on_get hon
              have E5 := hid (E3.out j hon)
              have WT := hid (swait_ok wr F p s2 g off a c G J1.out j x hx OKK.out.st1 (by have := OKK.out.st2; omega))
              have FL := hid (fun w6 h => sfill_ok w6 F p (s2.wait j) g off a c G h (M + 1 + 1) (OKK.out.wait j))
              unfold elV at ON
              clear hon E3 E4 hx
              go_wp2_with fail
              refine ON.out.mono ?_
              rintro e w5 ⟨rfl, hw⟩
              subst hw
              go_wp2_with fail
              refine WT.out.mono ?_
              rintro e w6 ⟨rfl, h1, h2⟩
              have FL2 := hid (FL.out w6 h1)
              replace h1 := hid h1
              replace h2 := hid h2
              clear FL
              go_wp2_with fail
              refine FL2.out.mono ?_
              rintro e w7 ⟨rfl, h3, h4⟩
              replace h3 := hid h3
              replace h4 := hid h4
              go_wp2
              go_ret
              unfold SR.tick
              rw [E5.out]
              exact ps_ra h3.out ((J2.out.trans h2.out (fun _ _ h => h)).trans h4.out (fun _ _ h => h))
end Go.Proofs.Ythcgeigijnbpkaa
