/- The last contracts of package dead: Tick, Pick, Wake. Conditions: at most 1000 tasks, each as it may be; times below 2^30. -/
import Derived.Test.YtipmjfpoglkiaaaDead2
namespace Go.Proofs.Ytipmjfpoglkiaaa
open Go.ChangeShapes Go.WideShapes Go.ChangeAt Go.RowKit
set_option linter.unusedVariables false
theorem dfirst_nil (w : World) (F : Nat → Prop) (p now : Nat) (a : Option Addr) (c : Nat) (G : Option Nat) (h : DA w F p now [] a c G) :
    Calls Try.prog 42 #[.pointer (some ⟨p, 0, none⟩)] w fun e w' => e = .returned (.pointer none) ∧ w = w' := by
  have c1 := h.c1
  clear h
  simp only [List.length_nil] at c1
  go_enter Try.func42, Try.ntmps42
  go_wp2
  go_loop [3, 11] (fun s3 s11 => s3 = .pointer none ∧ s11 = .int .i64 0) (fun _ _ => 0)
  case atStart => exact ⟨rfl, rfl⟩
  case round =>
    obtain ⟨rfl, rfl⟩ := hrel
    go_wp2
    go_ret
    exact ⟨rfl, rfl⟩
/-- The number of who goes; 0: nobody. -/
def numOf (ts : List DT) : Option Nat → Nat
  | none => 0
  | some j => ((ts[j]?).map DT.t).getD 0
def PTick (F : Nat → Prop) (p now : Nat) (ts : List DT) (w : World) (e : Ending) (w' : World) : Prop := ∃ b, IsFirst ts ts.length b ∧ e = .returned (.int .i64 (numOf ts b : Nat)) ∧ DeadAt w' F p (now + 1) (tickTs now ts b) ∧ Chg F w w'
theorem modify_ofD {α : Type} {l : List α} {j : Nat} {x : α} (f : α → α) (h : l[j]? = some x) : l.modify j f = l.set j (f x) := by
  apply List.ext_getElem?
  intro i
  rw [List.getElem?_modify, List.getElem?_set]
  by_cases hij : j = i
  · subst hij
    obtain ⟨h1, h2⟩ := List.getElem?_eq_some_iff.1 h
    simp [h1, h2]
  · simp [hij]
theorem tick_ok_run {now : Nat} {ts : List DT} {j : Nat} {x : DT} (hok : ∀ x ∈ ts, DOk now x) (hx : ts[j]? = some x) (he : elig x = true) : ∀ y ∈ ts.set j (runT x), DOk now y := by
  intro y hy
  rcases List.mem_or_eq_of_mem_set hy with h | h
  · exact hok y h
  · rw [h]; exact (hok x (List.mem_of_getElem? hx)).run he
set_option maxHeartbeats 1000000 in
theorem dtick_ok (w : World) (F : Nat → Prop) (p now : Nat) (ts : List DT) (h : DeadAt w F p now ts) (hl : ts.length ≤ 1000) (hn : now ≤ 1073741824) (hok : ∀ x ∈ ts, DOk now x) :
    Calls Try.prog 26 #[.pointer (some ⟨p, 0, none⟩)] w (PTick F p now ts w) := by
  obtain ⟨a, c, G, h⟩ := h
  have HO := hid hok
  have H := hid h
  clear h hok
  by_cases h0 : ts.length = 0
  · obtain rfl : ts = [] := List.eq_nil_of_length_eq_zero h0
    clear h0
    go_enter Try.func26, Try.ntmps26
    go_wp2_with (first | (go_at_call 42; refine (dfirst_nil w F p now a c G H.out).mono ?_; rintro e w' ⟨rfl, rfl⟩) | (go_at_call 28; refine (dpass_ok w F p now [] ⟨a, c, G, H.out⟩ (by simp) hn HO.out).mono ?_; rintro e w' ⟨rfl, p1, p2⟩; replace p1 := hid p1; replace p2 := hid p2))
    go_ret
    exact ⟨none, fun i x hi => absurd hi (by simp), rfl, p1.out, p2.out⟩
  · obtain ⟨g, off, rfl, rfl, hg, hne⟩ := H.out.at (by omega)
    go_enter Try.func26, Try.ntmps26
    go_wp2_with fail
    refine (dfirst_ok w F p now ts g off c _ H.out hl).mono ?_
    rintro e w1 ⟨b, hb, rfl, n, rfl⟩
    replace hb := hid hb
    cases b with
    | none =>
      simp only [bestPtr]
      go_wp2_with fail
      refine (dpass_ok _ F p now ts ⟨_, c, _, H.out.drewN n⟩ hl hn HO.out).mono ?_
      rintro e w' ⟨rfl, p1, p2⟩
      replace p1 := hid p1
      replace p2 := hid p2
      go_wp2
      go_ret
      exact ⟨none, hb.out, rfl, p1.out, ((Chg.refl F w).drewN n).trans p2.out (fun _ _ h => h)⟩
    | some j =>
      obtain ⟨x, hj, hxj, hex, _⟩ := id hb.out
      have x0 := H.out.cell hxj 0 (by omega)
      have x3 := H.out.cell hxj 3 (by omega)
      have x6 := H.out.cell hxj 6 (by omega)
      have f3 := H.out.free (by omega) (off + j * 7 + 3)
      have f6 := H.out.free (by omega) (off + j * 7 + 6)
      simp only [dtCells, List.getElem?_cons_succ, List.getElem?_cons_zero, Nat.add_zero] at x0 x3 x6
      have hox := HO.out x (List.mem_of_getElem? hxj)
      have hl1 := hox.l2
      have hb2 := hox.b2
      have hp2 := hox.p2
      have hxo : x.o = false := by unfold elig at hex; simp at hex; exact hex.2
      have hl0 : x.l ≠ 0 := fun hl => by have := hox.oz.2 hl; rw [hxo] at this; cases this
      have hl0' : 1 ≤ x.l := by omega
      have HR := hid (tick_ok_run HO.out hxj hex)
      have HT := hid (show numOf ts (some j) = x.t by simp [numOf, hxj])
      have HM := hid (show tickTs now ts (some j) = (ts.set j (runT x)).map (passT (now + 1)) by simp only [tickTs]; rw [modify_ofD runT hxj])
      have hFg := H.out.fg g rfl
      have d1 := (H.out.drewN n).put (y := { x with l := x.l - 1 }) (u := .int .i64 ((x.l : Int) - 1)) hxj (j := 3) (by omega) (by simp only [dtCells, List.set_cons_succ, List.set_cons_zero]; congr 5; omega)
      have hlen : (ts.set j (runT x)).length ≤ 1000 := by rw [List.length_set]; exact hl
      have HXJ := hid hxj
      clear hxj hox hl0
      simp only [bestPtr]
      replace hex := hid hex
      by_cases hl1' : x.l = 1
      · have d2 := d1.put (y := runT x) (u := .bool true) (List.getElem?_set_self hj) (j := 6) (by omega) (by simp [dtCells, runT, hl1'])
        rw [set_setD] at d2
        have hb0 : (((x.l : Int) - 1) == 0) = true := by rw [beq_iff_eq]; omega
        have D2 := hid d2
        clear d1 d2
        replace hl1' := hid hl1'
        go_wp2_with fail
        refine (dpass_ok _ F p now _ ⟨_, _, _, D2.out⟩ hlen hn HR.out).mono ?_
        rintro e w' ⟨rfl, p1, p2⟩
        replace p1 := hid p1
        replace p2 := hid p2
        go_wp2
        go_ret
        refine ⟨some j, hb.out, by rw [HT.out]; rfl, by rw [HM.out]; exact p1.out, ?_⟩
        exact ((((Chg.refl F w).drewN n).setCell (p := ⟨g, off + j * 7 + 3, none⟩) (.inl hFg) _).setCell (p := ⟨g, off + j * 7 + 6, none⟩) (.inl hFg) _).trans p2.out (fun _ _ h => h)
      · have hru : ({ x with l := x.l - 1 } : DT) = runT x := by simp [runT, hl1', hxo]
        rw [hru] at d1
        have hb0 : (((x.l : Int) - 1) == 0) = false := by rw [beq_eq_false_iff_ne]; omega
        have D1 := hid d1
        clear d1 hru
        replace hxo := hid hxo
        go_wp2_with fail
        refine (dpass_ok _ F p now _ ⟨_, _, _, D1.out⟩ hlen hn HR.out).mono ?_
        rintro e w' ⟨rfl, p1, p2⟩
        replace p1 := hid p1
        replace p2 := hid p2
        go_wp2
        go_ret
        refine ⟨some j, hb.out, by rw [HT.out]; rfl, by rw [HM.out]; exact p1.out, ?_⟩
        exact (((Chg.refl F w).drewN n).setCell (p := ⟨g, off + j * 7 + 3, none⟩) (.inl hFg) _).trans p2.out (fun _ _ h => h)
def PPick (ts : List DT) (w : World) (e : Ending) (w' : World) : Prop := ∃ b, IsFirst ts ts.length b ∧ e = .returned (.tuple #[.int .i64 (numOf ts b : Nat), .int .i64 (if b.isSome then 0 else 4)]) ∧ ∃ n, w' = w.drewN n
theorem dpick_ok (w : World) (F : Nat → Prop) (p now : Nat) (ts : List DT) (h : DeadAt w F p now ts) (hl : ts.length ≤ 1000) :
    Calls Try.prog 39 #[.pointer (some ⟨p, 0, none⟩)] w (PPick ts w) := by
  obtain ⟨a, c, G, h⟩ := h
  have H := hid h
  clear h
  by_cases h0 : ts.length = 0
  · obtain rfl : ts = [] := List.eq_nil_of_length_eq_zero h0
    clear h0
    go_enter Try.func39, Try.ntmps39
    go_wp2_with (go_at_call 42; refine (dfirst_nil w F p now a c G H.out).mono ?_; rintro e w' ⟨rfl, rfl⟩)
    go_ret2
    exact ⟨none, fun i x hi => absurd hi (by simp), rfl, 0, rfl⟩
  · obtain ⟨g, off, rfl, rfl, hg, hne⟩ := H.out.at (by omega)
    go_enter Try.func39, Try.ntmps39
    go_wp2_with fail
    refine (dfirst_ok w F p now ts g off c _ H.out hl).mono ?_
    rintro e w1 ⟨b, hb, rfl, n, rfl⟩
    replace hb := hid hb
    cases b with
    | none =>
      simp only [bestPtr]
      go_wp2
      go_ret2
      exact ⟨none, hb.out, rfl, n, rfl⟩
    | some j =>
      obtain ⟨x, hj, hxj, hex, _⟩ := id hb.out
      have x0 := H.out.cell hxj 0 (by omega)
      simp only [dtCells, List.getElem?_cons_zero, Nat.add_zero] at x0
      have HT := hid (show numOf ts (some j) = x.t by simp [numOf, hxj])
      clear hxj hex
      simp only [bestPtr]
      go_wp2
      go_ret2
      exact ⟨some j, hb.out, by rw [HT.out]; rfl, n, rfl⟩
theorem dwake_no (w : World) (F : Nat → Prop) (p now : Nat) (ts : List DT) (t : Int) (h : DeadAt w F p now ts) (hl : ts.length ≤ 1000) (ht : ∀ x ∈ ts, (x.t : Int) ≠ t) :
    Calls Try.prog 34 #[.pointer (some ⟨p, 0, none⟩), .int .i64 t] w fun e w' => e = .returned (.int .i64 4) ∧ w = w' := by
  obtain ⟨a, c, G, h⟩ := h
  have HF := hid (dfind_no w F p now ts a c G t h hl ht)
  clear h ht
  go_enter Try.func34, Try.ntmps34
  go_wp2_with (go_at_call 47; refine HF.out.mono ?_; rintro e w' ⟨rfl, rfl⟩)
  go_ret
  exact ⟨rfl, rfl⟩
/-- What Wake makes of a task. -/
def wokeT (now : Nat) (x : DT) : DT := if x.r then x else wakeT now x
def PWake (F : Nat → Prop) (p now : Nat) (ts : List DT) (i : Nat) (x : DT) (w : World) (e : Ending) (w' : World) : Prop := e = .returned (.int .i64 (if x.r then 8 else 0)) ∧ DeadAt w' F p now (ts.set i (wokeT now x)) ∧ Chg F w w'
theorem set_sameD {α : Type} {l : List α} {i : Nat} {x : α} (h : l[i]? = some x) : l.set i x = l := by
  obtain ⟨h1, h2⟩ := List.getElem?_eq_some_iff.1 h
  rw [← h2]; exact List.set_getElem_self _
theorem wk_wrap (d now b l p : Nat) (h1 : now ≤ d) (h2 : d ≤ now + 30) (hb : b ≤ 30) (hl : l ≤ 30) (hp : p ≤ 30) : wrap64 (((d : Int) - (now : Int)) * (b : Int)) = (((d - now) * b : Nat) : Int) ∧ wrap64 ((l : Int) * (p : Int)) = ((l * p : Nat) : Int) := by
  have e1 : (d : Int) - (now : Int) = ((d - now : Nat) : Int) := by omega
  have m1 : (d - now) * b ≤ 30 * 30 := Nat.mul_le_mul (by omega) hb
  have m2 : l * p ≤ 30 * 30 := Nat.mul_le_mul hl hp
  rw [e1, ← Int.natCast_mul, ← Int.natCast_mul]
  exact ⟨IntWalk.wrap64_in _ ⟨by omega, by omega⟩, IntWalk.wrap64_in _ ⟨by omega, by omega⟩⟩
set_option maxHeartbeats 2000000 in
theorem dwake_ok (w : World) (F : Nat → Prop) (p now : Nat) (ts : List DT) (i : Nat) (x : DT) (t : Int) (h : DeadAt w F p now ts) (hl : ts.length ≤ 1000) (hn : now ≤ 1073741824) (hok : DOk now x) (hx : Numbered ts i x t) :
    Calls Try.prog 34 #[.pointer (some ⟨p, 0, none⟩), .int .i64 t] w (PWake F p now ts i x w) := by
  obtain ⟨a, c, G, h⟩ := h
  obtain ⟨x1, x2, x3⟩ := hx
  have hi : i < ts.length := (List.getElem?_eq_some_iff.1 x1).1
  obtain ⟨g, off, rfl, rfl, hg, hne⟩ := h.at (by omega)
  have c5 := h.cell x1 5 (by omega)
  have f5 := h.free (by omega) (off + i * 7 + 5)
  simp only [dtCells, List.getElem?_cons_succ, List.getElem?_cons_zero] at c5
  have HF := hid (dfind_yes w F p now ts g off c _ i x t h hl x1 x2 x3)
  have H := hid h
  have X1 := hid x1
  have HK := hid hok
  have hFg := h.fg g rfl
  cases hr : x.r with
  | true =>
    have hw : wokeT now x = x := by simp [wokeT, hr]
    rw [hr] at c5
    replace hr := hid hr
    replace hw := hid hw
    clear h x1 x2 x3 hok
    go_enter Try.func34, Try.ntmps34
    go_wp2_with (go_at_call 47; refine HF.out.mono ?_; rintro e w' ⟨rfl, rfl⟩)
    go_ret
    refine ⟨by rw [hr.out]; rfl, ?_, Chg.refl F w⟩
    rw [hw.out, set_sameD X1.out]
    exact ⟨_, _, _, H.out⟩
  | false =>
    have hd2 := hok.d2
    have hb2 := hok.b2
    have hp2 := hok.p2
    have hl2 := hok.l2
    have D1 := h.put (y := { x with r := true }) (u := .bool true) x1 (j := 5) (by omega) rfl
    have hx1 := List.getElem?_set_self (l := ts) (i := i) (a := { x with r := true }) hi
    have k0 := D1.c0
    have k1 := D1.cell hx1 1 (by omega)
    have k2 := D1.cell hx1 2 (by omega)
    have k3 := D1.cell hx1 3 (by omega)
    have k4 := D1.cell hx1 4 (by omega)
    have k6 := D1.cell hx1 6 (by omega)
    have g3 := D1.free (by rw [List.length_set]; omega) (off + i * 7 + 3)
    have g4 := D1.free (by rw [List.length_set]; omega) (off + i * 7 + 4)
    simp only [dtCells, List.getElem?_cons_succ, List.getElem?_cons_zero] at k1 k2 k3 k4 k6
    have HD := hid D1
    have HX1 := hid hx1
    have C1 := hid ((Chg.refl F w).setCell (p := ⟨g, off + i * 7 + 5, none⟩) (.inl hFg) (.bool true))
    rw [hr] at c5
    clear h x1 x2 x3 hok D1 hx1
    cases ho : x.o with
    | true =>
      have hw : wokeT now x = { x with r := true } := by simp [wokeT, hr, wakeT, ho]
      rw [ho] at k6
      replace ho := hid ho
      replace hr := hid hr
      replace hw := hid hw
      go_enter Try.func34, Try.ntmps34
      go_wp2_with (go_at_call 47; refine HF.out.mono ?_; rintro e w' ⟨rfl, rfl⟩)
      generalize w.setCell ⟨g, off + i * 7 + 5, none⟩ (.bool true) = W at *
      go_quiet (fail)
      go_wp2
      go_ret
      refine ⟨by rw [hr.out]; rfl, ?_, C1.out.drewN _⟩
      rw [hw.out]
      exact ⟨_, _, _, HD.out.drewN _⟩
    | false =>
      rw [ho] at k6
      have hw := IntWalk.i64_in ((now : Int) + (x.p : Int)) (by omega)
      have FIN : ∀ (W V : World), DA W F p now (ts.set i { x with r := true }) (some ⟨g, off, none⟩) c (some g) → wokeT now x = { x with r := true, l := x.b, d := now + x.p } → DeadAt ((W.setCell ⟨g, off + i * 7 + 3, none⟩ (.int .i64 x.b)).setCell ⟨g, off + i * 7 + 4, none⟩ (.int .i64 ((now : Int) + (x.p : Int)))) F p now (ts.set i (wokeT now x)) := by
        intro W V hW hwk
        have y2 := hW.put (y := { x with r := true, l := x.b }) (u := .int .i64 x.b) HX1.out (j := 3) (by omega) rfl
        have y3 := y2.put (y := { x with r := true, l := x.b, d := now + x.p }) (u := .int .i64 ((now : Int) + (x.p : Int))) (List.getElem?_set_self (by rw [List.length_set]; exact hi)) (j := 4) (by omega) rfl
        rw [set_setD, set_setD, ← hwk] at y3
        exact ⟨_, _, _, y3⟩
      replace FIN := hid FIN
      by_cases hdn : x.d ≤ now
      · have hwk : wokeT now x = { x with r := true, l := x.b, d := now + x.p } := by simp [wokeT, hr, wakeT, ho, hdn]
        have hdi : decide ((x.d : Int) ≤ (now : Int)) = true := by simp; omega
        replace hwk := hid hwk
        replace ho := hid ho
        replace hr := hid hr
        go_enter Try.func34, Try.ntmps34
        go_wp2_with (go_at_call 47; refine HF.out.mono ?_; rintro e w' ⟨rfl, rfl⟩)
        generalize w.setCell ⟨g, off + i * 7 + 5, none⟩ (.bool true) = W at *
        go_quiet (fail)
        go_wp2
        go_region
        go_wp2
        go_ret
        exact ⟨by rw [hr.out]; rfl, FIN.out _ W (HD.out.drewN _) hwk.out, ((C1.out.drewN _).setCell (p := ⟨g, off + i * 7 + 3, none⟩) (.inl hFg) _).setCell (p := ⟨g, off + i * 7 + 4, none⟩) (.inl hFg) _⟩
      · have hdi : decide ((x.d : Int) ≤ (now : Int)) = false := by simp; omega
        replace ho := hid ho
        replace hr := hid hr
        go_enter Try.func34, Try.ntmps34
        go_wp2_with (go_at_call 47; refine HF.out.mono ?_; rintro e w' ⟨rfl, rfl⟩)
        generalize w.setCell ⟨g, off + i * 7 + 5, none⟩ (.bool true) = W at *
        go_quiet (fail)
        go_wp2
        · have hh : wrap64 (((x.d : Int) - (now : Int)) * (x.b : Int)) < wrap64 ((x.l : Int) * (x.p : Int)) := by assumption
          have hkk := wk_wrap x.d now x.b x.l x.p (by omega) (by omega) (by omega) (by omega) (by omega)
          rw [hkk.1, hkk.2] at hh
          have hwk : wokeT now x = { x with r := true, l := x.b, d := now + x.p } := by
            have : (x.d - now) * x.b < x.l * x.p := Int.ofNat_lt.1 hh
            simp [wokeT, hr.out, wakeT, ho.out, this]
          replace hwk := hid hwk
          clear hkk hh
          go_region
          go_wp2
          go_ret
          exact ⟨by rw [hr.out]; rfl, FIN.out _ W (HD.out.drewN _) hwk.out, ((C1.out.drewN _).setCell (p := ⟨g, off + i * 7 + 3, none⟩) (.inl hFg) _).setCell (p := ⟨g, off + i * 7 + 4, none⟩) (.inl hFg) _⟩
        · have hh : wrap64 ((x.l : Int) * (x.p : Int)) ≤ wrap64 (((x.d : Int) - (now : Int)) * (x.b : Int)) := by assumption
          have hkk := wk_wrap x.d now x.b x.l x.p (by omega) (by omega) (by omega) (by omega) (by omega)
          rw [hkk.1, hkk.2] at hh
          have hwk : wokeT now x = { x with r := true } := by
            have : ¬ (x.d - now) * x.b < x.l * x.p := Nat.not_lt.2 (Int.ofNat_le.1 hh)
            simp [wokeT, hr.out, wakeT, ho.out, this, hdn]
          replace hwk := hid hwk
          clear hkk hh
          go_ret
          refine ⟨by rw [hr.out]; rfl, ?_, C1.out.drewN _⟩
          rw [hwk.out]
          exact ⟨_, _, _, HD.out.drewN _⟩
end Go.Proofs.Ytipmjfpoglkiaaa
