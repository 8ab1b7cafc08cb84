/- Contracts of package spread: Boost, Calm, Pin. Conditions: a run as it may be. -/
import Derived.Test.YthcgeigijnbpkaaSpr5
namespace Go.Proofs.Ythcgeigijnbpkaa
open Go.ChangeShapes Go.WideShapes Go.ChangeAt Go.RowKit
set_option linter.unusedVariables false
theorem valB_bd {cl v : Int} (h : valB cl v = true) : 1 ≤ cl ∧ cl ≤ 2 ∧ 0 ≤ v ∧ v ≤ 100 ∧ (cl = 1 → 1 ≤ v) := by
  unfold valB at h
  split at h
  · have := of_decide_eq_true h; omega
  · split at h
    · have := of_decide_eq_true h; omega
    · cases h
theorem sboost_any (w : World) (F : Nat → Prop) (p : Nat) (s : SR) (h : RunAt w F p s) (m : Int) (hok : SOk m s) (t cl v : Int) (hv : valB cl v = true) :
    Calls Try.prog 21 #[.pointer (some ⟨p, 0, none⟩), .int .i64 t, .int .i64 cl, .int .i64 v] w (PS F p (s.doBoost t cl v).1 (s.doBoost t cl v).2 w) := by
  have HR := hid h
  obtain ⟨g, off, a, c, G, h⟩ := h
  have FN := hid (sfind_ok w F p s g off a c G h hok.len t)
  have VL : Hid (∀ w, Calls Try.prog 35 #[.int .i64 cl, .int .i64 v] w fun e w' => e = .returned (.bool true) ∧ w = w') := hid (fun w => by
    have := svalue_ok w cl v
    rwa [hv] at this)
  obtain ⟨b1, b2, b3, b4, _⟩ := valB_bd hv
  have H := hid h
  have OK := hid hok
  clear hok h hv
  cases hf : fndI s.ts t with
  | none =>
    have E : Hid (s.doBoost t cl v = (s, 4)) := hid (by unfold SR.doBoost; rw [who_none hf])
    rw [hf] at FN
    rw [E.out]
    unfold elV at FN
    clear hf
    go_enter Try.func21, Try.ntmps21
    go_wp2_with fail
    refine (VL.out _).mono ?_
    rintro e w1 ⟨rfl, hw⟩
    subst hw
    go_wp2_with fail
    refine FN.out.mono ?_
    rintro e w1 ⟨rfl, hw⟩
    subst hw
    go_wp2
    go_ret
    exact ps_same (w' := w) HR.out 0
  | some i =>
    rw [hf] at FN
    obtain ⟨x, hx, _⟩ := fnd_get hf
    have x3 := H.out.cell hx 3 (by omega)
    have x4 := H.out.cell hx 4 (by omega)
    have f3 := H.out.free (by have := (List.getElem?_eq_some_iff.1 hx).1; omega) (off + i * 15 + 3)
    have f4 := H.out.free (by have := (List.getElem?_eq_some_iff.1 hx).1; omega) (off + i * 15 + 4)
    simp only [stCells, List.getElem?_cons_succ, List.getElem?_cons_zero] at x3 x4
    unfold elV at FN
    have E : Hid (s.doBoost t cl v = (s.boost i cl v, 0)) := hid (by unfold SR.doBoost; rw [who_some hf hx])
    rw [E.out]
    have D1 := H.out.put (y := { x with mo := cl }) (u := .int .i64 cl) hx (j := 3) (by omega) rfl
    have D2 := D1.put (i := i) (x := { x with mo := cl }) (y := { x with mo := cl, wi := v }) (u := .int .i64 v) (set_get hx) (j := 4) (by omega) rfl
    have FL := hid (sfill_ok _ F p _ g off a c G D2 m (by
      have := OK.out.upd (i := i) (f := fun x => { x with mo := cl, wi := v }) (Int.le_refl _) (fun x _ hx => hx.boost (by omega) b2 b3 b4)
      rw [upd_of hx] at this
      show SOk m { s with ts := (s.ts.set i _).set i _ }
      rw [set_set]
      exact this))
    have FE : Hid (({ s with ts := (s.ts.set i { x with mo := cl }).set i { x with mo := cl, wi := v } } : SR).fill = s.boost i cl v) := hid (by unfold SR.boost; rw [upd_of hx, set_set])
    have C := hid (((Chg.refl F w).setCell (p := ⟨g, off + i * 15 + 3, none⟩) (.inl (H.out.gF hx)) (.int .i64 cl)).setCell (p := ⟨g, off + i * 15 + 4, none⟩) (.inl (H.out.gF hx)) (.int .i64 v))
    clear hf hx D1 D2
    go_enter Try.func21, Try.ntmps21
    go_wp2_with fail
    refine (VL.out _).mono ?_
    rintro e w1 ⟨rfl, hw⟩
    subst hw
    go_wp2_with fail
    refine FN.out.mono ?_
    rintro e w1 ⟨rfl, hw⟩
    subst hw
    go_wp2_with fail
    refine FL.out.mono ?_
    rintro e w2 ⟨rfl, h1, h2⟩
    replace h1 := hid h1
    replace h2 := hid h2
    go_wp2
    go_ret
    have h3 := h1.out
    rw [← FE.out]
    exact ps_ra h3 (C.out.trans h2.out (fun _ _ h => h))
set_option maxHeartbeats 1000000 in
theorem scalm_any (w : World) (F : Nat → Prop) (p : Nat) (s : SR) (h : RunAt w F p s) (m : Int) (hok : SOk m s) (hm : m ≤ 1000000) (t : Int) :
    Calls Try.prog 22 #[.pointer (some ⟨p, 0, none⟩), .int .i64 t] w (PS F p (s.doCalm t).1 (s.doCalm t).2 w) := by
  have HR := hid h
  obtain ⟨g, off, a, c, G, h⟩ := h
  have FN := hid (sfind_ok w F p s g off a c G h hok.len t)
  have H := hid h
  have OK := hid hok
  clear hok h
  cases hf : fndI s.ts t with
  | none =>
    have E : Hid (s.doCalm t = (s, 4)) := hid (by unfold SR.doCalm; rw [who_none hf])
    rw [hf] at FN
    rw [E.out]
    unfold elV at FN
    clear hf
    go_enter Try.func22, Try.ntmps22
    go_wp2_with fail
    refine FN.out.mono ?_
    rintro e w1 ⟨rfl, hw⟩
    subst hw
    go_wp2
    go_ret
    exact ps_same (w' := w) HR.out 0
  | some i =>
    rw [hf] at FN
    obtain ⟨x, hx, _⟩ := fnd_get hf
    have x3 := H.out.cell hx 3 (by omega)
    have x4 := H.out.cell hx 4 (by omega)
    have f3 := H.out.free (by have := (List.getElem?_eq_some_iff.1 hx).1; omega) (off + i * 15 + 3)
    have f4 := H.out.free (by have := (List.getElem?_eq_some_iff.1 hx).1; omega) (off + i * 15 + 4)
    simp only [stCells, List.getElem?_cons_succ, List.getElem?_cons_zero] at x3 x4
    unfold elV at FN
    by_cases hmo : x.mo = 0
    · have hb : (x.mo == 0) = true := by rw [beq_iff_eq]; exact hmo
      have E : Hid (s.doCalm t = (s, 8)) := hid (by unfold SR.doCalm; rw [who_some hf hx]; simp [hmo])
      rw [E.out]
      clear hf hx hmo
      go_enter Try.func22, Try.ntmps22
      go_wp2_with fail
      refine FN.out.mono ?_
      rintro e w1 ⟨rfl, hw⟩
      subst hw
      go_wp2
      go_ret
      exact ps_same (w' := w) HR.out 0
    · have hb : (x.mo == 0) = false := by rw [beq_eq_false_iff_ne]; exact hmo
      have E : Hid (s.doCalm t = (s.calm i, 0)) := hid (by unfold SR.doCalm; rw [who_some hf hx]; simp [hmo])
      rw [E.out]
      have D1 := H.out.put (y := { x with mo := 0 }) (u := .int .i64 0) hx (j := 3) (by omega) rfl
      have D2 := D1.put (i := i) (x := { x with mo := 0 }) (y := { x with mo := 0, wi := 0 }) (u := .int .i64 0) (set_get hx) (j := 4) (by omega) rfl
      have UE : (s.ts.set i { x with mo := 0 }).set i { x with mo := 0, wi := 0 } = upd s.ts i (fun x => { x with mo := 0, wi := 0 }) := by rw [upd_of hx, set_set]
      have OK2 := OK.out.upd (i := i) (f := fun x => { x with mo := 0, wi := 0 }) (Int.le_refl _) (fun x _ hx => hx.boost (by omega) (by omega) (by omega) (by omega))
      have hx2 : (upd s.ts i (fun x => { x with mo := 0, wi := 0 }))[i]? = some { x with mo := 0, wi := 0 } := by rw [upd_get, if_pos rfl, hx]; rfl
      rw [show ({ s with ts := (s.ts.set i { x with mo := 0 }).set i { x with mo := 0, wi := 0 } } : SR) = { s with ts := upd s.ts i (fun x => { x with mo := 0, wi := 0 }) } by rw [UE]] at D2
      have k13 := D2.cell hx2 13 (by omega)
      have k14 := D2.cell hx2 14 (by omega)
      simp only [stCells, List.getElem?_cons_succ, List.getElem?_cons_zero] at k13 k14
      have CA : Hid (∀ i', s.calm i' = match s.ts[i']? with
        | none => s
        | some x => if x.o = true ∧ 0 ≤ x.cpu then (({ s with ts := upd s.ts i' (fun x => { x with mo := 0, wi := 0 }) } : SR).wait i').fill else ({ s with ts := upd s.ts i' (fun x => { x with mo := 0, wi := 0 }) } : SR).fill) := hid (fun _ => rfl)
      have CB := CA.out i
      rw [hx] at CB
      replace CB := hid CB
      have C := hid (((Chg.refl F w).setCell (p := ⟨g, off + i * 15 + 3, none⟩) (.inl (H.out.gF hx)) (.int .i64 0)).setCell (p := ⟨g, off + i * 15 + 4, none⟩) (.inl (H.out.gF hx)) (.int .i64 0))
      have D := hid D2
      have OK2' := hid OK2
      have HX2 := hid hx2
      obtain ⟨s2, hs2⟩ : ∃ s2 : SR, s2 = { s with ts := upd s.ts i (fun x => { x with mo := 0, wi := 0 }) } := ⟨_, rfl⟩
      have ST : Hid (s2.st = s.st) := hid (by rw [hs2])
      have HX3 : Hid (s2.ts[i]? = some { x with mo := 0, wi := 0 }) := hid (by rw [hs2]; exact hx2)
      rw [← hs2] at D OK2' CB
      clear hf hx D1 D2 UE OK2 hx2 CA hs2 HX2 hmo
      obtain ⟨w2, hw2⟩ : ∃ w2, w2 = (w.setCell ⟨g, off + i * 15 + 3, none⟩ (.int .i64 0)).setCell ⟨g, off + i * 15 + 4, none⟩ (.int .i64 0) := ⟨_, rfl⟩
      rw [← hw2] at D C k13 k14
      have FL := hid (sfill_ok w2 F p s2 g off a c G D.out m OK2'.out)
      have WT := hid (swait_ok w2 F p s2 g off a c G D.out i _ HX3.out OK2'.out.st1 (by have := OK2'.out.st2; omega))
      have FL2 := hid (fun w3 h => sfill_ok w3 F p (s2.wait i) g off a c G h (m + 1) (OK2'.out.wait i))
      have HW2 := hid hw2
      clear hw2
      go_enter Try.func22, Try.ntmps22
      go_wp2_with fail
      refine FN.out.mono ?_
      rintro e w1 ⟨rfl, hw⟩
      subst hw
      go_upto_region 7 with fail
      rw [← HW2.out]
      by_cases hc : x.o = true ∧ 0 ≤ x.cpu
      · have CE : Hid (s.calm i = (s2.wait i).fill) := hid (by rw [CB.out]; exact if_pos hc)
        obtain ⟨hc1, hc2⟩ := hc
        rw [hc1] at k13
        clear hc1 CB
        go_wp2_with fail
        refine WT.out.mono ?_
        rintro e w3 ⟨rfl, h1, h2⟩
        have FL3 := hid (FL2.out w3 h1)
        replace h1 := hid h1
        replace h2 := hid h2
        clear FL2
        go_wp2_with fail
        refine FL3.out.mono ?_
        rintro e w4 ⟨rfl, h3, h4⟩
        replace h3 := hid h3
        replace h4 := hid h4
        go_wp2
        go_ret
        rw [CE.out]
        exact ps_ra h3.out ((C.out.trans h2.out (fun _ _ h => h)).trans h4.out (fun _ _ h => h))
      · have CE : Hid (s.calm i = s2.fill) := hid (by rw [CB.out]; exact if_neg hc)
        clear CB
        cases ho : x.o with
        | false =>
          rw [ho] at k13
          clear hc ho
          go_wp2_with fail
          refine FL.out.mono ?_
          rintro e w4 ⟨rfl, h3, h4⟩
          replace h3 := hid h3
          replace h4 := hid h4
          go_wp2
          go_ret
          rw [CE.out]
          exact ps_ra h3.out (C.out.trans h4.out (fun _ _ h => h))
        | true =>
          rw [ho] at k13
          have hc2 : ¬ 0 ≤ x.cpu := fun h => hc ⟨ho, h⟩
          clear hc ho
          go_wp2_with fail
          refine FL.out.mono ?_
          rintro e w4 ⟨rfl, h3, h4⟩
          replace h3 := hid h3
          replace h4 := hid h4
          go_wp2
          go_ret
          rw [CE.out]
          exact ps_ra h3.out (C.out.trans h4.out (fun _ _ h => h))
end Go.Proofs.Ythcgeigijnbpkaa
