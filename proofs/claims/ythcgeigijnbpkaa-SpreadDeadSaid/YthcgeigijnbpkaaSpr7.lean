/- Contracts of package spread: Pin, Wake. Conditions: a run as it may be. -/
import Derived.Test.YthcgeigijnbpkaaSpr6
namespace Go.Proofs.Ythcgeigijnbpkaa
open Go.ChangeShapes Go.WideShapes Go.ChangeAt Go.RowKit
set_option linter.unusedVariables false
theorem mask_no (m k : Nat) (hm : m < 16) (hk : k < 4) : (bits .and .i64 ((m : Int) / 2 ^ k) 1 == 0) = !m.testBit k := by
  have : ∀ (m : Fin 16) (k : Fin 4), (bits .and .i64 ((m.val : Int) / 2 ^ k.val) 1 == 0) = !m.val.testBit k.val := by decide +kernel
  exact this ⟨m, hm⟩ ⟨k, hk⟩
set_option maxHeartbeats 1000000 in
theorem spin_any (w : World) (F : Nat → Prop) (p : Nat) (s : SR) (h : RunAt w F p s) (M : Int) (hok : SOk M s) (hM : M ≤ 1000000) (t : Int) (m : Nat) (m1 : 1 ≤ m) (m2 : m < 2 ^ s.n) :
    Calls Try.prog 15 #[.pointer (some ⟨p, 0, none⟩), .int .i64 t, .int .i64 m] w (PS F p (s.doPin t m).1 (s.doPin t m).2 w) := by
  have HR := hid h
  obtain ⟨g, off, a, c, G, h⟩ := h
  have FN := hid (sfind_ok w F p s g off a c G h hok.len t)
  have c0 := h.c0
  have n1 := hok.n1
  have n4 := hok.n2
  have m16 : m < 16 := Nat.lt_of_lt_of_le m2 (Nat.pow_le_pow_right (by omega) n4)
  obtain ⟨n, hn⟩ : ∃ n, n = s.n := ⟨_, rfl⟩
  rw [← hn] at c0 n1 n4 m2
  clear hn
  have H := hid h
  have OK := hid hok
  have M2 : (m : Int) < 2 ^ n := by exact_mod_cast m2
  have M3 : (2 : Int) ^ n ≤ 16 := by
    have : 2 ^ n ≤ 2 ^ 4 := Nat.pow_le_pow_right (by omega) n4
    exact_mod_cast this
  have M4 : ¬ (2 : Int) ^ n ≤ (m : Int) := by omega
  clear hok h m2
  cases hf : fndI s.ts t with
  | none =>
    have E : Hid (s.doPin t m = (s, 4)) := hid (by unfold SR.doPin; rw [who_none hf])
    rw [hf] at FN
    rw [E.out]
    unfold elV at FN
    clear hf
    go_enter Try.func15, Try.ntmps15
    go_wp2_with fail
    refine FN.out.mono ?_
    rintro e w1 ⟨rfl, hw⟩
    subst hw
    go_wp2
    go_ret
    exact ps_same (w' := w) HR.out 0
  | some i =>
    rw [hf] at FN
    obtain ⟨x, hx, _⟩ := fnd_get hf
    have x11 := H.out.cell hx 11 (by omega)
    have f11 := H.out.free (by have := (List.getElem?_eq_some_iff.1 hx).1; omega) (off + i * 15 + 11)
    simp only [stCells, List.getElem?_cons_succ, List.getElem?_cons_zero] at x11
    unfold elV at FN
    have E : Hid (s.doPin t m = (s.pinTo i m, 0)) := hid (by unfold SR.doPin; rw [who_some hf hx])
    rw [E.out]
    have D1 := H.out.put (y := { x with pin := m }) (u := .int .i64 m) hx (j := 11) (by omega) rfl
    have OK2 := OK.out.upd (i := i) (f := fun x => { x with pin := m }) (Int.le_refl _) (fun x _ hx => hx.pinned m16)
    have hx2 : (upd s.ts i (fun x => { x with pin := m }))[i]? = some { x with pin := m } := by rw [upd_get, if_pos rfl, hx]; rfl
    rw [show ({ s with ts := s.ts.set i { x with pin := m } } : SR) = { s with ts := upd s.ts i (fun x => { x with pin := m }) } by rw [upd_of hx]] at D1
    have k14 := D1.cell hx2 14 (by omega)
    simp only [stCells, List.getElem?_cons_succ, List.getElem?_cons_zero] at k14
    have CA : Hid (∀ i', s.pinTo i' m = match s.ts[i']? with
      | none => s
      | some x => if 0 ≤ x.cpu ∧ m.testBit x.cpu.toNat = false then (({ s with ts := upd s.ts i' (fun x => { x with pin := m }) } : SR).wait i').fill else ({ s with ts := upd s.ts i' (fun x => { x with pin := m }) } : SR).fill) := hid (fun _ => rfl)
    have CB := CA.out i
    rw [hx] at CB
    replace CB := hid CB
    have C := hid ((Chg.refl F w).setCell (p := ⟨g, off + i * 15 + 11, none⟩) (.inl (H.out.gF hx)) (.int .i64 (m : Int)))
    have D := hid D1
    have OK2' := hid OK2
    obtain ⟨s2, hs2⟩ : ∃ s2 : SR, s2 = { s with ts := upd s.ts i (fun x => { x with pin := m }) } := ⟨_, rfl⟩
    have HX3 : Hid (s2.ts[i]? = some { x with pin := m }) := hid (by rw [hs2]; exact hx2)
    rw [← hs2] at D OK2' CB
    have q2 := (OK.out.each x (List.mem_of_getElem? hx)).q2
    clear hf hx D1 OK2 hx2 CA hs2
    obtain ⟨w2, hw2⟩ : ∃ w2, w2 = w.setCell ⟨g, off + i * 15 + 11, none⟩ (.int .i64 (m : Int)) := ⟨_, rfl⟩
    rw [← hw2] at D C k14
    have FL := hid (sfill_ok w2 F p s2 g off a c G D.out M OK2'.out)
    have WT := hid (swait_ok w2 F p s2 g off a c G D.out i _ HX3.out OK2'.out.st1 (by have := OK2'.out.st2; omega))
    have FL2 := hid (fun w3 h => sfill_ok w3 F p (s2.wait i) g off a c G h (M + 1) (OK2'.out.wait i))
    have HW2 := hid hw2
    clear hw2
    go_enter Try.func15, Try.ntmps15
    go_wp2_with fail
    refine FN.out.mono ?_
    rintro e w1 ⟨rfl, hw⟩
    subst hw
    go_upto_region 7 with fail
    rw [← HW2.out]
    by_cases hc0 : 0 ≤ x.cpu
    · obtain ⟨q, hq⟩ := Int.eq_ofNat_of_zero_le hc0
      have hq4 : q < 4 := by omega
      have MN := mask_no m q m16 hq4
      have hmin : min q 64 = q := by omega
      rw [hq] at k14 CB
      rw [Int.toNat_natCast] at CB
      clear hc0 hq q2
      cases hb : m.testBit q with
      | true =>
        rw [hb] at MN
        simp only [Bool.not_true] at MN
        have CE : Hid (s.pinTo i m = s2.fill) := hid (by rw [CB.out]; exact if_neg (by rw [hb]; simp))
        clear hb CB
        go_wp2_with fail
        refine FL.out.mono ?_
        rintro e w4 ⟨rfl, h3, h4⟩
        replace h3 := hid h3
        replace h4 := hid h4
        go_wp2
        go_ret
        rw [CE.out]
        exact ps_ra h3.out (C.out.trans h4.out (fun _ _ h => h))
      | false =>
        rw [hb] at MN
        simp only [Bool.not_false] at MN
        have CE : Hid (s.pinTo i m = (s2.wait i).fill) := hid (by rw [CB.out]; exact if_pos ⟨by omega, hb⟩)
        clear hb CB
        go_wp2_with fail
        refine WT.out.mono ?_
        rintro e w3 ⟨rfl, h1, h2⟩
        have FL3 := hid (FL2.out w3 h1)
        replace h1 := hid h1
        replace h2 := hid h2
        clear FL2
        go_wp2_with fail
        refine FL3.out.mono ?_
        rintro e w4 ⟨rfl, h3, h4⟩
        replace h3 := hid h3
        replace h4 := hid h4
        go_wp2
        go_ret
        rw [CE.out]
        exact ps_ra h3.out ((C.out.trans h2.out (fun _ _ h => h)).trans h4.out (fun _ _ h => h))
    · have CE : Hid (s.pinTo i m = s2.fill) := hid (by rw [CB.out]; exact if_neg (fun h => hc0 h.1))
      clear CB
      go_wp2_with fail
      refine FL.out.mono ?_
      rintro e w4 ⟨rfl, h3, h4⟩
      replace h3 := hid h3
      replace h4 := hid h4
      go_wp2
      go_ret
      rw [CE.out]
      exact ps_ra h3.out (C.out.trans h4.out (fun _ _ h => h))
end Go.Proofs.Ythcgeigijnbpkaa
