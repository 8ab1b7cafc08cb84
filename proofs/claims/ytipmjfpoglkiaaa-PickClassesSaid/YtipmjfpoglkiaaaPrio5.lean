/- Contracts of package prio: slices.DeleteFunc as Out uses it. Conditions: at most 1000 tasks in each queue. -/
import Derived.Test.YtipmjfpoglkiaaaPrio4
import Derived.Test.YtipmjfpoglkiaaaDel
namespace Go.Proofs.Ytipmjfpoglkiaaa
open Go.ChangeShapes Go.WideShapes Go.ChangeAt Go.RowKit
set_option linter.unusedVariables false
theorem out1_any (g : Nat) (x t : Int) (w : World) (hg : w.cell? ⟨g, 0, none⟩ = some (.int .i64 t)) :
    Calls Try.prog 46 #[.int .i64 x, .pointer (some ⟨g, 0, none⟩)] w fun e w' => e = .returned (.bool (x == t)) ∧ w = w' := by
  go_enter Try.func46, Try.ntmps46
  go_wp2
  go_ret
  exact ⟨rfl, rfl⟩
theorem outIdx (R : Nat → Prop) (a : Option Addr) (n c q : Nat) (l : List Int) (t : Int) (w : World) (h : Rd w R 1 a n c (ints .i64 l)) (hn : n ≤ 4294967296) (hq : w.cell? ⟨q, 0, none⟩ = some (.int .i64 t)) :
    Calls Try.prog 55 #[.slice a n c, .func (.func 46) #[] #[.pointer (some ⟨q, 0, none⟩)]] w fun e w' => e = .returned (.int .i64 (idxI l t)) ∧ w = w' := by
  obtain rfl := h.ilen
  have H := hid h
  have HQ := hid hq
  clear h hq
  go_enter Try.func55, Try.ntmps55
  go_wp2
  go_loop [8] (fun i => ∃ k : Nat, k ≤ l.length ∧ i = .int .i64 k ∧ Hid (∀ j (hj : j < l.length), j < k → l[j] ≠ t)) (fun i => l.length - (intOf i).toNat)
  case atStart => exact ⟨0, Nat.zero_le _, rfl, fun _ _ h => absurd h (by omega)⟩
  case round =>
    obtain ⟨k, hk, rfl, hr⟩ := hrel
    by_cases hlt : k < l.length
    · obtain ⟨g, off, rfl, _, _, hc⟩ := H.out.at hlt
      have hc1 := hc k hlt
      clear hc
      by_cases he : l[k] = t
      · have HB : Hid ((l[k] == t) = true) := by show _; rw [beq_iff_eq]; exact he
        have HE := hid he
        clear he
        go_wp2_with (go_at_call 46; refine (out1_any _ _ t _ HQ.out).mono ?_; rw [HB.out]; rintro e w' ⟨rfl, rfl⟩)
        go_ret
        exact ⟨ret_int (idxI_of hlt HE.out hr.out).symm, rfl⟩
      · have HB : Hid ((l[k] == t) = false) := by show _; rw [beq_eq_false_iff_ne]; exact he
        have HE := hid he
        clear he
        go_wp2_with (go_at_call 46; refine (out1_any _ _ t _ HQ.out).mono ?_; rw [HB.out]; rintro e w' ⟨rfl, rfl⟩)
        go_round
        case rel =>
          refine ⟨k + 1, by omega, by go_num, fun j hj hjk => ?_⟩
          by_cases hjk' : j = k
          · subst hjk'; exact HE.out
          · exact hr.out j hj (by omega)
        case measure => simp [intOf]; omega
    · go_wp2
      go_ret
      exact ⟨ret_int (idxI_none fun j hj => hr.out j hj (by omega)).symm, rfl⟩
set_option maxRecDepth 100000 in
/-- DeleteFunc where the task is there. -/
theorem outDel (a : Option Addr) (n c q : Nat) (G : Option Nat) (l : List Int) (t : Int) (w : World) (h : Sl w 3 1 a n c (ints .i64 l) G) (hn : n ≤ 4294967296) (hq : w.cell? ⟨q, 0, none⟩ = some (.int .i64 t)) (hG : G ≠ some q) (ht : t ∈ l) :
    Calls Try.prog 45 #[.slice a n c, .func (.func 46) #[] #[.pointer (some ⟨q, 0, none⟩)]] w fun e w' => e = .returned (.slice a (keepI t l).length c) ∧ Sl w' 3 1 a (keepI t l).length c (ints .i64 (keepI t l)) G ∧ Chg (Opt G) w w' := by
  obtain rfl := h.rd.ilen
  obtain ⟨k, hk1, hk, hkt, hkb⟩ := idxI_split l t ht
  have HI := hid (outIdx (Opt G) a _ c q l t w h.rd hn hq)
  rw [hk1] at HI
  have HS := hid (DelAt.start hk hkt hkb)
  obtain ⟨g, off, rfl, rfl, hglt⟩ := h.block (by omega)
  have hqlt := (lt_of_cell hq).1
  have HQ := hid hq
  have HL := hid h
  have HG := hid hG
  clear h hq hk1 hkt hkb hG ht
  go_enter Try.func45, Try.ntmps45
  go_wp2_with fail
  refine HI.out.mono ?_
  rintro e w1 ⟨rfl, rfl⟩
  clear HI
  have hk1 : ((k : Int) == -1) = false := by rw [beq_eq_false_iff_ne]; omega
  go_wp2
  clear hk1
  go_loopw [5, 6] (fun s5 s16 wr => ∃ (i j : Nat) (zs : List Int), j ≤ l.length ∧ i < j ∧ s5 = .int .i64 i ∧ s16 = .int .i64 j ∧ Hid (DelAt t l zs i j) ∧ Hid (Sl wr 3 1 (some ⟨g, off, none⟩) l.length c (ints .i64 zs) (some g)) ∧ Hid (Chg (One g) w wr)) (fun _ s16 _ => l.length - (intOf s16).toNat)
  case atStart => exact ⟨k, k + 1, l, by omega, by omega, rfl, by go_num, HS, HL, Chg.refl _ _⟩
  case round =>
    clear HS
    obtain ⟨i, j, zs, hj, hij, rfl, rfl, hD, hS, hC⟩ := hrel
    by_cases hlt : j < l.length
    · obtain ⟨hz, hz2⟩ := hD.out.get hlt
      have hR := hS.out.rd
      obtain ⟨g2, off2, e2, _, _, hc⟩ := hR.at hz
      injection e2 with e2
      injection e2 with e2 e3
      subst e2; subst e3
      have hc1 := hc j hz
      rw [hz2] at hc1
      have hc2 := hc i (by omega)
      have hfr := hS.out.unfrozen (i := i) (by omega)
      have HQ2 : Hid (wr.cell? ⟨q, 0, none⟩ = some (.int .i64 t)) := hid ((hC.out.cell (a := ⟨q, 0, none⟩) hqlt (fun hh => HG.out (by rw [show q = g from hh]))).trans HQ.out)
      by_cases he : l[j] = t
      · have HB : Hid ((l[j] == t) = true) := by show _; rw [beq_iff_eq]; exact he
        have hD2 := hid (hD.out.out hlt he)
        clear he hz2 hc hR
        generalize l[j] = x at hc1 HB
        go_wp2_with (go_at_call 46; refine (out1_any _ _ t _ HQ2.out).mono ?_; rw [HB.out]; rintro e w' ⟨rfl, rfl⟩)
        go_roundw
        case rel => exact ⟨i, j + 1, zs, by omega, by omega, rfl, by go_num, hD2, hS, hC⟩
        case measure => simp [intOf]; omega
      · have HB : Hid ((l[j] == t) = false) := by show _; rw [beq_eq_false_iff_ne]; exact he
        have hD2 := hid (hD.out.keep hlt he)
        have hS2 := hS.out.put (i := i) (by omega) (.int .i64 l[j])
        rw [ints_set] at hS2
        have HS2 := hid hS2
        have HC2 := hid (hC.out.setCell (p := ⟨g, off + i, none⟩) (.inl rfl) (.int .i64 l[j]))
        clear he hz2 hc hR hS2
        generalize l[j] = x at hc1 HB hD2 HS2 HC2
        go_wp2_with (go_at_call 46; refine (out1_any _ _ t _ HQ2.out).mono ?_; rw [HB.out]; rintro e w' ⟨rfl, rfl⟩)
        go_roundw
        case rel => exact ⟨i + 1, j + 1, _, by omega, by omega, by go_num, by go_num, hD2, HS2, HC2⟩
        case measure => simp [intOf]; omega
    · have hjl : j = l.length := by omega
      have hD2 : DelAt t l zs i l.length := by rw [← hjl]; exact hD.out
      obtain ⟨hf1, hf2⟩ := hD2.fin
      have hzl := hD2.len
      have hR := hS.out.rd
      obtain ⟨g2, off2, e2, _, _, hc⟩ := hR.at (i := i) (by omega)
      injection e2 with e2
      injection e2 with e2 e3
      subst e2; subst e3
      have hcl : ∀ ty, (Builtin.clear_ #[30] ty #[.slice (some ⟨g, off + i, none⟩) (l.length - i) (c - i)]).run Try.prog wr = .ok (.tuple #[]) (wr.setCells g (off + i) (List.replicate (l.length - i) (.int .i64 0))) :=
        fun ty => Lib.run_clear_slice wr _ _ ty _ eInt.under (fun _ => rfl) rfl rfl g (off + i) _ _ (by omega) (fun y hy => by rw [show off + i + y = off + (i + y) by omega, hc (i + y) (by omega)]; rfl) (fun y hy => by rw [show off + i + y = off + (i + y) by omega]; exact hS.out.unfrozen (by omega))
      obtain ⟨hS3, hC3⟩ := hS.out.cleared (i := i) (by omega) (by omega) (List.replicate (l.length - i) (.int .i64 0)) (by simp; omega)
      rw [Nat.mul_one, ints_take, hf1] at hS3
      rw [Nat.mul_one] at hC3
      have HS3 := hid hS3
      have HC3 := hid (hC.out.trans hC3 (fun k _ hk => by injection hk with hk; exact hk.symm))
      have HF := hid hf2
      have hic : i ≤ c := by have := hS.out.1; omega
      have hlc : l.length ≤ c := hS.out.1
      have hcm : c ≤ 9223372036854775807 := hS.out.2.1
      clear hc hR hS3 hC3 hf1 hf2 hzl hD2
      go_wp2
      go_ret
      have e := HF.out
      rw [← e]
      exact ⟨rfl, HS3.out, HC3.out.mono (fun _ _ h => by rw [show _ = g from h]; rfl)⟩
end Go.Proofs.Ytipmjfpoglkiaaa
