/- Contracts of package admit: Check, gcd, Round, Share, Fits. Conditions: at most 16 uses, each a right one. -/
import Derived.Test.YthcgeigijnbpkaaSlices
import Derived.Test.YthcgeigijnbpkaaAdmitP
import Derived.RegionTactic
namespace Go.Proofs.Ythcgeigijnbpkaa
open Go.ChangeShapes Go.WideShapes Go.ChangeAt Go.RowKit
set_option linter.unusedVariables false
theorem wrap64_nat (n : Nat) (h : n ≤ 1000000000000000000) : wrap64 (n : Int) = n := IntWalk.wrap64_in _ ⟨by omega, by omega⟩
theorem mulq_wrap (n g p : Nat) (h : n ≤ 1000000000000000000) (h2 : n / g * p ≤ 1000000000000000000) : wrap64 (wrap64 ((n : Int) / (g : Int)) * (p : Int)) = ((n / g * p : Nat) : Int) := by
  have hd : n / g ≤ n := Nat.div_le_self _ _
  rw [← Int.natCast_ediv, wrap64_nat _ (by omega), ← Int.natCast_mul, wrap64_nat _ h2]
theorem quo_wrap (n g : Nat) (h : n ≤ 1000000000000000000) : wrap64 ((n : Int) / (g : Int)) = ((n / g : Nat) : Int) := by
  have hd : n / g ≤ n := Nat.div_le_self _ _
  rw [← Int.natCast_ediv, wrap64_nat _ (by omega)]
theorem check_ok (R : Nat → Prop) (a : Option Addr) (c : Nat) (l : List Use) (w : World) (h : Rd w R 2 a l.length c (l.flatMap useCells)) (hl : l.length ≤ 16) (hok : ∀ u ∈ l, u.ok) :
    Calls Try.prog 73 #[.slice a l.length c] w fun e w' => e = .returned (.int .i64 0) ∧ Chg Nil w w' := by
  have H := hid h
  have HO := hid hok
  clear h hok
  go_enter Try.func73, Try.ntmps73
  go_wp2
  go_loopw [10] (fun i wr => ∃ k : Nat, k ≤ l.length ∧ i = .int .i64 k ∧ Hid (Chg Nil w wr)) (fun i _ => l.length - (intOf i).toNat)
  case atStart => exact ⟨0, Nat.zero_le _, rfl, Chg.refl _ _⟩
  case round =>
    obtain ⟨k, hk, rfl, hw⟩ := hrel
    by_cases hlt : k < l.length
    · obtain ⟨g, off, rfl, hg1, hg2, hc⟩ := (H.out.chg hw.out (fun _ _ _ h => h)).elem use_len rfl (by omega)
      have e0 := hc k hlt 0 (by omega)
      have e1 := hc k hlt 1 (by omega)
      clear hc
      simp only [useCells, List.getElem?_cons_succ, List.getElem?_cons_zero, Nat.add_zero] at e0 e1
      obtain ⟨o1, o2, o3⟩ := HO.out l[k] (List.getElem_mem hlt)
      go_wp2
      go_roundw
      case rel => exact ⟨k + 1, by omega, by go_num, hw.out.alloc _⟩
      case measure => simp [intOf]; omega
    · go_wp2
      go_ret
      exact ⟨rfl, hw.out⟩
theorem gcd_any (a b : Nat) (w : World) (ha : a ≤ 1000000000000000000) (hb : b ≤ 1000000000000000000) :
    Calls Try.prog 66 #[.int .i64 a, .int .i64 b] w fun e w' => e = .returned (.int .i64 (Nat.gcd a b : Nat)) ∧ ∃ n, w' = w.drewN n := by
  go_enter Try.func66, Try.ntmps66
  go_wp2
  go_loopw [0, 1] (fun s0 s1 wr => ∃ x y : Nat, x ≤ 1000000000000000000 ∧ y ≤ 1000000000000000000 ∧ s0 = .int .i64 x ∧ s1 = .int .i64 y ∧ Hid (Nat.gcd x y = Nat.gcd a b) ∧ Hid (∃ n, wr = w.drewN n)) (fun _ s1 _ => (intOf s1).toNat)
  case atStart => exact ⟨a, b, ha, hb, rfl, rfl, rfl, 0, rfl⟩
  case round =>
    obtain ⟨x, y, hx, hy, rfl, rfl, hg, hw⟩ := hrel
    by_cases h0 : 0 < y
    · have hlt := Nat.mod_lt x h0
      have HW := hid (show Nat.gcd y (x % y) = Nat.gcd a b by rw [← hg.out, Nat.gcd_comm x y, Nat.gcd_rec y x, Nat.gcd_comm])
      go_wp2
      go_region
      go_wp2
      go_roundw
      case rel =>
        obtain ⟨n, hn⟩ := hw.out
        exact ⟨y, x % y, by omega, by omega, rfl, by go_num, HW, n + 1, by rw [hn]; rfl⟩
      case measure => simp [intOf]; omega
    · obtain rfl : y = 0 := by omega
      go_wp2
      go_ret
      have := hg.out
      rw [Nat.gcd_zero_right] at this
      subst this
      exact ⟨rfl, hw.out⟩
def P2 (a b : Int) (w : World) (e : Ending) (w' : World) : Prop := e = .returned (.tuple #[.int .i64 a, .int .i64 b]) ∧ Chg Nil w w'
theorem round_ok (R : Nat → Prop) (a : Option Addr) (c : Nat) (l : List Use) (w : World) (h : Rd w R 2 a l.length c (l.flatMap useCells)) (hl : l.length ≤ 16) (hok : ∀ u ∈ l, u.ok) :
    Calls Try.prog 65 #[.slice a l.length c] w (P2 (rnd l : Nat) 0 w) := by
  have H := hid h
  have HO := hid hok
  clear h hok
  go_enter Try.func65, Try.ntmps65
  go_wp2_with fail
  refine (check_ok R _ _ l _ H.out hl HO.out).mono ?_
  rintro e w1 ⟨rfl, c1⟩
  replace c1 := hid c1
  go_wp2
  go_loopw [5, 15] (fun s5 i wr => ∃ k : Nat, k ≤ l.length ∧ i = .int .i64 k ∧ s5 = .int .i64 (rnd (l.take k) : Nat) ∧ Hid (Chg Nil w wr)) (fun _ i _ => l.length - (intOf i).toNat)
  case atStart => exact ⟨0, Nat.zero_le _, rfl, rfl, c1⟩
  case round =>
    obtain ⟨k, hk, rfl, rfl, hw⟩ := hrel
    clear c1
    by_cases hlt : k < l.length
    · obtain ⟨g, off, rfl, hg1, hg2, hc⟩ := (H.out.chg hw.out (fun _ _ _ h => h)).elem use_len rfl (by omega)
      have e0 := hc k hlt 0 (by omega)
      have e1 := hc k hlt 1 (by omega)
      clear hc
      simp only [useCells, List.getElem?_cons_succ, List.getElem?_cons_zero, Nat.add_zero] at e0 e1
      obtain ⟨o1, o2, o3⟩ := HO.out l[k] (List.getElem_mem hlt)
      have HT := hid (rnd_take l k hlt)
      have r1 := rnd_pos (take_ok HO.out k)
      have r2 := rnd_le (take_ok HO.out k)
      have r3 := rnd_le (take_ok HO.out (k + 1))
      rw [HT.out] at r3
      unfold rndF at r3
      generalize hn : rnd (List.take k l) = n at *
      replace hn := hid hn
      have hg0 := Nat.gcd_pos_of_pos_left l[k].p (show 0 < n by omega)
      have hgl : Nat.gcd n l[k].p ≤ n := Nat.gcd_le_left _ (by omega)
      have hd : n / Nat.gcd n l[k].p ≤ n := Nat.div_le_self _ _
      go_wp2
      go_quiet ((go_at_call 66; refine Calls.quiet_of (gcd_any _ _ _ (by omega) (by omega))))
      go_wp2
      go_roundw
      case rel => exact ⟨k + 1, by omega, by go_num, by rw [HT.out]; exact congrArg (Value.int .i64) (mulq_wrap n _ _ (by omega) (by omega)), (hw.out.alloc _).drewN _⟩
      case measure => simp [intOf]; omega
    · go_wp2
      go_ret2
      obtain rfl : k = l.length := by omega
      rw [List.take_length]
      exact ⟨rfl, hw.out⟩
theorem demand_step (d t p c : Nat) (h : t / p * c ≤ 1000000000000000) (h2 : d ≤ 1000000000000000) (h3 : t ≤ 1000000000000000) : wrap64 ((d : Int) + wrap64 (wrap64 ((t : Int) / (p : Int)) * (c : Int))) = ((d + t / p * c : Nat) : Int) := by
  rw [mulq_wrap _ _ _ (by omega) (by omega), ← Int.natCast_add, wrap64_nat _ (by omega)]
def P3 (a b c : Int) (w : World) (e : Ending) (w' : World) : Prop := e = .returned (.tuple #[.int .i64 a, .int .i64 b, .int .i64 c]) ∧ Chg Nil w w'
theorem share_ok (R : Nat → Prop) (a : Option Addr) (c : Nat) (l : List Use) (w : World) (h : Rd w R 2 a l.length c (l.flatMap useCells)) (hl : l.length ≤ 16) (hok : ∀ u ∈ l, u.ok) :
    Calls Try.prog 52 #[.slice a l.length c] w (P3 (lowN l : Nat) (lowD l : Nat) 0 w) := by
  have H := hid h
  have HO := hid hok
  clear h hok
  go_enter Try.func52, Try.ntmps52
  go_wp2_with fail
  refine (round_ok R _ _ l _ H.out hl HO.out).mono ?_
  rintro e w1 ⟨rfl, c1⟩
  replace c1 := hid c1
  go_wp2
  have r1 := rnd_pos HO.out
  have r2 := rnd_le HO.out
  have HL := hid (low_pos HO.out)
  have HDN := hid (show lowN l = dem (rnd l) l / Nat.gcd (dem (rnd l) l) (rnd l) from rfl)
  have HDD := hid (show lowD l = rnd l / Nat.gcd (dem (rnd l) l) (rnd l) from rfl)
  generalize hn : rnd l = n at *
  replace hn := hid hn
  go_loopw [7, 21] (fun s7 i wr => ∃ k : Nat, k ≤ l.length ∧ i = .int .i64 k ∧ s7 = .int .i64 (dem n (l.take k) : Nat) ∧ Hid (Chg Nil w wr)) (fun _ i _ => l.length - (intOf i).toNat)
  case atStart => exact ⟨0, Nat.zero_le _, rfl, rfl, c1⟩
  case round =>
    obtain ⟨k, hk, rfl, rfl, hw⟩ := hrel
    clear c1
    have d1 := dem_take_le n l HO.out hl k
    by_cases hlt : k < l.length
    · obtain ⟨g, off, rfl, hg1, hg2, hc⟩ := (H.out.chg hw.out (fun _ _ _ h => h)).elem use_len rfl (by omega)
      have e0 := hc k hlt 0 (by omega)
      have e1 := hc k hlt 1 (by omega)
      clear hc
      simp only [useCells, List.getElem?_cons_succ, List.getElem?_cons_zero, Nat.add_zero] at e0 e1
      obtain ⟨o1, o2, o3⟩ := HO.out l[k] (List.getElem_mem hlt)
      have HT := hid (dem_take n l k hlt)
      have HX := hid (div_mul_le' n l[k].c l[k].p o2)
      generalize hd : dem n (List.take k l) = d at *
      replace hd := hid hd
      go_wp2
      go_quiet (fail)
      go_wp2
      go_roundw
      case rel => exact ⟨k + 1, by omega, by go_num, by rw [HT.out]; exact congrArg (Value.int .i64) (demand_step d n _ _ (by have := HX.out; omega) (by omega) (by omega)), (hw.out.alloc _).drewN _⟩
      case measure => simp [intOf]; omega
    · obtain rfl : k = l.length := by omega
      rw [List.take_length] at d1 ⊢
      generalize hd : dem n l = d at *
      replace hd := hid hd
      go_wp2_with fail
      refine (gcd_any _ _ _ (by omega) (by omega)).mono ?_
      rintro e w2 ⟨rfl, m, rfl⟩
      have hl0 := HL.out
      go_wp2
      go_region
      go_wp2
      go_ret3
      refine ⟨?_, ((hw.out.drewN _).drew)⟩
      rw [HDN.out, HDD.out, quo_wrap _ _ (by omega), quo_wrap _ _ (by omega)]
      rfl
def PF (a : Bool) (c : Int) (w : World) (e : Ending) (w' : World) : Prop := e = .returned (.tuple #[.bool a, .int .i64 c]) ∧ Chg Nil w w'
theorem fits_ok (R : Nat → Prop) (a : Option Addr) (c : Nat) (l : List Use) (m : Nat) (w : World) (h : Rd w R 2 a l.length c (l.flatMap useCells)) (hl : l.length ≤ 16) (hok : ∀ u ∈ l, u.ok) (hm : 1 ≤ m) (hm4 : m ≤ 4) :
    Calls Try.prog 46 #[.slice a l.length c, .int .i64 m] w (PF (decide (fit l m)) 0 w) := by
  have H := hid h
  have HO := hid hok
  clear h hok
  go_enter Try.func46, Try.ntmps46
  go_wp2_with fail
  refine (share_ok R _ _ l _ H.out hl HO.out).mono ?_
  rintro e w1 ⟨rfl, c1⟩
  replace c1 := hid c1
  have b1 := lowN_le HO.out hl
  have b2 := lowD_le HO.out
  have HF := hid (fit_low HO.out m)
  generalize hn : lowN l = n at *
  generalize hd : lowD l = d at *
  replace hn := hid hn
  replace hd := hid hd
  go_wp2
  go_ret2
  refine ⟨?_, c1.out⟩
  have hmd : m * d ≤ 4 * d := Nat.mul_le_mul_right _ hm4
  have e1 : decide ((n : Int) ≤ wrap64 ((m : Int) * (d : Int))) = decide (fit l m) := by
    rw [← Int.natCast_mul, wrap64_nat _ (by omega)]
    have := HF.out
    by_cases hf : fit l m
    · have := this.2 hf
      rw [decide_eq_true hf, decide_eq_true (by omega)]
    · have : ¬ n ≤ m * d := fun h => hf (this.1 h)
      rw [decide_eq_false hf, decide_eq_false (by omega)]
  rw [← e1]
  rfl
end Go.Proofs.Ythcgeigijnbpkaa
