/- Contract of Last: of numbers among which one has none behind it, such a one is told. Conditions: fewer than 2^32 numbers. -/
import Derived.Test.YtbkcjfeahaphgaaSlices
namespace Go.Proofs.Ytbkcjfeahaphgaa
open Go.ChangeShapes Go.WideShapes Go.ChangeAt Go.RowKit
set_option linter.unusedVariables false
theorem less_u32 (a b : Int) (w : World) :
    Calls Try.prog 11 #[.int .u32 a, .int .u32 b] w fun e w' => e = .returned (.bool (decide (0 < far a b))) ∧ w = w' := by
  go_enter Try.func11, Try.ntmps11
  go_wp2_with (go_at_call 10; refine (far_any _ _ _).mono ?_; rintro e w' ⟨rfl, rfl⟩)
  go_ret
  exact ⟨rfl, rfl⟩
/-- Does one of them stand behind n? -/
def behind (l : List Int) (n : Int) : Bool := l.any (fun m => decide (0 < far n m))
theorem behind_true {l : List Int} {n : Int} {k : Nat} (h : k < l.length) (hb : 0 < far n l[k]) : behind l n = true := by
  unfold behind
  rw [List.any_eq_true]
  exact ⟨l[k], List.getElem_mem h, by simpa using hb⟩
theorem behind_false {l : List Int} {n : Int} (h : ∀ j (hj : j < l.length), far n l[j] ≤ 0) : behind l n = false := by
  unfold behind
  rw [List.any_eq_false]
  intro x hx
  obtain ⟨i, hi, rfl⟩ := List.mem_iff_getElem.1 hx
  simpa using h i hi
theorem last1_any (m n : Int) (q : Nat) (w : World) (hq : w.cell? ⟨q, 0, none⟩ = some (.int .u32 n)) :
    Calls Try.prog 29 #[.int .u32 m, .pointer (some ⟨q, 0, none⟩)] w fun e w' => e = .returned (.bool (decide (0 < far n m))) ∧ w = w' := by
  go_enter Try.func29, Try.ntmps29
  go_wp2_with (go_at_call 11; refine (less_u32 _ _ _).mono ?_; rintro e w' ⟨rfl, rfl⟩)
  go_ret
  exact ⟨rfl, rfl⟩
theorem indexF_u32 (R : Nat → Prop) (a : Option Addr) (n c q : Nat) (l : List Int) (t : Int) (w : World) (h : Rd w R 1 a n c (ints .u32 l)) (hl : n < 4294967296) (hq : w.cell? ⟨q, 0, none⟩ = some (.int .u32 t)) :
    Calls Try.prog 32 #[.slice a n c, .func (.func 29) #[] #[.pointer (some ⟨q, 0, none⟩)]] w fun e w' => ∃ k : Int, e = .returned (.int .i64 k) ∧ (decide (0 ≤ k) = behind l t) ∧ -1 ≤ k ∧ w = w' := by
  obtain rfl := h.ilen
  have H := hid h
  clear h
  go_enter Try.func32, Try.ntmps32
  go_wp2
  go_loop [8] (fun i => ∃ k : Nat, k ≤ l.length ∧ i = .int .i64 k ∧ Hid (∀ j (hj : j < l.length), j < k → far t l[j] ≤ 0)) (fun i => l.length - (intOf i).toNat)
  case atStart => exact ⟨0, Nat.zero_le _, rfl, fun _ _ h => absurd h (by omega)⟩
  case round =>
    obtain ⟨k, hk, rfl, hr⟩ := hrel
    by_cases hlt : k < l.length
    · obtain ⟨g, off, rfl, _, _, hc⟩ := H.out.at hlt
      have hc1 := hc k hlt
      clear hc
      by_cases he : 0 < far t l[k]
      · have hb : decide (0 < far t l[k]) = true := by simpa using he
        have HE := hid he
        clear he
        go_wp2_with (go_at_call 29; refine (last1_any _ t q _ hq).mono ?_; rw [hb]; rintro e w1 ⟨rfl, rfl⟩)
        go_ret
        exact ⟨k, rfl, by rw [behind_true hlt HE.out]; simp, by omega, rfl⟩
      · have hb : decide (0 < far t l[k]) = false := by simpa using he
        have HE := hid (show far t l[k] ≤ 0 by omega)
        clear he
        go_wp2_with (go_at_call 29; refine (last1_any _ t q _ hq).mono ?_; rw [hb]; rintro e w1 ⟨rfl, rfl⟩)
        go_round
        case rel =>
          refine ⟨k + 1, by omega, by go_num, fun j hj hjk => ?_⟩
          by_cases hjk' : j = k
          · subst hjk'; exact HE.out
          · exact hr.out j hj (by omega)
        case measure => simp [intOf]; omega
    · go_wp2
      go_ret
      refine ⟨-1, rfl, ?_, by omega, rfl⟩
      rw [behind_false fun j hj => hr.out j hj (by omega)]
      simp
theorem containsF_u32 (R : Nat → Prop) (a : Option Addr) (n c q : Nat) (l : List Int) (t : Int) (w : World) (h : Rd w R 1 a n c (ints .u32 l)) (hl : n < 4294967296) (hq : w.cell? ⟨q, 0, none⟩ = some (.int .u32 t)) :
    Calls Try.prog 28 #[.slice a n c, .func (.func 29) #[] #[.pointer (some ⟨q, 0, none⟩)]] w fun e w' => e = .returned (.bool (behind l t)) ∧ w = w' := by
  have H := hid h
  clear h
  go_enter Try.func28, Try.ntmps28
  go_wp2_with fail
  refine (indexF_u32 R a _ c q l t _ H.out hl hq).mono ?_
  rintro e w1 ⟨k, rfl, hk, hk2, rfl⟩
  replace hk := hid hk
  go_wp2
  go_ret
  exact ⟨ret_bool hk.out, rfl⟩
theorem last_none (a : Option Addr) (c : Nat) (w : World) :
    Calls Try.prog 17 #[.slice a 0 c] w fun e w' => e = .returned (.tuple #[.int .u32 0, .int .i64 4]) ∧ w = w' := by
  go_enter Try.func17, Try.ntmps17
  go_wp2
  go_ret2
  exact ⟨rfl, rfl⟩
theorem last_some (R : Nat → Prop) (a : Option Addr) (n c : Nat) (l : List Int) (w : World) (h : Rd w R 1 a n c (ints .u32 l)) (hl : n < 4294967296) (h0 : 0 < n) (hex : ∃ x ∈ l, behind l x = false) :
    Calls Try.prog 17 #[.slice a n c] w fun e w' => ∃ x, e = .returned (.tuple #[.int .u32 x, .int .i64 0]) ∧ x ∈ l ∧ behind l x = false ∧ Chg Nil w w' := by
  obtain rfl := h.ilen
  have H := hid h
  have HX := hid hex
  have h0b : ((l.length : Int) == 0) = false := by rw [beq_eq_false_iff_ne]; omega
  clear h hex
  go_enter Try.func17, Try.ntmps17
  go_wp2
  go_loopw [11] (fun s11 wr => ∃ k : Nat, k ≤ l.length ∧ s11 = .int .i64 k ∧ Hid (Chg Nil w wr ∧ ∀ j (hj : j < l.length), j < k → behind l l[j] = true)) (fun s11 _ => l.length - (intOf s11).toNat)
  case atStart => exact ⟨0, by omega, rfl, Chg.refl _ _, fun j _ h => absurd h (by omega)⟩
  case round =>
    obtain ⟨k, hk, rfl, hJ⟩ := hrel
    obtain ⟨j1, j2⟩ := id hJ.out
    by_cases hlt : k < l.length
    · have hr := H.out.chg j1 (fun _ _ _ h => h)
      obtain ⟨g, off, rfl, _, _, hc⟩ := hr.at hlt
      have hc1 := hc k hlt
      clear hc
      have HR2 := hid (hr.alloc (.cells #[.int .u32 l[k]] 22))
      have hq : (wr.alloc (.cells #[.int .u32 l[k]] 22)).cell? ⟨wr.heap.size, 0, none⟩ = some (.int .u32 l[k]) := (Blk.new wr 22 [.int .u32 l[k]]).cell 0
      have HQ := hid hq
      clear hr hq
      replace j1 := hid j1
      replace j2 := hid j2
      cases hb : behind l l[k] with
      | false =>
        go_wp2_with (go_at_call 28; refine (containsF_u32 _ _ _ _ _ l l[k] _ HR2.out (by omega) HQ.out).mono ?_; rw [hb]; rintro e w1 ⟨rfl, rfl⟩)
        go_ret2
        exact ⟨l[k], rfl, List.getElem_mem hlt, hb, j1.out.alloc _⟩
      | true =>
        go_wp2_with (go_at_call 28; refine (containsF_u32 _ _ _ _ _ l l[k] _ HR2.out (by omega) HQ.out).mono ?_; rw [hb]; rintro e w1 ⟨rfl, rfl⟩)
        go_roundw
        case rel =>
          refine ⟨k + 1, by omega, by go_num, j1.out.alloc _, fun j hj hjk => ?_⟩
          by_cases hjk' : j = k
          · subst hjk'; exact hb
          · exact j2.out j hj (by omega)
        case measure => simp [intOf]; omega
    · exfalso
      obtain ⟨x, hx, hf⟩ := HX.out
      obtain ⟨i, hi, rfl⟩ := List.mem_iff_getElem.1 hx
      rw [j2 i hi (by omega)] at hf
      cases hf
end Go.Proofs.Ytbkcjfeahaphgaa
