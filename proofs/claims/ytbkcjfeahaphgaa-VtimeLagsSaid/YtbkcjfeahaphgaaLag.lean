/- Contract of Lag: by how much one has less than its share. Conditions: as many weights as ticks, at most 16, each in its bounds. -/
import Derived.Test.YtbkcjfeahaphgaaSlices
namespace Go.Proofs.Ytbkcjfeahaphgaa
open Go.ChangeShapes Go.WideShapes Go.ChangeAt Go.RowKit
set_option linter.unusedVariables false
theorem sum_take_succ (l : List Int) (k : Nat) (h : k < l.length) : (l.take (k + 1)).sum = (l.take k).sum + l[k] := by
  rw [List.take_succ_eq_append_getElem h, List.sum_append]
  simp
theorem sum_bd (l : List Int) (a b : Int) (h : ∀ x ∈ l, a ≤ x ∧ x ≤ b) : a * l.length ≤ l.sum ∧ l.sum ≤ b * l.length := by
  induction l with
  | nil => simp
  | cons x l ih =>
    have h1 := h x (by simp)
    have h2 := ih (fun y hy => h y (by simp [hy]))
    simp only [List.sum_cons, List.length_cons, Int.natCast_add, Int.mul_add]
    omega
theorem sum_take_bd (l : List Int) (a b : Int) (k : Nat) (hk : k ≤ l.length) (h : ∀ x ∈ l, a ≤ x ∧ x ≤ b) : a * k ≤ (l.take k).sum ∧ (l.take k).sum ≤ b * k := by
  have := sum_bd (l.take k) a b (fun x hx => h x (List.mem_of_mem_take hx))
  rw [List.length_take, Nat.min_eq_left hk] at this
  exact this
/-- The lag. -/
def lagOf (ws ts : List Int) (i : Nat) : Int := ts.sum * ws.getD i 0 - ts.getD i 0 * ws.sum
theorem lag_ok (R R' : Nat → Prop) (a b : Option Addr) (n i c c' : Nat) (ws ts : List Int) (w : World) (h : Rd w R 1 a n c (ints .i64 ws)) (h' : Rd w R' 1 b n c' (ints .i64 ts)) (hn : n ≤ 16)
    (hw : ∀ x ∈ ws, 1 ≤ x ∧ x ≤ 100) (ht : ∀ x ∈ ts, 0 ≤ x ∧ x ≤ 1073741824) (hi : i < n) :
    Calls Try.prog 15 #[.slice a n c, .slice b n c', .int .i64 i] w fun e w' => e = .returned (.tuple #[.int .i64 (lagOf ws ts i), .int .i64 0]) ∧ ∃ k, w' = w.drewN k := by
  obtain rfl := h.ilen
  have hl := h'.ilen
  have H := hid h
  have H' := hid h'
  have HW := hid hw
  have HT := hid ht
  have HL := hid hl
  clear h h' hw ht hl
  go_enter Try.func15, Try.ntmps15
  go_wp2
  go_loopw [8, 9, 26] (fun s8 s9 s26 wr => ∃ k : Nat, k ≤ ws.length ∧ s26 = .int .i64 k ∧ s8 = .int .i64 (ts.take k).sum ∧ s9 = .int .i64 (ws.take k).sum ∧ Hid (∃ q, wr = w.drewN q)) (fun _ _ s26 _ => ws.length - (intOf s26).toNat)
  case atStart => exact ⟨0, by omega, rfl, rfl, rfl, 0, rfl⟩
  case round =>
    obtain ⟨k, hk, rfl, rfl, rfl, q, rfl⟩ := hrel
    have l1 : k ≤ ts.length := by have := HL.out; omega
    have b1 := sum_take_bd ts 0 1073741824 k l1 HT.out
    have b2 := sum_take_bd ws 1 100 k hk HW.out
    by_cases hlt : k < ws.length
    · have hlt' : k < ts.length := by have := HL.out; omega
      obtain ⟨g, off, rfl, _, _, hc⟩ := H.out.at hlt
      obtain ⟨g', off', rfl, _, _, hd⟩ := H'.out.at hlt'
      have hc1 := hc k hlt
      have hd1 := hd k hlt'
      clear hc hd
      have w1 := HW.out ws[k] (List.getElem_mem hlt)
      have t1 := HT.out ts[k] (List.getElem_mem hlt')
      have s1 := hid (sum_take_succ ws k hlt)
      have s2 := hid (sum_take_succ ts k hlt')
      have i1 : (k : Int) < (ws.length : Int) := by omega
      go_wp2
      go_quiet (fail)
      go_wp2
      go_roundw
      case rel => exact ⟨k + 1, by omega, by go_num, by rw [s2.out], by rw [s1.out], _, rfl⟩
      case measure => simp [intOf]; omega
    · obtain rfl : k = ws.length := by omega
      have e1 : ts.take ws.length = ts := by rw [← HL.out]; exact List.take_length
      rw [List.take_length, e1]
      rw [e1] at b1
      rw [List.take_length] at b2
      clear e1
      have hi' : i < ts.length := by have := HL.out; omega
      obtain ⟨g, off, rfl, _, _, hc⟩ := H.out.at hi
      obtain ⟨g', off', rfl, _, _, hd⟩ := H'.out.at hi'
      have hc1 := hc i hi
      have hd1 := hd i hi'
      clear hc hd
      have w1 := HW.out ws[i] (List.getElem_mem hi)
      have t1 := HT.out ts[i] (List.getElem_mem hi')
      have i1 : (i : Int) < (ws.length : Int) := by omega
      have p1 : 0 ≤ ts.sum * ws[i] ∧ ts.sum * ws[i] ≤ 17179869184 * 100 := ⟨Int.mul_nonneg (by omega) (by omega), Int.mul_le_mul (by omega) (by omega) (by omega) (by omega)⟩
      have p2 : 0 ≤ ts[i] * ws.sum ∧ ts[i] * ws.sum ≤ 1073741824 * 1600 := ⟨Int.mul_nonneg (by omega) (by omega), Int.mul_le_mul (by omega) (by omega) (by omega) (by omega)⟩
      have hv : lagOf ws ts i = ts.sum * ws[i] - ts[i] * ws.sum := by
        unfold lagOf
        rw [List.getD_eq_getElem?_getD, List.getD_eq_getElem?_getD, List.getElem?_eq_getElem hi, List.getElem?_eq_getElem hi']
        rfl
      replace hv := hid hv
      go_wp2
      go_quiet (fail)
      go_wp2
      go_ret2
      rw [hv.out]
      exact ⟨rfl, _, World.drewN_drewN _ _ _⟩
end Go.Proofs.Ytbkcjfeahaphgaa
