/- The comparison of the law HeapSorts: by what the numbers stand for, and then by themselves. Conditions: the numbers lie in the row. -/
import Derived.Test.YtnehdpjaioljcaaSortsP
import Derived.Deep.QuietTactic
import Derived.BigQuiet
import Derived.RegionTactic
import Derived.BigRegion
import Derived.Deep.RegionLaw
namespace Go.Proofs.Ytnehdpjaioljcaa
open Go.ChangeShapes Go.WideShapes Go.ChangeAt Go.RowKit
set_option linter.unusedVariables false
theorem or_ok (g : Nat) (x y : Int) (w : World) (h0 : w.cell? ⟨g, 0, none⟩ = some (.int .i64 x)) (h1 : w.cell? ⟨g, 1, none⟩ = some (.int .i64 y)) :
    Calls Try.prog 10 #[.slice (some ⟨g, 0, none⟩) 2 2] w fun e w' => e = .returned (.int .i64 (if x = 0 then y else x)) ∧ w' = w := by
  obtain ⟨v, hv⟩ : ∃ v, v = if x = 0 then y else x := ⟨_, rfl⟩
  rw [← hv]
  by_cases hx : x = 0
  · subst hx
    rw [if_pos rfl] at hv
    subst hv
    by_cases hy : v = 0
    · subst hy
      go_enter Try.func10, Try.ntmps10
      go_wp2
      go_loop [8] (fun i => ∃ k : Nat, k ≤ 2 ∧ i = .int .i64 k) (fun i => 2 - (intOf i).toNat)
      case atStart => exact ⟨0, by omega, rfl⟩
      case round =>
        obtain ⟨k, hk, rfl⟩ := hrel
        have hkk : k = 0 ∨ k = 1 ∨ k = 2 := by omega
        rcases hkk with rfl | rfl | rfl
        · go_wp2
          go_round
          case rel => exact ⟨1, by omega, by go_num⟩
          case measure => simp [intOf]
        · go_wp2
          go_round
          case rel => exact ⟨2, by omega, by go_num⟩
          case measure => simp [intOf]
        · go_wp2
          go_ret
          exact ⟨rfl, rfl⟩
    · have hb : (v == 0) = false := by rw [beq_eq_false_iff_ne]; exact hy
      have HY := hid hy
      clear hy
      go_enter Try.func10, Try.ntmps10
      go_wp2
      go_loop [8] (fun i => ∃ k : Nat, k ≤ 1 ∧ i = .int .i64 k) (fun i => 2 - (intOf i).toNat)
      case atStart => exact ⟨0, by omega, rfl⟩
      case round =>
        obtain ⟨k, hk, rfl⟩ := hrel
        have hkk : k = 0 ∨ k = 1 := by omega
        rcases hkk with rfl | rfl
        · go_wp2
          go_round
          case rel => exact ⟨1, by omega, by go_num⟩
          case measure => simp [intOf]
        · go_wp2
          go_ret
          exact ⟨rfl, rfl⟩
  · rw [if_neg hx] at hv
    subst hv
    have hb : (v == 0) = false := by rw [beq_eq_false_iff_ne]; exact hx
    go_enter Try.func10, Try.ntmps10
    go_wp2
    go_loop [8] (fun i => i = .int .i64 0) (fun i => 2 - (intOf i).toNat)
    case atStart => exact rfl
    case round =>
      obtain rfl := hrel
      go_wp2
      go_ret
      exact ⟨rfl, rfl⟩
def keyL (l : List Int) (i : Nat) : Int := l.getD i 0
set_option maxHeartbeats 1000000 in
theorem cmp1_ok (lb : Nat) (R : Nat → Prop) (a : Option Addr) (n c : Nat) (l : List Int) (i j : Nat) (w : World) (hb : w.cell? ⟨lb, 0, none⟩ = some (.slice a n c)) (hr : Rd w R 1 a n c (ints .i64 l)) (hi : i < n) (hj : j < n) :
    Calls Try.prog 9 #[.int .i64 (i : Int), .int .i64 (j : Int), .pointer (some ⟨lb, 0, none⟩)] w fun e w' => e = .returned (.int .i64 (cfK (keyL l) i j)) ∧ w' = w.drew.alloc (.cells #[.int .i64 (cmpI (keyL l i) (keyL l j)), .int .i64 (cmpI (i : Int) (j : Int))] 3) := by
  obtain rfl := hr.ilen
  obtain ⟨g, off, rfl, _, _, hc⟩ := hr.at hi
  have x1 := hc i hi
  have x2 := hc j hj
  have k1 : l[i] = keyL l i := by unfold keyL; simp [List.getD, List.getElem?_eq_getElem hi]
  have k2 : l[j] = keyL l j := by unfold keyL; simp [List.getD, List.getElem?_eq_getElem hj]
  rw [k1] at x1
  rw [k2] at x2
  have E : Hid (cfK (keyL l) i j = if cmpI (keyL l i) (keyL l j) = 0 then cmpI (i : Int) (j : Int) else cmpI (keyL l i) (keyL l j)) := hid rfl
  obtain ⟨r, hrr⟩ : ∃ r, r = cfK (keyL l) i j := ⟨_, rfl⟩
  rw [← hrr] at E ⊢
  clear hc k1 k2 hrr hr
  have i1 : (i : Int) < (l.length : Int) := by omega
  have j1 : (j : Int) < (l.length : Int) := by omega
  generalize keyL l i = u at x1 E ⊢
  generalize keyL l j = v at x2 E ⊢
  have C1 := hid (compare_int u v)
  have C2 := hid (compare_int (i : Int) (j : Int))
  generalize cmpI u v = p at C1 E ⊢
  generalize cmpI (i : Int) (j : Int) = q at C2 E ⊢
  have OO := or_ok w.heap.size p q (w.drew.alloc (.cells #[.int .i64 p, .int .i64 q] 3)) ((Blk.new w 3 [.int .i64 p, .int .i64 q]).cell 0) ((Blk.new w 3 [.int .i64 p, .int .i64 q]).cell 1)
  rw [← E.out] at OO
  replace OO := hid OO
  go_enter Try.func9, Try.ntmps9
  go_upto_region 1 with fail
  go_region_law (first | (go_simp; go_at_call 11; first | ((with_reducible refine (C1.out _).mono ?_); rintro e w' ⟨rfl, rfl⟩) | ((with_reducible refine (C2.out _).mono ?_); rintro e w' ⟨rfl, rfl⟩)) | (go_simp; go_at_call 10; refine OO.out.mono ?_; rintro e w' ⟨rfl, rfl⟩))
  all_goals
    go_wp2
    go_ret
    exact ⟨rfl, rfl⟩
end Go.Proofs.Ytnehdpjaioljcaa
