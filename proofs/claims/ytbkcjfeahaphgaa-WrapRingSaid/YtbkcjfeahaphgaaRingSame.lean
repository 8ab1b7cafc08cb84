/- slices.EqualFunc over bytes.Equal, of rows that read alike. -/
import Derived.Test.YtbkcjfeahaphgaaRingGet
namespace Go.Proofs.Ytbkcjfeahaphgaa
open Go.ChangeShapes Go.WideShapes Go.ChangeAt Go.RowKit
set_option linter.unusedVariables false
set_option maxHeartbeats 1000000 in
theorem equalF_rows (R R' : Nat → Prop) (a b : Option Addr) (n c d : Nat) (vs vs' : List Value) (rows : List (List Int)) (H H' : Nat → Option Nat) (w : World) (hn : n = rows.length) (h1 : Rd w R 1 a n c vs) (h2 : Rd w R' 1 b n d vs') (k1 : Held w H rows vs) (k2 : Held w H' rows vs') :
    Calls Try.prog 27 #[.slice a n c, .slice b n d, .func (.func 22) #[] #[]] w fun e w' => e = .returned (.bool true) ∧ w = w' := by
  have hnc := h1.1
  have hnd := h2.1
  have hc := h1.2.1
  have hd := h2.2.1
  unfold maxLen at hc hd
  have HN := hid hn
  have H1 := hid h1
  have H2 := hid h2
  have K1 := hid k1
  have K2 := hid k2
  clear h1 h2 k1 k2 hn
  go_enter Try.func27, Try.ntmps27
  go_wp2
  go_loop [17] (fun s17 => ∃ k : Nat, k ≤ n ∧ s17 = .int .i64 k) (fun s17 => n - (intOf s17).toNat)
  case atStart => exact ⟨0, by omega, rfl⟩
  case round =>
    obtain ⟨k, hk, rfl⟩ := hrel
    by_cases hlt : k < n
    · have hkr : k < rows.length := by have := HN.out; omega
      obtain ⟨g, off, rfl, _, _, hc1⟩ := H1.out.cellAt (by omega)
      obtain ⟨g', off', rfl, _, _, hc2⟩ := H2.out.cellAt (by omega)
      obtain ⟨_, a1, c1, u1, v1⟩ := K1.out.2.1 k hkr
      obtain ⟨_, a2, c2, u2, v2⟩ := K2.out.2.1 k hkr
      have e1 := hc1 k hlt
      have e2 := hc2 k hlt
      rw [u1] at e1
      rw [u2] at e2
      clear hc1 hc2 u1 u2
      have V1 := hid v1.rd
      have V2 := hid v2.rd
      clear v1 v2
      go_wp2_with (go_at_call 22; refine (bytes_same _ _ _ _ _ _ _ _ _ _ V1.out V2.out).mono ?_; rintro e w' ⟨rfl, rfl⟩)
      go_round
      case rel => exact ⟨k + 1, by omega, by simp⟩
      case measure => simp [intOf]; omega
    · go_wp2
      go_ret
      exact ⟨rfl, rfl⟩
end Go.Proofs.Ytbkcjfeahaphgaa
