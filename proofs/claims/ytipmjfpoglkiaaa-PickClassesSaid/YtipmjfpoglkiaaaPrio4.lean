/- Contracts of package prio: First where the bits are 40, and the beginning of the statements. -/
import Derived.Test.YtipmjfpoglkiaaaPrio3
namespace Go.Proofs.Ytipmjfpoglkiaaa
open Go.ChangeShapes Go.WideShapes Go.ChangeAt Go.RowKit
set_option linter.unusedVariables false
set_option maxRecDepth 100000 in
theorem len32_40 (w : World) : Calls Try.prog 51 #[.int .u32 40] w fun e w' => e = .returned (.int .i64 6) ∧ w = w' := by
  go_enter Try.func51, Try.ntmps51
  go_wp2
  go_ret
  exact ⟨by kernel_rfl, rfl⟩
theorem pfirst_40 (w : World) (F : Nat → Prop) (p : Nat) (q : Nat → List Int) (h : PrAt w F p 40 q) (t : Int) (r : List Int) (hq : q 5 = t :: r) : Calls Try.prog 40 #[.pointer (some ⟨p, 0, none⟩)] w fun e w' => e = .returned (.tuple #[.int .i64 t, .int .i64 5, .int .i64 0]) ∧ w = w' := by
  obtain ⟨A, C, G, h⟩ := h
  have hc := h.c0
  have hc5 := h.cq 5 (by decide)
  have hR := (h.sl 5 (by decide)).rd
  rw [hq] at hc5 hR
  simp only [List.length_cons] at hc5 hR
  obtain ⟨g, off, ha, hr2, hr3, hr4⟩ := hR.2.2.2 (by omega)
  have hcl0 := hr4 0 (by simp)
  rw [ha] at hc5
  simp [ints] at hcl0 hc5 hc
  have hlen : (0 : Int) < (r.length : Int) + 1 := by omega
  clear h hR hr2 hr3 hr4 ha hq
  go_enter Try.func40, Try.ntmps40
  go_wp2_with (go_at_call 51; refine (len32_40 _).mono ?_; rintro e w' ⟨rfl, rfl⟩)
  go_ret3
  exact ⟨rfl, rfl⟩
theorem prOf_none (q : Nat → List Int) (t : Int) (h : ∀ i, i < 8 → t ∉ q i) : ∀ k, k ≤ 8 → prOf q t k = -1
  | 0, _ => rfl
  | k + 1, hk => by
    unfold prOf
    rw [if_pos (prOf_none q t h k (by omega)), if_neg (h k (by omega))]
end Go.Proofs.Ytipmjfpoglkiaaa
