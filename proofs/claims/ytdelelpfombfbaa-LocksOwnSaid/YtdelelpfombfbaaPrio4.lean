/- Contracts of package prio: First where the bits are 40, and the beginning of the statements. -/
import Derived.Test.YtdelelpfombfbaaPrio3
namespace Go.Proofs.Ytdelelpfombfbaa
open Go.ChangeShapes Go.WideShapes Go.ChangeAt Go.RowKit
set_option linter.unusedVariables false
set_option maxRecDepth 100000 in
theorem len32_40 (w : World) : Calls Try.prog 55 #[.int .u32 40] w fun e w' => e = .returned (.int .i64 6) ∧ w = w' := by
  go_enter Try.func55, Try.ntmps55
  go_wp2
  go_ret
  exact ⟨by kernel_rfl, rfl⟩
theorem pfirst_40 (w : World) (F : Nat → Prop) (p : Nat) (q : Nat → List Int) (h : PrAt w F p 40 q) (t : Int) (r : List Int) (hq : q 5 = t :: r) : Calls Try.prog 39 #[.pointer (some ⟨p, 0, none⟩)] w fun e w' => e = .returned (.tuple #[.int .i64 t, .int .i64 5, .int .i64 0]) ∧ w = w' := by
  obtain ⟨A, C, G, h⟩ := h
  have hc := h.c0
  have hc5 := h.cq 5 (by decide)
  have hR := (h.sl 5 (by decide)).rd
  rw [hq] at hc5 hR
  simp only [List.length_cons] at hc5 hR
  obtain ⟨g, off, ha, hr2, hr3, hr4⟩ := hR.2.2.2 (by omega)
  have hcl0 := hr4 0 (by simp)
  rw [ha] at hc5
  simp [ints] at hcl0 hc5 hc
  have hlen : (0 : Int) < (r.length : Int) + 1 := by omega
  clear h hR hr2 hr3 hr4 ha hq
  go_enter Try.func39, Try.ntmps39
  go_wp2_with (go_at_call 55; refine (len32_40 _).mono ?_; rintro e w' ⟨rfl, rfl⟩)
  go_ret3
  exact ⟨rfl, rfl⟩
theorem prOf_none (q : Nat → List Int) (t : Int) (h : ∀ i, i < 8 → t ∉ q i) : ∀ k, k ≤ 8 → prOf q t k = -1
  | 0, _ => rfl
  | k + 1, hk => by
    unfold prOf
    rw [if_pos (prOf_none q t h k (by omega)), if_neg (h k (by omega))]
theorem beg1 (w : World) (F : Nat → Prop) (p : Nat) (h : PrAt w F p 0 (fun _ => [])) : Calls Try.prog 23 #[.pointer (some ⟨p, 0, none⟩), .int .i64 1, .int .i64 3] w (PPr F p 8 (upF (fun _ => []) 3 [1]) (.int .i64 0) w) :=
  pput_ok w F p 0 _ 1 3 h (fun i _ => by simp) (by decide) (by decide) (by decide) (by decide) (prOf_none _ _ (fun i _ => by simp) 8 (Nat.le_refl _))
theorem beg2 (w : World) (F : Nat → Prop) (p : Nat) (h : PrAt w F p 8 (upF (fun _ => []) 3 [1])) : Calls Try.prog 23 #[.pointer (some ⟨p, 0, none⟩), .int .i64 2, .int .i64 5] w (PPr F p 40 (upF (upF (fun _ => []) 3 [1]) 5 [2]) (.int .i64 0) w) :=
  pput_ok w F p 8 _ 2 5 h (fun i _ => by simp only [upF]; split <;> simp) (by decide) (by decide) (by decide) (by decide) (prOf_none _ _ (fun i _ => by simp only [upF]; split <;> simp) 8 (Nat.le_refl _))
theorem beg3 (w : World) (F : Nat → Prop) (p : Nat) (h : PrAt w F p 40 (upF (upF (fun _ => []) 3 [1]) 5 [2])) : Calls Try.prog 39 #[.pointer (some ⟨p, 0, none⟩)] w fun e w' => e = .returned (.tuple #[.int .i64 2, .int .i64 5, .int .i64 0]) ∧ w = w' :=
  pfirst_40 w F p _ h 2 [] (upF_same _ _ _)
theorem pbegun_ok (w : World) : Calls Try.prog 8 #[] w fun e w' => e = .returned (.bool true) ∧ Chg Nil w w' := by
  go_enter Try.func8, Try.ntmps8
  go_wp2_with fail
  refine (pnew_ok _).mono ?_
  rintro e w1 ⟨F, p, rfl, r1, r2, r3⟩
  have H1 := hid (beg1 w1 F p r1)
  clear r1
  replace r2 := hid r2
  replace r3 := hid r3
  go_wp2_with fail
  refine H1.out.mono ?_
  rintro e w2 ⟨F2, rfl, s1, s2, s3⟩
  have H2 := hid (beg2 w2 F2 p s1)
  replace s2 := hid s2
  replace s3 := hid s3
  clear s1
  go_wp2_with fail
  refine H2.out.mono ?_
  rintro e w3 ⟨F3, rfl, t1, t2, t3⟩
  have H3 := hid (beg3 w3 F3 p t1)
  replace t2 := hid t2
  clear t1 t3
  go_wp2_with fail
  refine H3.out.mono ?_
  rintro e w4 ⟨rfl, rfl⟩
  go_wp2
  go_ret
  have g1 : Chg Nil w w2 := r2.out.trans s2.out (fun i hi h => by rcases r3.out i h with h | h; exact h; omega)
  exact ⟨rfl, g1.trans t2.out (fun i hi h => by rcases s3.out i h with h | h; (rcases r3.out i h with h | h; exact h; omega); have := r2.out.size; omega)⟩
end Go.Proofs.Ytdelelpfombfbaa
