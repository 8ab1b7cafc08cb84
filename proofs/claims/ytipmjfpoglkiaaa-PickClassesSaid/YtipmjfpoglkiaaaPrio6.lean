/- Contracts of package prio: Out, First, Bits, Put of a task that is there. Conditions: at most 1000 tasks in each queue; the bits are of eight priorities. -/
import Derived.Test.YtipmjfpoglkiaaaPrio5
import Derived.Test.YtipmjfpoglkiaaaLen32
namespace Go.Proofs.Ytipmjfpoglkiaaa
open Go.ChangeShapes Go.WideShapes Go.ChangeAt Go.RowKit
set_option linter.unusedVariables false
theorem pfirst_none (w : World) (F : Nat → Prop) (p : Nat) (q : Nat → List Int) (h : PrAt w F p 0 q) :
    Calls Try.prog 40 #[.pointer (some ⟨p, 0, none⟩)] w fun e w' => e = .returned (.tuple #[.int .i64 0, .int .i64 0, .int .i64 4]) ∧ w = w' := by
  obtain ⟨A, C, G, h⟩ := h
  have hc := h.c0
  clear h
  go_enter Try.func40, Try.ntmps40
  go_wp2
  go_ret3
  exact ⟨rfl, rfl⟩
theorem pfirst_ok (w : World) (F : Nat → Prop) (p b v : Nat) (q : Nat → List Int) (h : PrAt w F p b q) (hb : b < 256) (h0 : b ≠ 0) (hv : v = topB b) (t : Int) (r : List Int) (hq : q v = t :: r) :
    Calls Try.prog 40 #[.pointer (some ⟨p, 0, none⟩)] w fun e w' => e = .returned (.tuple #[.int .i64 t, .int .i64 (v : Int), .int .i64 0]) ∧ w = w' := by
  obtain ⟨A, C, G, h⟩ := h
  obtain ⟨l1, l2, _⟩ := topB_ok b hb h0
  rw [← hv] at l1 l2
  have HL := hid (len32_x (b : Int) w (by omega) (by omega))
  rw [Int.toNat_natCast, l1] at HL
  have hc := h.c0
  have hc5 := h.cq v l2
  have hR := (h.sl v l2).rd
  rw [hq] at hc5 hR
  simp only [List.length_cons] at hc5 hR
  obtain ⟨g, off, ha, hr2, hr3, hr4⟩ := hR.2.2.2 (by omega)
  have hcl0 := hr4 0 (by simp)
  rw [ha] at hc5
  simp [ints] at hcl0 hc5 hc
  have hlen : (0 : Int) < (r.length : Int) + 1 := by omega
  have hb0 : ((b : Int) == 0) = false := by rw [beq_eq_false_iff_ne]; omega
  have hv8 : (v : Int) < 8 := by omega
  have hv7 : ((v + 1 : Nat) : Int) - 1 = (v : Int) := by omega
  clear h hR hr2 hr3 hr4 ha hq hv l1
  go_enter Try.func40, Try.ntmps40
  go_wp2_with fail
  refine HL.out.mono ?_
  rintro e w' ⟨rfl, rfl⟩
  go_wp2
  go_ret3
  exact ⟨rfl, rfl⟩
set_option maxHeartbeats 2000000 in
theorem pput_there (w : World) (F : Nat → Prop) (p b : Nat) (q : Nat → List Int) (t : Int) (v : Nat) (h : PrAt w F p b q) (hl : ∀ i, i < 8 → (q i).length ≤ 999) (t1 : 1 ≤ t) (t2 : t ≤ 16) (hv : v < 8) (ht : 0 ≤ prOf q t 8) :
    Calls Try.prog 33 #[.pointer (some ⟨p, 0, none⟩), .int .i64 t, .int .i64 (v : Int)] w fun e w' => e = .returned (.int .i64 5) ∧ Chg Nil w w' := by
  obtain ⟨A, C, G, h⟩ := h
  have HH := hid (pat_ok w F p b q A C G t h (fun i hi => by have := hl i hi; omega))
  have hv8 : (v : Int) < 8 := by omega
  clear h hl
  generalize prOf q t 8 = x at HH ht
  go_enter Try.func33, Try.ntmps33
  go_wp2_with fail
  refine HH.out.mono ?_
  rintro e w1 ⟨rfl, c1⟩
  have C1 := hid c1
  clear c1
  go_wp2
  go_ret
  exact ⟨rfl, C1.out⟩
end Go.Proofs.Ytipmjfpoglkiaaa
