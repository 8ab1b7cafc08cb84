/- Contract of Put of package prio where the task is there. Conditions: queues of at most 999. -/
import Derived.Test.YtdelelpfombfbaaPrio4
namespace Go.Proofs.Ytdelelpfombfbaa
open Go.ChangeShapes Go.WideShapes Go.ChangeAt Go.RowKit
set_option linter.unusedVariables false
set_option maxHeartbeats 2000000 in
theorem pput_there (w : World) (F : Nat → Prop) (p b : Nat) (q : Nat → List Int) (t : Int) (v : Nat) (h : PrAt w F p b q) (hl : ∀ i, i < 8 → (q i).length ≤ 999) (t1 : 1 ≤ t) (t2 : t ≤ 16) (hv : v < 8) (ht : 0 ≤ prOf q t 8) :
    Calls Try.prog 23 #[.pointer (some ⟨p, 0, none⟩), .int .i64 t, .int .i64 (v : Int)] w fun e w' => e = .returned (.int .i64 5) ∧ Chg Nil w w' := by
  obtain ⟨A, C, G, h⟩ := h
  have HH := hid (pat_ok w F p b q A C G t h (fun i hi => by have := hl i hi; omega))
  have hv8 : (v : Int) < 8 := by omega
  clear h hl
  generalize prOf q t 8 = x at HH ht
  go_enter Try.func23, Try.ntmps23
  go_wp2_with fail
  refine HH.out.mono ?_
  rintro e w1 ⟨rfl, c1⟩
  have C1 := hid c1
  clear c1
  go_wp2
  go_ret
  exact ⟨rfl, C1.out⟩
end Go.Proofs.Ytdelelpfombfbaa
