/- Contracts of package span: At. Conditions: a tree in memory, of few things, with small weights. -/
import Derived.Test.YtnibhkeleogjcaaTree14
namespace Go.Proofs.Ytnibhkeleogjcaa
open Go.ChangeShapes Go.WideShapes Go.ChangeAt Go.RowKit
set_option linter.unusedVariables false
theorem at_out (w : World) (F : Nat → Prop) (p : Nat) (l : List TE) (h : SpAt w F p l) (n : Int) (hn : n < 0 ∨ sumW l ≤ n) :
    Calls Try.prog 19 #[.pointer (some ⟨p, 0, none⟩), .int .i64 n] w fun v w' => v = .returned (tup none) ∧ w' = w := by
  obtain ⟨t, h, rfl⟩ := h
  have c0 := h.blk.cell 0
  simp only [List.getElem?_cons_zero] at c0
  have SUM := hid (sum_ok w t h.tr)
  rw [t.sum_els] at SUM
  obtain ⟨q0, hq0⟩ := t.ptr_is
  rw [hq0] at c0 SUM
  clear h hq0
  obtain ⟨u, hu⟩ : ∃ u, u = sumW t.els := ⟨_, rfl⟩
  rw [← hu] at SUM hn
  clear hu
  by_cases h0 : n < 0
  · clear hn
    go_enter Try.func19, Try.ntmps19
    go_wp2_with (go_at_call 26; refine (told_none _).mono ?_; rintro v w1 ⟨rfl, rfl⟩)
    try simp only [Exit.inBlock, Exit.then]
    refine bodyPost_ret (ret_four rfl _ _ _) rfl ?_
    exact ⟨rfl, rfl⟩
  · have h1 : u ≤ n := by omega
    clear hn
    go_enter Try.func19, Try.ntmps19
    go_wp2_with (first | (go_at_call 25; refine SUM.out.mono ?_; rintro v w1 ⟨rfl, rfl⟩) | (go_at_call 26; refine (told_none _).mono ?_; rintro v w1 ⟨rfl, rfl⟩))
    try simp only [Exit.inBlock, Exit.then]
    refine bodyPost_ret (ret_four rfl _ _ _) rfl ?_
    exact ⟨rfl, rfl⟩
end Go.Proofs.Ytnibhkeleogjcaa
