/- Contracts of package span: Len, Sum, Deep. Conditions: a tree in memory; at most a thousand things for Deep. -/
import Derived.Test.YtnibhkeleogjcaaTree8
namespace Go.Proofs.Ytnibhkeleogjcaa
open Go.ChangeShapes Go.WideShapes Go.ChangeAt Go.RowKit
set_option linter.unusedVariables false
theorem len_ok (w : World) (F : Nat → Prop) (p : Nat) (l : List TE) (h : SpAt w F p l) :
    Calls Try.prog 13 #[.pointer (some ⟨p, 0, none⟩)] w fun v w' => v = .returned (.int .i64 l.length) ∧ w' = w := by
  obtain ⟨t, h, rfl⟩ := h
  have C := hid (count_ok w t h.tr)
  have c0 := h.blk.cell 0
  simp only [List.getElem?_cons_zero] at c0
  obtain ⟨q0, hq0⟩ := t.ptr_is
  rw [hq0] at c0 C
  rw [t.cnt_els] at C
  clear h hq0
  go_enter Try.func13, Try.ntmps13
  go_wp2_with (go_at_call 24; refine C.out.mono ?_; rintro v w1 ⟨rfl, rfl⟩)
  go_ret
  exact ⟨rfl, rfl⟩
theorem tsum_ok (w : World) (F : Nat → Prop) (p : Nat) (l : List TE) (h : SpAt w F p l) :
    Calls Try.prog 14 #[.pointer (some ⟨p, 0, none⟩)] w fun v w' => v = .returned (.int .i64 (sumW l)) ∧ w' = w := by
  obtain ⟨t, h, rfl⟩ := h
  have C := hid (sum_ok w t h.tr)
  have c0 := h.blk.cell 0
  simp only [List.getElem?_cons_zero] at c0
  obtain ⟨q0, hq0⟩ := t.ptr_is
  rw [hq0] at c0 C
  rw [t.sum_els] at C
  clear h hq0
  go_enter Try.func14, Try.ntmps14
  go_wp2_with (go_at_call 25; refine C.out.mono ?_; rintro v w1 ⟨rfl, rfl⟩)
  go_ret
  exact ⟨rfl, rfl⟩
theorem tdeep_ok (w : World) (F : Nat → Prop) (p : Nat) (l : List TE) (h : SpAt w F p l) (hl : l.length ≤ 1000) :
    Calls Try.prog 10 #[.pointer (some ⟨p, 0, none⟩)] w fun v w' => ∃ d : Nat, v = .returned (.int .i64 d) ∧ w' = w ∧ d ≤ 16 ∧ d ≤ l.length ∧ (l ≠ [] → 1 ≤ d) := by
  obtain ⟨t, h, rfl⟩ := h
  have C := hid (deep_ok w t h.tr)
  have c0 := h.blk.cell 0
  simp only [List.getElem?_cons_zero] at c0
  have D : Hid (t.deep ≤ 16 ∧ t.deep ≤ t.els.length ∧ (t.els ≠ [] → 1 ≤ t.deep)) := hid ⟨t.deep_le h.ev (by rw [t.cnt_els]; exact hl), by rw [← t.cnt_els]; exact t.deep_cnt, by cases t with
    | nil => intro h; exact absurd rfl h
    | node b x l r => intro _; simp only [Tr.deep]; omega⟩
  obtain ⟨q0, hq0⟩ := t.ptr_is
  rw [hq0] at c0 C
  clear h hq0 hl
  go_enter Try.func10, Try.ntmps10
  go_wp2_with (go_at_call 22; refine C.out.mono ?_; rintro v w1 ⟨rfl, rfl⟩)
  go_ret
  exact ⟨t.deep, rfl, rfl, D.out⟩
end Go.Proofs.Ytnibhkeleogjcaa
