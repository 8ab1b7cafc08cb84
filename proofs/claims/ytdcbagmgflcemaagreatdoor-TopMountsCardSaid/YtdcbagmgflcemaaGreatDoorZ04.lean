/- Contracts of the library's functions on slices: what each returns, and what becomes of the world. Conditions: the slices are shorter than 2^32. -/
import Derived.Test.YtdcbagmgflcemaaGreatDoorZ02
import Derived.Test.YtdcbagmgflcemaaGreatDoorZ03
import Derived.WalkSpells
import Derived.OwnWalk
import Derived.Deep.QuietTactic
import Derived.BigQuiet
namespace Go.Proofs.YtdcbagmgflcemaaGreatDoor
open Go.ChangeShapes Go.WideShapes Go.ChangeAt Go.RowKit
set_option linter.unusedVariables false
/-- Are two lists the same? -/
def eqI (l m : List Int) : Bool := decide (l = m)
theorem eqI_true {l m : List Int} (h : l = m) : eqI l m = true := by simpa [eqI] using h
theorem rd_none {w : World} {R : Nat → Prop} {s n c : Nat} {xs : List Value} (h : Rd w R s none n c xs) : n = 0 := by
  rcases Nat.eq_zero_or_pos n with h0 | h0
  · exact h0
  · obtain ⟨g, off, hh, _⟩ := h.2.2.2 h0; cases hh

theorem eInt : ETy Tryz.prog 53 3 1 8 := ⟨Tryz.underlying53, info_of (z := .int .i64 0) (by kernel_rfl) rfl, by decide⟩
theorem eU8 : ETy Tryz.prog 22 5 1 1 := ⟨Tryz.underlying22, info_of (z := .int .u8 0) (by kernel_rfl) rfl, by decide⟩
theorem clone_int (R : Nat → Prop) (a : Option Addr) (n c : Nat) (xs : List Value) (w : World) (h : Rd w R 1 a n c xs) (hone : ∀ u ∈ xs, u.oneCell' = true) (hn : n ≤ 4294967296) :
    Calls Tryz.prog 130 #[.slice a n c] w fun e w' => ∃ a' c' G, e = .returned (.slice a' n c') ∧ Sl w' 3 1 a' n c' xs G ∧ Chg Nil w w' ∧ ∀ g, G = some g → w.heap.size ≤ g := by
  have he := fun (w : World) (a : Option Addr) (n c : Nat) => Lib.run_eql_slice_nil (P := Tryz.prog) w 53 3 a n c 0 0 Tryz.underlying53
  cases a with
  | none =>
    have h0 : n = 0 := rd_none h
    subst h0
    have hl : xs = [] := List.eq_nil_of_length_eq_zero (by simpa using h.len)
    subst hl
    clear h hone
    go_enter Tryz.func130, Tryz.ntmps130
    go_wp2
    go_ret
    exact ⟨_, _, none, rfl, Sl.empty _ _ _ _, Chg.refl _ _, fun _ h => by cases h⟩
  | some x =>
    have H := hid (h.alloc (.cells #[] 3))
    have HO := hid hone
    clear h hone
    go_enter Tryz.func130, Tryz.ntmps130
    go_wp2_with (at_builtin; refine wpList_append_sl rfl _ _ eInt rfl rfl rfl (Sl.empty _ _ _ _) H.out HO.out (by omega) (by omega) ?_; intro a' c' w' G' q1 q2 q3)
    go_ret
    rw [Nat.zero_add, List.nil_append] at q1
    refine ⟨_, _, G', rfl, q1, ((Chg.refl Nil w).alloc _).trans q2 (fun i _ h => by cases h), fun g hg => ?_⟩
    rcases q3 with q3 | q3 <;> rw [q3] at hg
    · cases hg
    · injection hg with hg; rw [← hg]; simp
theorem clone_u8 (R : Nat → Prop) (a : Option Addr) (n c : Nat) (xs : List Value) (w : World) (h : Rd w R 1 a n c xs) (hone : ∀ u ∈ xs, u.oneCell' = true) (hn : n ≤ 4294967296) :
    Calls Tryz.prog 108 #[.slice a n c] w fun e w' => ∃ a' c' G, e = .returned (.slice a' n c') ∧ Sl w' 5 1 a' n c' xs G ∧ Chg Nil w w' ∧ ∀ g, G = some g → w.heap.size ≤ g := by
  have he := fun (w : World) (a : Option Addr) (n c : Nat) => Lib.run_eql_slice_nil (P := Tryz.prog) w 22 5 a n c 0 0 Tryz.underlying22
  cases a with
  | none =>
    have h0 : n = 0 := rd_none h
    subst h0
    have hl : xs = [] := List.eq_nil_of_length_eq_zero (by simpa using h.len)
    subst hl
    clear h hone
    go_enter Tryz.func108, Tryz.ntmps108
    go_wp2
    go_ret
    exact ⟨_, _, none, rfl, Sl.empty _ _ _ _, Chg.refl _ _, fun _ h => by cases h⟩
  | some x =>
    have H := hid (h.alloc (.cells #[] 5))
    have HO := hid hone
    clear h hone
    go_enter Tryz.func108, Tryz.ntmps108
    go_wp2_with (at_builtin; refine wpList_append_sl rfl _ _ eU8 rfl rfl rfl (Sl.empty _ _ _ _) H.out HO.out (by omega) (by omega) ?_; intro a' c' w' G' q1 q2 q3)
    go_ret
    rw [Nat.zero_add, List.nil_append] at q1
    refine ⟨_, _, G', rfl, q1, ((Chg.refl Nil w).alloc _).trans q2 (fun i _ h => by cases h), fun g hg => ?_⟩
    rcases q3 with q3 | q3 <;> rw [q3] at hg
    · cases hg
    · injection hg with hg; rw [← hg]; simp
end Go.Proofs.YtdcbagmgflcemaaGreatDoor
