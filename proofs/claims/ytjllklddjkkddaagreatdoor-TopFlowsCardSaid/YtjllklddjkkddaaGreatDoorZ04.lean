/- Contracts of the library's functions on slices: what each returns, and what becomes of the world. Conditions: the slices are shorter than 2^32. -/
import Derived.Test.YtjllklddjkkddaaGreatDoorZ02
import Derived.Test.YtjllklddjkkddaaGreatDoorZ03
import Derived.WalkSpells
import Derived.OwnWalk
import Derived.Deep.QuietTactic
import Derived.BigQuiet
namespace Go.Proofs.YtjllklddjkkddaaGreatDoor
open Go.ChangeShapes Go.WideShapes Go.ChangeAt Go.RowKit
set_option linter.unusedVariables false
/-- Is a number in a list? -/
def hasI (l : List Int) (t : Int) : Bool := decide (t ∈ l)
/-- Are two lists the same? -/
def eqI (l m : List Int) : Bool := decide (l = m)
theorem hasI_true {l : List Int} {t : Int} (h : t ∈ l) : hasI l t = true := by simpa [hasI] using h
theorem hasI_false {l : List Int} {t : Int} (h : t ∉ l) : hasI l t = false := by simpa [hasI] using h
theorem eqI_true {l m : List Int} (h : l = m) : eqI l m = true := by simpa [eqI] using h
/-- The first place of a number in a list; -1: it is not there. -/
def idxI (l : List Int) (t : Int) : Int := if t ∈ l then ((l.idxOf t : Nat) : Int) else -1
theorem idxI_of {l : List Int} {t : Int} {k : Nat} (h : k < l.length) (he : l[k] = t) (hb : ∀ j (hj : j < l.length), j < k → l[j] ≠ t) : idxI l t = k := by
  have hm : t ∈ l := by rw [← he]; exact List.getElem_mem h
  unfold idxI
  rw [if_pos hm]
  have hlt : l.idxOf t < l.length := List.idxOf_lt_length_of_mem hm
  have hg : l[l.idxOf t] = t := List.getElem_idxOf hlt
  have h1 : l.idxOf t ≤ k := by
    rcases Nat.lt_or_ge k (l.idxOf t) with hh | hh
    · have := List.not_of_lt_findIdx (p := fun x => x == t) (xs := l) (i := k) hh
      simp [he] at this
    · exact hh
  have h2 : ¬ l.idxOf t < k := fun hh => hb _ hlt hh hg
  have : l.idxOf t = k := by omega
  rw [this]
theorem idxI_none {l : List Int} {t : Int} (h : ∀ j (hj : j < l.length), l[j] ≠ t) : idxI l t = -1 := by
  unfold idxI
  rw [if_neg]
  intro hm
  obtain ⟨i, hi, he⟩ := List.mem_iff_getElem.1 hm
  exact h i hi he
theorem idxI_has (l : List Int) (t : Int) : decide (0 ≤ idxI l t) = hasI l t := by
  unfold idxI hasI
  by_cases h : t ∈ l <;> simp [h]
theorem idxI_le (l : List Int) (t : Int) : -1 ≤ idxI l t := by unfold idxI; split <;> omega
theorem idxI_lt (l : List Int) (t : Int) : idxI l t < l.length := by
  unfold idxI
  split
  · rename_i h; have := List.idxOf_lt_length_of_mem h; omega
  · omega
theorem rd_none {w : World} {R : Nat → Prop} {s n c : Nat} {xs : List Value} (h : Rd w R s none n c xs) : n = 0 := by
  rcases Nat.eq_zero_or_pos n with h0 | h0
  · exact h0
  · obtain ⟨g, off, hh, _⟩ := h.2.2.2 h0; cases hh

theorem eInt : ETy Tryz.prog 23 3 1 8 := ⟨Tryz.underlying23, info_of (z := .int .i64 0) (by kernel_rfl) rfl, by decide⟩
theorem eU8 : ETy Tryz.prog 28 5 1 1 := ⟨Tryz.underlying28, info_of (z := .int .u8 0) (by kernel_rfl) rfl, by decide⟩
theorem clone_int (R : Nat → Prop) (a : Option Addr) (n c : Nat) (xs : List Value) (w : World) (h : Rd w R 1 a n c xs) (hone : ∀ u ∈ xs, u.oneCell' = true) (hn : n ≤ 4294967296) :
    Calls Tryz.prog 130 #[.slice a n c] w fun e w' => ∃ a' c' G, e = .returned (.slice a' n c') ∧ Sl w' 3 1 a' n c' xs G ∧ Chg Nil w w' ∧ ∀ g, G = some g → w.heap.size ≤ g := by
  have he := fun (w : World) (a : Option Addr) (n c : Nat) => Lib.run_eql_slice_nil (P := Tryz.prog) w 23 3 a n c 0 0 Tryz.underlying23
  cases a with
  | none =>
    have h0 : n = 0 := rd_none h
    subst h0
    have hl : xs = [] := List.eq_nil_of_length_eq_zero (by simpa using h.len)
    subst hl
    clear h hone
    go_enter Tryz.func130, Tryz.ntmps130
    go_wp2
    go_ret
    exact ⟨_, _, none, rfl, Sl.empty _ _ _ _, Chg.refl _ _, fun _ h => by cases h⟩
  | some x =>
    have H := hid (h.alloc (.cells #[] 3))
    have HO := hid hone
    clear h hone
    go_enter Tryz.func130, Tryz.ntmps130
    go_wp2_with (at_builtin; refine wpList_append_sl rfl _ _ eInt rfl rfl rfl (Sl.empty _ _ _ _) H.out HO.out (by omega) (by omega) ?_; intro a' c' w' G' q1 q2 q3)
    go_ret
    rw [Nat.zero_add, List.nil_append] at q1
    refine ⟨_, _, G', rfl, q1, ((Chg.refl Nil w).alloc _).trans q2 (fun i _ h => by cases h), fun g hg => ?_⟩
    rcases q3 with q3 | q3 <;> rw [q3] at hg
    · cases hg
    · injection hg with hg; rw [← hg]; simp
theorem clone_u8 (R : Nat → Prop) (a : Option Addr) (n c : Nat) (xs : List Value) (w : World) (h : Rd w R 1 a n c xs) (hone : ∀ u ∈ xs, u.oneCell' = true) (hn : n ≤ 4294967296) :
    Calls Tryz.prog 108 #[.slice a n c] w fun e w' => ∃ a' c' G, e = .returned (.slice a' n c') ∧ Sl w' 5 1 a' n c' xs G ∧ Chg Nil w w' ∧ ∀ g, G = some g → w.heap.size ≤ g := by
  have he := fun (w : World) (a : Option Addr) (n c : Nat) => Lib.run_eql_slice_nil (P := Tryz.prog) w 28 5 a n c 0 0 Tryz.underlying28
  cases a with
  | none =>
    have h0 : n = 0 := rd_none h
    subst h0
    have hl : xs = [] := List.eq_nil_of_length_eq_zero (by simpa using h.len)
    subst hl
    clear h hone
    go_enter Tryz.func108, Tryz.ntmps108
    go_wp2
    go_ret
    exact ⟨_, _, none, rfl, Sl.empty _ _ _ _, Chg.refl _ _, fun _ h => by cases h⟩
  | some x =>
    have H := hid (h.alloc (.cells #[] 5))
    have HO := hid hone
    clear h hone
    go_enter Tryz.func108, Tryz.ntmps108
    go_wp2_with (at_builtin; refine wpList_append_sl rfl _ _ eU8 rfl rfl rfl (Sl.empty _ _ _ _) H.out HO.out (by omega) (by omega) ?_; intro a' c' w' G' q1 q2 q3)
    go_ret
    rw [Nat.zero_add, List.nil_append] at q1
    refine ⟨_, _, G', rfl, q1, ((Chg.refl Nil w).alloc _).trans q2 (fun i _ h => by cases h), fun g hg => ?_⟩
    rcases q3 with q3 | q3 <;> rw [q3] at hg
    · cases hg
    · injection hg with hg; rw [← hg]; simp
theorem index_int (R : Nat → Prop) (a : Option Addr) (n c : Nat) (l : List Int) (t : Int) (w : World) (h : Rd w R 1 a n c (ints .i64 l)) (hn : n ≤ 4294967296) :
    Calls Tryz.prog 196 #[.slice a n c, .int .i64 t] w fun e w' => e = .returned (.int .i64 (idxI l t)) ∧ w = w' := by
  obtain rfl := h.ilen
  have H := hid h
  clear h
  go_enter Tryz.func196, Tryz.ntmps196
  go_wp2
  go_loop [8] (fun i => ∃ k : Nat, k ≤ l.length ∧ i = .int .i64 k ∧ Hid (∀ j (hj : j < l.length), j < k → l[j] ≠ t)) (fun i => l.length - (intOf i).toNat)
  case atStart => exact ⟨0, Nat.zero_le _, rfl, fun _ _ h => absurd h (by omega)⟩
  case round =>
    obtain ⟨k, hk, rfl, hr⟩ := hrel
    by_cases hlt : k < l.length
    · obtain ⟨g, off, rfl, _, _, hc⟩ := H.out.at hlt
      have hc1 := hc k hlt
      clear hc
      by_cases he : l[k] = t
      · have hb : (t == l[k]) = true := by rw [beq_iff_eq]; exact he.symm
        have HE := hid he
        clear he
        go_wp2
        go_ret
        exact ⟨ret_int (idxI_of hlt HE.out hr.out).symm, rfl⟩
      · have hb : (t == l[k]) = false := by rw [beq_eq_false_iff_ne]; exact fun hh => he hh.symm
        have HE := hid he
        clear he
        go_wp2
        go_round
        case rel =>
          refine ⟨k + 1, by omega, by go_num, fun j hj hjk => ?_⟩
          by_cases hjk' : j = k
          · subst hjk'; exact HE.out
          · exact hr.out j hj (by omega)
        case measure => simp [intOf]; omega
    · go_wp2
      go_ret
      exact ⟨ret_int (idxI_none fun j hj => hr.out j hj (by omega)).symm, rfl⟩
theorem contains_int (R : Nat → Prop) (a : Option Addr) (n c : Nat) (l : List Int) (t : Int) (w : World) (h : Rd w R 1 a n c (ints .i64 l)) (hn : n ≤ 4294967296) :
    Calls Tryz.prog 117 #[.slice a n c, .int .i64 t] w fun e w' => e = .returned (.bool (hasI l t)) ∧ w = w' := by
  have H := hid h
  clear h
  go_enter Tryz.func117, Tryz.ntmps117
  go_wp2_with (go_at_call 196; refine (index_int R a n c l t _ H.out hn).mono ?_; rintro e w' ⟨rfl, rfl⟩)
  go_ret
  exact ⟨ret_bool (idxI_has l t), rfl⟩
theorem isNaN_int (x : Int) (w : World) : Calls Tryz.prog 392 #[.int .i64 x] w fun e w' => e = .returned (.bool false) ∧ w = w' := by
  go_enter Tryz.func392, Tryz.ntmps392
  go_wp2
  go_ret
  exact ⟨by simp, rfl⟩
theorem less_int (x y : Int) (w : World) : Calls Tryz.prog 373 #[.int .i64 x, .int .i64 y] w fun e w' => e = .returned (.bool (decide (x < y))) ∧ w' = w := by
  go_enter Tryz.func373, Tryz.ntmps373
  go_wp2_with (go_at_call 392; refine (isNaN_int _ _).mono ?_; rintro e w' ⟨rfl, rfl⟩)
  go_ret
  exact ⟨by simp, rfl⟩
end Go.Proofs.YtjllklddjkkddaaGreatDoor
