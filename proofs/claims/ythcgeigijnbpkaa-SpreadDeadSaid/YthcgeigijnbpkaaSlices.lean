/- Contracts of the library's functions on slices: what each returns, and what becomes of the world. Conditions: the slices are shorter than 2^32. -/
import Derived.Test.YthcgeigijnbpkaaBase
import Derived.Test.YthcgeigijnbpkaaMem
import Derived.WalkSpells
import Derived.OwnWalk
import Derived.Deep.QuietTactic
import Derived.BigQuiet
namespace Go.Proofs.Ythcgeigijnbpkaa
open Go.ChangeShapes Go.WideShapes Go.ChangeAt Go.RowKit
set_option linter.unusedVariables false
/-- Is a number in a list? -/
def hasI (l : List Int) (t : Int) : Bool := decide (t ∈ l)
/-- Are two lists the same? -/
def eqI (l m : List Int) : Bool := decide (l = m)
theorem hasI_true {l : List Int} {t : Int} (h : t ∈ l) : hasI l t = true := by simpa [hasI] using h
theorem hasI_false {l : List Int} {t : Int} (h : t ∉ l) : hasI l t = false := by simpa [hasI] using h
theorem eqI_true {l m : List Int} (h : l = m) : eqI l m = true := by simpa [eqI] using h
/-- The first place of a number in a list; -1: it is not there. -/
def idxI (l : List Int) (t : Int) : Int := if t ∈ l then ((l.idxOf t : Nat) : Int) else -1
theorem idxI_of {l : List Int} {t : Int} {k : Nat} (h : k < l.length) (he : l[k] = t) (hb : ∀ j (hj : j < l.length), j < k → l[j] ≠ t) : idxI l t = k := by
  have hm : t ∈ l := by rw [← he]; exact List.getElem_mem h
  unfold idxI
  rw [if_pos hm]
  have hlt : l.idxOf t < l.length := List.idxOf_lt_length_of_mem hm
  have hg : l[l.idxOf t] = t := List.getElem_idxOf hlt
  have h1 : l.idxOf t ≤ k := by
    rcases Nat.lt_or_ge k (l.idxOf t) with hh | hh
    · have := List.not_of_lt_findIdx (p := fun x => x == t) (xs := l) (i := k) hh
      simp [he] at this
    · exact hh
  have h2 : ¬ l.idxOf t < k := fun hh => hb _ hlt hh hg
  have : l.idxOf t = k := by omega
  rw [this]
theorem idxI_none {l : List Int} {t : Int} (h : ∀ j (hj : j < l.length), l[j] ≠ t) : idxI l t = -1 := by
  unfold idxI
  rw [if_neg]
  intro hm
  obtain ⟨i, hi, he⟩ := List.mem_iff_getElem.1 hm
  exact h i hi he
theorem idxI_has (l : List Int) (t : Int) : decide (0 ≤ idxI l t) = hasI l t := by
  unfold idxI hasI
  by_cases h : t ∈ l <;> simp [h]
theorem idxI_le (l : List Int) (t : Int) : -1 ≤ idxI l t := by unfold idxI; split <;> omega
theorem idxI_lt (l : List Int) (t : Int) : idxI l t < l.length := by
  unfold idxI
  split
  · rename_i h; have := List.idxOf_lt_length_of_mem h; omega
  · omega
theorem rd_none {w : World} {R : Nat → Prop} {s n c : Nat} {xs : List Value} (h : Rd w R s none n c xs) : n = 0 := by
  rcases Nat.eq_zero_or_pos n with h0 | h0
  · exact h0
  · obtain ⟨g, off, hh, _⟩ := h.2.2.2 h0; cases hh

theorem eInt : ETy Try.prog 22 3 1 8 := ⟨Try.underlying22, info_of (z := .int .i64 0) (by kernel_rfl) rfl, by decide⟩
theorem eBool : ETy Try.prog 39 4 1 1 := ⟨Try.underlying39, info_of (z := .bool false) (by kernel_rfl) rfl, by decide⟩
theorem eUse : ETy Try.prog 51 55 2 16 := ⟨Try.underlying51, info_of (z := .agg #[.int .i64 0, .int .i64 0]) (by kernel_rfl) rfl, by decide⟩
theorem clone_use (R : Nat → Prop) (a : Option Addr) (n c : Nat) (xs : List Value) (w : World) (h : Rd w R 2 a n c xs) (hone : ∀ u ∈ xs, u.oneCell' = true) (hn : n ≤ 4294967296) :
    Calls Try.prog 47 #[.slice a n c] w fun e w' => ∃ a' c' G, e = .returned (.slice a' n c') ∧ Sl w' 55 2 a' n c' xs G ∧ Chg Nil w w' ∧ ∀ g, G = some g → w.heap.size ≤ g := by
  have he := fun (w : World) (a : Option Addr) (n c : Nat) => Lib.run_eql_slice_nil (P := Try.prog) w 51 55 a n c 0 0 Try.underlying51
  cases a with
  | none =>
    have h0 : n = 0 := rd_none h
    subst h0
    have hl : xs = [] := List.eq_nil_of_length_eq_zero (by simpa using h.len)
    subst hl
    clear h hone
    go_enter Try.func47, Try.ntmps47
    go_wp2
    go_ret
    exact ⟨_, _, none, rfl, Sl.empty _ _ _ _, Chg.refl _ _, fun _ h => by cases h⟩
  | some x =>
    have H := hid (h.alloc (.cells #[] 55))
    have HO := hid hone
    clear h hone
    go_enter Try.func47, Try.ntmps47
    go_wp2_with (at_builtin; refine wpList_append_sl rfl _ _ eUse rfl rfl rfl (Sl.empty _ _ _ _) H.out HO.out (by omega) (by omega) ?_; intro a' c' w' G' q1 q2 q3)
    go_ret
    rw [Nat.zero_add, List.nil_append] at q1
    refine ⟨_, _, G', rfl, q1, ((Chg.refl Nil w).alloc _).trans q2 (fun i _ h => by cases h), fun g hg => ?_⟩
    rcases q3 with q3 | q3 <;> rw [q3] at hg
    · cases hg
    · injection hg with hg; rw [← hg]; simp
theorem index_int (R : Nat → Prop) (a : Option Addr) (n c : Nat) (l : List Int) (t : Int) (w : World) (h : Rd w R 1 a n c (ints .i64 l)) (hn : n ≤ 4294967296) :
    Calls Try.prog 44 #[.slice a n c, .int .i64 t] w fun e w' => e = .returned (.int .i64 (idxI l t)) ∧ w = w' := by
  obtain rfl := h.ilen
  have H := hid h
  clear h
  go_enter Try.func44, Try.ntmps44
  go_wp2
  go_loop [8] (fun i => ∃ k : Nat, k ≤ l.length ∧ i = .int .i64 k ∧ Hid (∀ j (hj : j < l.length), j < k → l[j] ≠ t)) (fun i => l.length - (intOf i).toNat)
  case atStart => exact ⟨0, Nat.zero_le _, rfl, fun _ _ h => absurd h (by omega)⟩
  case round =>
    obtain ⟨k, hk, rfl, hr⟩ := hrel
    by_cases hlt : k < l.length
    · obtain ⟨g, off, rfl, _, _, hc⟩ := H.out.at hlt
      have hc1 := hc k hlt
      clear hc
      by_cases he : l[k] = t
      · have hb : (t == l[k]) = true := by rw [beq_iff_eq]; exact he.symm
        have HE := hid he
        clear he
        go_wp2
        go_ret
        exact ⟨ret_int (idxI_of hlt HE.out hr.out).symm, rfl⟩
      · have hb : (t == l[k]) = false := by rw [beq_eq_false_iff_ne]; exact fun hh => he hh.symm
        have HE := hid he
        clear he
        go_wp2
        go_round
        case rel =>
          refine ⟨k + 1, by omega, by go_num, fun j hj hjk => ?_⟩
          by_cases hjk' : j = k
          · subst hjk'; exact HE.out
          · exact hr.out j hj (by omega)
        case measure => simp [intOf]; omega
    · go_wp2
      go_ret
      exact ⟨ret_int (idxI_none fun j hj => hr.out j hj (by omega)).symm, rfl⟩
theorem contains_int (R : Nat → Prop) (a : Option Addr) (n c : Nat) (l : List Int) (t : Int) (w : World) (h : Rd w R 1 a n c (ints .i64 l)) (hn : n ≤ 4294967296) :
    Calls Try.prog 28 #[.slice a n c, .int .i64 t] w fun e w' => e = .returned (.bool (hasI l t)) ∧ w = w' := by
  have H := hid h
  clear h
  go_enter Try.func28, Try.ntmps28
  go_wp2_with (go_at_call 44; refine (index_int R a n c l t _ H.out hn).mono ?_; rintro e w' ⟨rfl, rfl⟩)
  go_ret
  exact ⟨ret_bool (idxI_has l t), rfl⟩
theorem isNaN_int (x : Int) (w : World) : Calls Try.prog 51 #[.int .i64 x] w fun e w' => e = .returned (.bool false) ∧ w = w' := by
  go_enter Try.func51, Try.ntmps51
  go_wp2
  go_ret
  exact ⟨by simp, rfl⟩
theorem less_int (x y : Int) (w : World) : Calls Try.prog 45 #[.int .i64 x, .int .i64 y] w fun e w' => e = .returned (.bool (decide (x < y))) ∧ w' = w := by
  go_enter Try.func45, Try.ntmps45
  go_wp2_with (go_at_call 51; refine (isNaN_int _ _).mono ?_; rintro e w' ⟨rfl, rfl⟩)
  go_ret
  exact ⟨by simp, rfl⟩
theorem isSorted_yes (R : Nat → Prop) (a : Option Addr) (n c : Nat) (l : List Int) (w : World) (h : Rd w R 1 a n c (ints .i64 l)) (hn : n ≤ 4294967296) (hs : ∀ j (h : j + 1 < l.length), l[j] ≤ l[j + 1]) :
    Calls Try.prog 29 #[.slice a n c] w fun e w' => e = .returned (.bool true) ∧ ∃ k, w' = w.drewN k := by
  obtain rfl := h.ilen
  have H := hid h
  have HS := hid hs
  clear h hs
  go_enter Try.func29, Try.ntmps29
  go_wp2
  go_loopw [3] (fun s3 wr => ∃ (k : Int), -1 ≤ k ∧ k ≤ (l.length : Int) - 1 ∧ s3 = .int .i64 k ∧ Hid (∃ q, wr = w.drewN q)) (fun s3 _ => (intOf s3).toNat)
  case atStart => exact ⟨(l.length : Int) - 1, by omega, by omega, rfl, 0, rfl⟩
  case round =>
    obtain ⟨k, hk0, hk, rfl, hq⟩ := hrel
    have HW : Hid (Rd wr R 1 a l.length c (ints .i64 l)) := by
      obtain ⟨q, rfl⟩ := hq
      exact H.out
    by_cases hlt : 0 < k
    · obtain ⟨m, rfl⟩ : ∃ m : Nat, k = (m : Int) + 1 := ⟨(k - 1).toNat, by omega⟩
      have hm : m + 1 < l.length := by omega
      obtain ⟨g, off, rfl, _, _, hc⟩ := HW.out.at hm
      have c1 := hc (m + 1) hm
      have c2 := hc m (by omega)
      clear hc
      have hle := HS.out m hm
      have hd : decide (l[m + 1] < l[m]) = false := by simp; omega
      have i1 : (m : Int) + 1 < (l.length : Int) := by omega
      have i2 : (m : Int) < (l.length : Int) := by omega
      have n1 : ((m : Int) + 1).toNat = m + 1 := by omega
      have n2 : ((m : Int) + 1 - 1) = m := by omega
      go_wp2
      go_quiet ((go_at_call 45; exact Calls.quiet_of_same (less_int _ _ _)))
      go_wp2
      go_roundw
      case rel =>
        refine ⟨(m : Int), by omega, by omega, by go_num, ?_⟩
        obtain ⟨q, rfl⟩ := hq
        exact ⟨_, World.drewN_drewN _ _ _⟩
      case measure => simp [intOf]
    · go_wp2
      go_ret
      exact ⟨rfl, hq⟩
end Go.Proofs.Ythcgeigijnbpkaa
