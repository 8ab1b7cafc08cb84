/- Contracts of the library's functions on slices: what each returns, and what becomes of the world. Conditions: the slices are shorter than 2^32. -/
import Derived.Test.YtpafafleepcjdaaBase
import Derived.Test.YtpafafleepcjdaaMem
import Derived.WalkSpells
import Derived.OwnWalk
import Derived.Deep.QuietTactic
import Derived.BigQuiet
namespace Go.Proofs.Ytpafafleepcjdaa
open Go.ChangeShapes Go.WideShapes Go.ChangeAt Go.RowKit
set_option linter.unusedVariables false
/-- Is a number in a list? -/
def hasI (l : List Int) (t : Int) : Bool := decide (t ∈ l)
/-- Are two lists the same? -/
def eqI (l m : List Int) : Bool := decide (l = m)
theorem hasI_true {l : List Int} {t : Int} (h : t ∈ l) : hasI l t = true := by simpa [hasI] using h
theorem hasI_false {l : List Int} {t : Int} (h : t ∉ l) : hasI l t = false := by simpa [hasI] using h
theorem eqI_true {l m : List Int} (h : l = m) : eqI l m = true := by simpa [eqI] using h
/-- The first place of a number in a list; -1: it is not there. -/
def idxI (l : List Int) (t : Int) : Int := if t ∈ l then ((l.idxOf t : Nat) : Int) else -1
theorem idxI_of {l : List Int} {t : Int} {k : Nat} (h : k < l.length) (he : l[k] = t) (hb : ∀ j (hj : j < l.length), j < k → l[j] ≠ t) : idxI l t = k := by
  have hm : t ∈ l := by rw [← he]; exact List.getElem_mem h
  unfold idxI
  rw [if_pos hm]
  have hlt : l.idxOf t < l.length := List.idxOf_lt_length_of_mem hm
  have hg : l[l.idxOf t] = t := List.getElem_idxOf hlt
  have h1 : l.idxOf t ≤ k := by
    rcases Nat.lt_or_ge k (l.idxOf t) with hh | hh
    · have := List.not_of_lt_findIdx (p := fun x => x == t) (xs := l) (i := k) hh
      simp [he] at this
    · exact hh
  have h2 : ¬ l.idxOf t < k := fun hh => hb _ hlt hh hg
  have : l.idxOf t = k := by omega
  rw [this]
theorem idxI_none {l : List Int} {t : Int} (h : ∀ j (hj : j < l.length), l[j] ≠ t) : idxI l t = -1 := by
  unfold idxI
  rw [if_neg]
  intro hm
  obtain ⟨i, hi, he⟩ := List.mem_iff_getElem.1 hm
  exact h i hi he
theorem idxI_has (l : List Int) (t : Int) : decide (0 ≤ idxI l t) = hasI l t := by
  unfold idxI hasI
  by_cases h : t ∈ l <;> simp [h]
theorem idxI_le (l : List Int) (t : Int) : -1 ≤ idxI l t := by unfold idxI; split <;> omega
theorem idxI_lt (l : List Int) (t : Int) : idxI l t < l.length := by
  unfold idxI
  split
  · rename_i h; have := List.idxOf_lt_length_of_mem h; omega
  · omega
theorem rd_none {w : World} {R : Nat → Prop} {s n c : Nat} {xs : List Value} (h : Rd w R s none n c xs) : n = 0 := by
  rcases Nat.eq_zero_or_pos n with h0 | h0
  · exact h0
  · obtain ⟨g, off, hh, _⟩ := h.2.2.2 h0; cases hh

theorem eInt : ETy Try.prog 24 3 1 8 := ⟨Try.underlying24, info_of (z := .int .i64 0) (by kernel_rfl) rfl, by decide⟩
end Go.Proofs.Ytpafafleepcjdaa
