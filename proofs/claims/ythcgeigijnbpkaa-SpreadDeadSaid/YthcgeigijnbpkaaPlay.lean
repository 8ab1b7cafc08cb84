/- What the laws note of what was asked of a run: five rows of seventeen, in memory; and how it goes with the run. No program in sight; no condition. -/
import Derived.Test.YthcgeigijnbpkaaSpr13
namespace Go.Proofs.Ythcgeigijnbpkaa
set_option linter.unusedVariables false
def upN {α : Type} (f : Nat → α) (i : Nat) (x : α) : Nat → α := fun j => if j = i then x else f j
theorem upN_same {α : Type} (f : Nat → α) (i : Nat) (x : α) : upN f i x i = x := by simp [upN]
theorem upN_ne {α : Type} (f : Nat → α) {i j : Nat} (x : α) (h : j ≠ i) : upN f i x j = f j := by simp [upN, h]
/-- What is noted: who is there, ready, of class 3, boosted; and where each may run. -/
structure Note where
  is : Nat → Bool
  rd : Nat → Bool
  dd : Nat → Bool
  mo : Nat → Bool
  pn : Nat → Int
def bl17 (f : Nat → Bool) : List Value := (List.range 17).map (fun t => .bool (f t))
def il17 (f : Nat → Int) : List Value := (List.range 17).map (fun t => .int .i64 (f t))
def noteC (o : Note) : List Value := bl17 o.is ++ (bl17 o.rd ++ (bl17 o.dd ++ (bl17 o.mo ++ il17 o.pn)))
theorem bl17_len (f : Nat → Bool) : (bl17 f).length = 17 := by unfold bl17; rw [List.length_map, List.length_range]
theorem il17_len (f : Nat → Int) : (il17 f).length = 17 := by unfold il17; rw [List.length_map, List.length_range]
theorem bl17_get (f : Nat → Bool) {t : Nat} (h : t < 17) : (bl17 f)[t]? = some (.bool (f t)) := by unfold bl17; rw [List.getElem?_map, List.getElem?_range h]; rfl
theorem il17_get (f : Nat → Int) {t : Nat} (h : t < 17) : (il17 f)[t]? = some (.int .i64 (f t)) := by unfold il17; rw [List.getElem?_map, List.getElem?_range h]; rfl
theorem bl17_set (f : Nat → Bool) {t : Nat} (h : t < 17) (b : Bool) : (bl17 f).set t (.bool b) = bl17 (upN f t b) := by
  refine List.ext_getElem? (fun j => ?_)
  rw [List.getElem?_set, bl17_len]
  by_cases hj : j < 17
  · rw [bl17_get _ hj, bl17_get _ hj]
    by_cases hij : t = j
    · subst hij; rw [if_pos rfl, if_pos h, upN_same]
    · rw [if_neg hij, upN_ne _ _ (fun hh => hij hh.symm)]
  · rw [if_neg (by omega), List.getElem?_eq_none (by rw [bl17_len]; omega), List.getElem?_eq_none (by rw [bl17_len]; omega)]
theorem il17_set (f : Nat → Int) {t : Nat} (h : t < 17) (b : Int) : (il17 f).set t (.int .i64 b) = il17 (upN f t b) := by
  refine List.ext_getElem? (fun j => ?_)
  rw [List.getElem?_set, il17_len]
  by_cases hj : j < 17
  · rw [il17_get _ hj, il17_get _ hj]
    by_cases hij : t = j
    · subst hij; rw [if_pos rfl, if_pos h, upN_same]
    · rw [if_neg hij, upN_ne _ _ (fun hh => hij hh.symm)]
  · rw [if_neg (by omega), List.getElem?_eq_none (by rw [il17_len]; omega), List.getElem?_eq_none (by rw [il17_len]; omega)]
section
variable (o : Note) {t : Nat} (h : t < 17)
theorem app_get0 {l m : List Value} (hl : l.length = 17) {t : Nat} (h : t < 17) : (l ++ m)[t]? = l[t]? := List.getElem?_append_left (by omega)
theorem app_get1 {l m : List Value} (hl : l.length = 17) {t : Nat} : (l ++ m)[17 + t]? = m[t]? := by rw [List.getElem?_append_right (by omega), hl]; congr 1; omega
theorem note_is (o : Note) {t : Nat} (h : t < 17) : (noteC o)[t]? = some (.bool (o.is t)) := by unfold noteC; rw [app_get0 (bl17_len _) h, bl17_get _ h]
theorem note_rd (o : Note) {t : Nat} (h : t < 17) : (noteC o)[17 + t]? = some (.bool (o.rd t)) := by unfold noteC; rw [app_get1 (bl17_len _), app_get0 (bl17_len _) h, bl17_get _ h]
theorem note_dd (o : Note) {t : Nat} (h : t < 17) : (noteC o)[34 + t]? = some (.bool (o.dd t)) := by unfold noteC; rw [show 34 + t = 17 + (17 + t) by omega, app_get1 (bl17_len _), app_get1 (bl17_len _), app_get0 (bl17_len _) h, bl17_get _ h]
theorem note_mo (o : Note) {t : Nat} (h : t < 17) : (noteC o)[51 + t]? = some (.bool (o.mo t)) := by unfold noteC; rw [show 51 + t = 17 + (17 + (17 + t)) by omega, app_get1 (bl17_len _), app_get1 (bl17_len _), app_get1 (bl17_len _), app_get0 (bl17_len _) h, bl17_get _ h]
theorem note_pn (o : Note) {t : Nat} (h : t < 17) : (noteC o)[68 + t]? = some (.int .i64 (o.pn t)) := by unfold noteC; rw [show 68 + t = 17 + (17 + (17 + (17 + t))) by omega, app_get1 (bl17_len _), app_get1 (bl17_len _), app_get1 (bl17_len _), app_get1 (bl17_len _), il17_get _ h]
end
theorem app_set0 {l m : List Value} (hl : l.length = 17) {t : Nat} (h : t < 17) (v : Value) : (l ++ m).set t v = l.set t v ++ m := List.set_append_left _ _ (by omega)
theorem app_set1 {l m : List Value} (hl : l.length = 17) {t : Nat} (v : Value) : (l ++ m).set (17 + t) v = l ++ m.set t v := by rw [List.set_append_right _ _ (by omega), hl]; congr 2; omega
theorem note_sis (o : Note) {t : Nat} (h : t < 17) (b : Bool) : (noteC o).set t (.bool b) = noteC { o with is := upN o.is t b } := by unfold noteC; rw [app_set0 (bl17_len _) h, bl17_set _ h]
theorem note_srd (o : Note) {t : Nat} (h : t < 17) (b : Bool) : (noteC o).set (17 + t) (.bool b) = noteC { o with rd := upN o.rd t b } := by unfold noteC; rw [app_set1 (bl17_len _), app_set0 (bl17_len _) h, bl17_set _ h]
theorem note_sdd (o : Note) {t : Nat} (h : t < 17) (b : Bool) : (noteC o).set (34 + t) (.bool b) = noteC { o with dd := upN o.dd t b } := by unfold noteC; rw [show 34 + t = 17 + (17 + t) by omega, app_set1 (bl17_len _), app_set1 (bl17_len _), app_set0 (bl17_len _) h, bl17_set _ h]
theorem note_smo (o : Note) {t : Nat} (h : t < 17) (b : Bool) : (noteC o).set (51 + t) (.bool b) = noteC { o with mo := upN o.mo t b } := by unfold noteC; rw [show 51 + t = 17 + (17 + (17 + t)) by omega, app_set1 (bl17_len _), app_set1 (bl17_len _), app_set1 (bl17_len _), app_set0 (bl17_len _) h, bl17_set _ h]
theorem note_spn (o : Note) {t : Nat} (h : t < 17) (b : Int) : (noteC o).set (68 + t) (.int .i64 b) = noteC { o with pn := upN o.pn t b } := by unfold noteC; rw [show 68 + t = 17 + (17 + (17 + (17 + t))) by omega, app_set1 (bl17_len _), app_set1 (bl17_len _), app_set1 (bl17_len _), app_set1 (bl17_len _), il17_set _ h]
/-- The notes go with the run. -/
def NoteOk (s : SR) (o : Note) : Prop := ∀ t : Nat, 1 ≤ t → t ≤ 16 → match s.who (t : Int) with
  | none => o.is t = false
  | some (i, x) => o.is t = true ∧ o.rd t = x.r ∧ o.dd t = decide (x.cl = 3) ∧ o.mo t = decide (0 < x.mo) ∧ o.pn t = x.pin
end Go.Proofs.Ythcgeigijnbpkaa
