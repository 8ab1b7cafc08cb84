/- Plain words for the law PickClasses: what the scheduler holds while the tasks are added. No program in sight; no condition. -/
import Derived.Test.YtipmjfpoglkiaaaPcP
namespace Go.Proofs.Ytipmjfpoglkiaaa
open Go.RowKit
set_option linter.unusedVariables false
def tsA (k : Nat) : List FT := (List.range (min k 3)).map (fun i => (⟨i + 1, i + 1, 0, 0, true⟩ : FT))
def dsA (k : Nat) : List DT := (List.range (k - 6)).map (fun i => newT (i + 7) 1 4 0)
/-- The first k of nine tasks are there. -/
structure PcA (k : Nat) (s : PKS) : Prop where
  ts : s.ts = tsA k
  ds : s.ds = dsA k
  b : s.b = 2 ^ (min k 6 - 3) - 1
  q : ∀ v, v < 8 → s.q v = if v < 3 ∧ v + 4 ≤ k then [((v + 4 : Nat) : Int)] else []
  cl : ∀ t : Nat, 1 ≤ t → t ≤ k → s.cl (t : Int) = some (.int .i64 (clsN t : Nat))
  co : ∀ t : Nat, k < t → s.cl (t : Int) = none ∧ s.va (t : Int) = none
  c0 : s.cl 0 = none
  va : ∀ v : Nat, v < 3 → v + 4 ≤ k → s.va ((v + 4 : Nat) : Int) = some (.int .i64 (v : Int))
  of : ∀ i, s.of i = none
  nw : s.nw = 0
  us : s.used = 0
section
variable {k : Nat} {s : PKS}
theorem pcA_new : PcA 0 pkNew := ⟨rfl, rfl, rfl, fun v hv => by rw [if_neg (by omega)]; rfl, fun t h1 h2 => by omega, fun t _ => ⟨rfl, rfl⟩, rfl, fun v _ h => by omega, fun _ => rfl, rfl, rfl⟩
theorem woken0 {ts : List FT} {n : Nat} {o : Option Nat} (hz : ∀ x ∈ ts, x.v = 0) (h : FLeast ts n o) (t w : Nat) : wokenF o (newF t w) = ⟨t, w, 0, 0, true⟩ := by
  cases o with
  | none => rfl
  | some m =>
    obtain ⟨⟨i, x, _, hx, _, hm⟩, _⟩ := h
    have := hz x (List.mem_of_getElem? hx)
    obtain rfl : m = 0 := by omega
    rfl
theorem tsA_v (k : Nat) : ∀ x ∈ tsA k, x.v = 0 := fun x hx => by
  unfold tsA at hx
  obtain ⟨i, _, rfl⟩ := List.mem_map.1 hx
  rfl
theorem cl_upd {f : Int → Option Value} {k c : Nat} (h : ∀ t : Nat, 1 ≤ t → t ≤ k → f (t : Int) = some (.int .i64 (clsN t : Nat))) (hc : clsN (k + 1) = c) : ∀ t : Nat, 1 ≤ t → t ≤ k + 1 → updM f ((k + 1 : Nat) : Int) (some (.int .i64 (c : Int))) (t : Int) = some (.int .i64 (clsN t : Nat)) := by
  intro t h1 h2
  unfold updM
  by_cases ht : t = k + 1
  · subst ht; rw [if_pos rfl, hc]
  · rw [if_neg (by omega)]; exact h t h1 (by omega)
theorem co_upd {f g : Int → Option Value} {k : Nat} {u v : Value} (h : ∀ t : Nat, k < t → f (t : Int) = none ∧ g (t : Int) = none) : ∀ t : Nat, k + 1 < t → updM f ((k + 1 : Nat) : Int) (some u) (t : Int) = none ∧ updM g ((k + 1 : Nat) : Int) (some v) (t : Int) = none := by
  intro t ht
  unfold updM
  rw [if_neg (by omega), if_neg (by omega)]
  exact h t (by omega)
theorem upd0 {f : Int → Option Value} {k : Nat} {u : Value} (h : f 0 = none) : updM f ((k + 1 : Nat) : Int) (some u) 0 = none := by
  unfold updM; rw [if_neg (by omega)]; exact h
theorem PcA.addF (h : PcA k s) (hk : k < 3) {o : Option Nat} (ho : FLeast s.ts s.ts.length o) : PcA (k + 1) { s with ts := s.ts ++ [wokenF o (newF (k + 1) (k + 1))], cl := updM s.cl ((k + 1 : Nat) : Int) (some (.int .i64 1)), va := updM s.va ((k + 1 : Nat) : Int) (some (.int .i64 ((k + 1 : Nat) : Int))) } := by
  refine ⟨?_, ?_, ?_, fun v hv => ?_, cl_upd (c := 1) h.cl (by unfold clsN; rw [if_pos (by omega)]), co_upd h.co, upd0 (f := s.cl) (k := k) (u := .int .i64 1) h.c0, fun v h1 h2 => by omega, h.of, h.nw, h.us⟩
  · show s.ts ++ [wokenF o (newF (k + 1) (k + 1))] = tsA (k + 1)
    rw [woken0 (by rw [h.ts]; exact tsA_v k) ho, h.ts]
    unfold tsA
    rw [show min (k + 1) 3 = min k 3 + 1 by omega, List.range_succ, List.map_append]
    rw [show min k 3 = k by omega]
    rfl
  · show s.ds = dsA (k + 1)
    rw [h.ds]; unfold dsA
    rw [show k - 6 = 0 by omega, show k + 1 - 6 = 0 by omega]
  · show s.b = _
    rw [h.b, show min k 6 - 3 = 0 by omega, show min (k + 1) 6 - 3 = 0 by omega]
  · show s.q v = _
    rw [h.q v hv, if_neg (by omega), if_neg (by omega)]
theorem PcA.addP (h : PcA k s) (h3 : 3 ≤ k) (hk : k < 6) : PcA (k + 1) { s with b := s.b ||| 2 ^ (k - 3), q := upF s.q (k - 3) (s.q (k - 3) ++ [((k + 1 : Nat) : Int)]), cl := updM s.cl ((k + 1 : Nat) : Int) (some (.int .i64 2)), va := updM s.va ((k + 1 : Nat) : Int) (some (.int .i64 ((k - 3 : Nat) : Int))) } := by
  refine ⟨?_, ?_, ?_, fun v hv => ?_, cl_upd (c := 2) h.cl (by unfold clsN; rw [if_neg (by omega), if_pos (by omega)]), co_upd h.co, upd0 (f := s.cl) (k := k) (u := .int .i64 2) h.c0, fun v h1 h2 => ?_, h.of, h.nw, h.us⟩
  · show s.ts = _
    rw [h.ts]; unfold tsA
    rw [show min k 3 = 3 by omega, show min (k + 1) 3 = 3 by omega]
  · show s.ds = _
    rw [h.ds]; unfold dsA
    rw [show k - 6 = 0 by omega, show k + 1 - 6 = 0 by omega]
  · show s.b ||| 2 ^ (k - 3) = _
    rw [h.b]
    have : k = 3 ∨ k = 4 ∨ k = 5 := by omega
    rcases this with rfl | rfl | rfl <;> decide
  · show upF s.q (k - 3) _ v = _
    by_cases hv2 : v = k - 3
    · rw [hv2, upF_same, h.q (k - 3) (by omega), if_neg (by omega), if_pos (by omega)]
      rw [show k - 3 + 4 = k + 1 by omega]; rfl
    · rw [upF_ne _ _ hv2, h.q v hv]
      by_cases h4 : v < 3 ∧ v + 4 ≤ k
      · rw [if_pos h4, if_pos (by omega)]
      · rw [if_neg h4, if_neg (by omega)]
  · show updM s.va _ _ _ = _
    unfold updM
    by_cases hv2 : v = k - 3
    · subst hv2; rw [if_pos (by omega)]
    · rw [if_neg (by omega)]; exact h.va v h1 (by omega)
theorem PcA.addD (h : PcA k s) (h6 : 6 ≤ k) (hk : k < 9) : PcA (k + 1) { s with ds := s.ds ++ [newT (k + 1) 1 4 s.nw], cl := updM s.cl ((k + 1 : Nat) : Int) (some (.int .i64 3)), va := updM s.va ((k + 1 : Nat) : Int) (some (.int .i64 1)) } := by
  refine ⟨?_, ?_, ?_, fun v hv => ?_, cl_upd (c := 3) h.cl (by unfold clsN; rw [if_neg (by omega), if_neg (by omega)]), co_upd h.co, upd0 (f := s.cl) (k := k) (u := .int .i64 3) h.c0, fun v h1 h2 => ?_, h.of, h.nw, h.us⟩
  · show s.ts = _
    rw [h.ts]; unfold tsA
    rw [show min k 3 = 3 by omega, show min (k + 1) 3 = 3 by omega]
  · show s.ds ++ _ = _
    rw [h.ds, h.nw]; unfold dsA
    rw [show k + 1 - 6 = (k - 6) + 1 by omega, List.range_succ, List.map_append]
    rw [show ([k - 6].map fun i => newT (i + 7) 1 4 0) = [newT (k - 6 + 7) 1 4 0] from rfl, show k - 6 + 7 = k + 1 by omega]
  · show s.b = _
    rw [h.b, show min k 6 = 6 by omega, show min (k + 1) 6 = 6 by omega]
  · show s.q v = _
    rw [h.q v hv]
    by_cases h4 : v < 3
    · rw [if_pos (by omega), if_pos (by omega)]
    · rw [if_neg (by omega), if_neg (by omega)]
  · show updM s.va _ _ _ = _
    unfold updM
    rw [if_neg (by omega)]; exact h.va v h1 (by omega)
theorem PcA.len (h : PcA k s) : s.ts.length ≤ 3 ∧ s.ds.length ≤ k ∧ s.b < 256 ∧ (∀ i, i < 8 → (s.q i).length ≤ 999) ∧ (∀ y ∈ s.ts, y.g = 0) ∧ (∀ y ∈ s.ts, y.t ≤ k) ∧ ∀ y ∈ s.ds, y.t ≤ k := by
  refine ⟨by rw [h.ts]; unfold tsA; rw [List.length_map, List.length_range]; omega, by rw [h.ds]; unfold dsA; rw [List.length_map, List.length_range]; omega, ?_, fun i hi => ?_, fun y hy => ?_, fun y hy => ?_, fun y hy => ?_⟩
  · rw [h.b]
    have : min k 6 - 3 ≤ 3 := by omega
    have h2 : (2 : Nat) ^ (min k 6 - 3) ≤ 2 ^ 3 := Nat.pow_le_pow_right (by omega) this
    omega
  · rw [h.q i hi]; split <;> simp
  · rw [h.ts] at hy; unfold tsA at hy
    obtain ⟨i, _, rfl⟩ := List.mem_map.1 hy
    rfl
  · rw [h.ts] at hy; unfold tsA at hy
    obtain ⟨i, hi, rfl⟩ := List.mem_map.1 hy
    have := List.mem_range.1 hi
    show i + 1 ≤ k
    omega
  · rw [h.ds] at hy; unfold dsA at hy
    obtain ⟨i, hi, rfl⟩ := List.mem_map.1 hy
    have := List.mem_range.1 hi
    show i + 7 ≤ k
    omega
theorem PcA.prNo (h : PcA k s) : prOf s.q ((k + 1 : Nat) : Int) 8 = -1 :=
  prOf_none _ _ (fun i hi hm => by
    rw [h.q i hi] at hm
    split at hm
    · rename_i hh
      have := List.mem_singleton.1 hm
      omega
    · cases hm) 8 (by omega)
theorem PcA.done (h : PcA 9 s) : PcI 0 (fun _ => false) s := by
  have e1 : s.ts = [⟨1, 1, 0, 0, true⟩, ⟨2, 2, 0, 0, true⟩, ⟨3, 3, 0, 0, true⟩] := h.ts
  have e2 : s.ds = [newT 7 1 4 0, newT 8 1 4 0, newT 9 1 4 0] := h.ds
  refine ⟨by rw [e1]; rfl, fun x hx => ?_, fun i x hx => ?_, by rw [e2]; rfl, fun x hx => ?_, fun i x hx => ?_, by rw [h.b]; decide, fun v hv => ?_, fun v hv => ?_, h.cl, h.c0, fun v hv => h.va v hv (by omega), fun t _ _ => h.of _, by rw [h.nw]; omega, by rw [h.us]; omega, by rw [h.us]; omega⟩
  · rw [e1] at hx
    simp only [List.mem_cons, List.not_mem_nil, or_false] at hx
    rcases hx with rfl | rfl | rfl <;> exact ⟨by decide, by decide, by decide, by decide, rfl, by decide⟩
  · rw [e1] at hx
    have hi : i < 3 := (List.getElem?_eq_some_iff.1 hx).1
    have : i = 0 ∨ i = 1 ∨ i = 2 := by omega
    rcases this with rfl | rfl | rfl <;> (simp at hx; subst hx; exact ⟨rfl, rfl⟩)
  · rw [e2] at hx
    rw [h.nw]
    simp only [List.mem_cons, List.not_mem_nil, or_false] at hx
    rcases hx with rfl | rfl | rfl <;> exact ok_new (by omega) (by omega) (by omega) (by omega) (by omega)
  · rw [e2] at hx
    have hi : i < 3 := (List.getElem?_eq_some_iff.1 hx).1
    have : i = 0 ∨ i = 1 ∨ i = 2 := by omega
    rcases this with rfl | rfl | rfl <;> (simp at hx; subst hx; exact ⟨rfl, rfl⟩)
  · rw [h.b, h.q v hv]
    have : v = 0 ∨ v = 1 ∨ v = 2 ∨ v = 3 ∨ v = 4 ∨ v = 5 ∨ v = 6 ∨ v = 7 := by omega
    rcases this with rfl | rfl | rfl | rfl | rfl | rfl | rfl | rfl <;> simp <;> decide
  · rw [h.q v hv]
    unfold qOf
    by_cases h3 : v < 3
    · rw [if_pos (by omega), if_pos ⟨h3, rfl⟩]
    · rw [if_neg (by omega), if_neg (by omega)]
end
end Go.Proofs.Ytipmjfpoglkiaaa
