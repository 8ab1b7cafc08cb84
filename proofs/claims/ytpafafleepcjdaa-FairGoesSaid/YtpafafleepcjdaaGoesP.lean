/- Plain facts on tasks of which some are blocked, and some have left. No program in sight; no condition. -/
import Derived.Test.YtpafafleepcjdaaFairQ
namespace Go.Proofs.Ytpafafleepcjdaa
open Go.RowKit
set_option linter.unusedVariables false
theorem and3 (x : Int) : 0 ≤ bits .and .i64 x 3 ∧ bits .and .i64 x 3 ≤ 3 := by
  have h : (BitVec.ofInt 64 x &&& BitVec.ofInt 64 3).toNat ≤ 3 := by
    rw [BitVec.toNat_and]
    exact Nat.le_trans Nat.and_le_right (by decide)
  have e : bits .and .i64 x 3 = IntKind.i64.wrap ((BitVec.ofInt 64 x &&& BitVec.ofInt 64 3).toNat : Int) := rfl
  rw [e]
  generalize (BitVec.ofInt 64 x &&& BitVec.ofInt 64 3).toNat = n at *
  rw [IntWalk.i64_in _ (by omega)]
  omega
/-- What is so once the first k have been dealt with, by their codes: 0 is blocked, 1 has left. -/
structure GI (V n k : Nat) (cd : Nat → Int) (ts : List FT) : Prop where
  len : ts.length ≤ 16
  ok : ∀ x ∈ ts, FOk V x
  inc : ∀ (i j : Nat) x y, i < j → ts[i]? = some x → ts[j]? = some y → x.t < y.t
  st : ∀ x ∈ ts, x.t ≤ n ∧ (x.t ≤ k → cd (x.t - 1) ≠ 1) ∧ (x.r = true ↔ ¬ (x.t ≤ k ∧ cd (x.t - 1) = 0))
  all : ∀ t, 1 ≤ t → t ≤ n → (t ≤ k → cd (t - 1) ≠ 1) → ∃ x ∈ ts, x.t = t
section
variable {V n k : Nat} {cd : Nat → Int} {ts : List FT}
theorem gi_new (zs : List Int) (n : Nat) (hn : n ≤ 16) (cd : Nat → Int) : GI 0 n 0 cd (mkF zs n) := by
  have h := mkF_inv zs n hn
  have hx : ∀ (i : Nat) x, (mkF zs n)[i]? = some x → x.t = i + 1 ∧ x.r = true := fun i x hx => by
    have hi : i < n := by have := (List.getElem?_eq_some_iff.1 hx).1; rwa [mkF_len] at this
    rw [mkF_get zs n i hi] at hx
    injection hx with hx
    rw [← hx]; exact ⟨rfl, rfl⟩
  refine ⟨by rw [mkF_len]; exact hn, h.ok, fun i j x y hij h1 h2 => by rw [(hx i x h1).1, (hx j y h2).1]; omega, fun x hm => ?_, fun t h1 h2 _ => ?_⟩
  · obtain ⟨i, hi⟩ := mem_at hm
    have hl := (List.getElem?_eq_some_iff.1 hi).1
    rw [mkF_len] at hl
    obtain ⟨e1, e2⟩ := hx i x hi
    exact ⟨by omega, fun hh => by omega, by simp [e2]; intro hh; omega⟩
  · have hl : t - 1 < (mkF zs n).length := by rw [mkF_len]; omega
    refine ⟨_, List.getElem_mem hl, ?_⟩
    have := (hx (t - 1) _ (List.getElem?_eq_getElem hl)).1
    omega
theorem GI.find (h : GI V n k cd ts) (hk : k < n) : ∃ (i : Nat) (x : FT), ts[i]? = some x ∧ x.t = k + 1 ∧ x.r = true ∧ ∀ (j : Nat) y, j ≠ i → ts[j]? = some y → y.t ≠ k + 1 := by
  obtain ⟨x, hm, ht⟩ := h.all (k + 1) (by omega) (by omega) (fun hh => by omega)
  obtain ⟨i, hi⟩ := mem_at hm
  refine ⟨i, x, hi, ht, (h.st x hm).2.2.2 (fun hh => by omega), fun j y hji hy => ?_⟩
  rcases Nat.lt_or_ge j i with hlt | hge
  · have := h.inc j i y x hlt hy hi; omega
  · have := h.inc i j x y (by omega) hi hy; omega
theorem GI.skip (h : GI V n k cd ts) (h0 : cd k ≠ 0) (h1 : cd k ≠ 1) : GI V n (k + 1) cd ts := by
  refine ⟨h.len, h.ok, h.inc, fun x hx => ?_, fun t t1 t2 t3 => h.all t t1 t2 (fun hh => t3 (by omega))⟩
  obtain ⟨s1, s2, s3⟩ := h.st x hx
  have t1 := (h.ok x hx).t1
  by_cases hk : x.t = k + 1
  · have e : x.t - 1 = k := by omega
    rw [e] at s2 s3 ⊢
    exact ⟨s1, fun _ => h1, by rw [s3]; constructor <;> intro _ hh <;> omega⟩
  · refine ⟨s1, fun hh => s2 (by omega), ?_⟩
    rw [s3]
    constructor <;> intro q hh <;> exact q ⟨by omega, hh.2⟩
theorem GI.block (h : GI V n k cd ts) (h0 : cd k = 0) {i : Nat} {x : FT} (hx : ts[i]? = some x) (ht : x.t = k + 1) (hoth : ∀ (j : Nat) y, j ≠ i → ts[j]? = some y → y.t ≠ k + 1) : GI V n (k + 1) cd (ts.set i { x with r := false }) := by
  have hil : i < ts.length := (List.getElem?_eq_some_iff.1 hx).1
  have hmx := List.mem_of_getElem? hx
  have get : ∀ (j : Nat) y, (ts.set i { x with r := false })[j]? = some y → (j = i ∧ y = { x with r := false }) ∨ (j ≠ i ∧ ts[j]? = some y) := fun j y hy => by
    rw [List.getElem?_set] at hy
    split at hy
    · rename_i h
      injection hy with hy; exact .inl ⟨h.symm, hy.symm⟩
    · rename_i h; exact .inr ⟨fun hh => h hh.symm, hy⟩
  have tt : ∀ (j : Nat) y, (ts.set i { x with r := false })[j]? = some y → ∃ z, ts[j]? = some z ∧ z.t = y.t := fun j y hy => by
    rcases get j y hy with ⟨rfl, rfl⟩ | ⟨_, hy⟩
    · exact ⟨x, hx, rfl⟩
    · exact ⟨y, hy, rfl⟩
  refine ⟨by rw [List.length_set]; exact h.len, fun y hy => ?_, fun a b y z hab hy hz => ?_, fun y hy => ?_, fun t t1 t2 t3 => ?_⟩
  · obtain ⟨j, hj⟩ := mem_at hy
    rcases get j y hj with ⟨rfl, rfl⟩ | ⟨_, hy⟩
    · have := h.ok x hmx; exact ⟨this.t1, this.t2, this.w1, this.w2, this.g0, this.v2⟩
    · exact h.ok y (List.mem_of_getElem? hy)
  · obtain ⟨y', y1, y2⟩ := tt a y hy
    obtain ⟨z', z1, z2⟩ := tt b z hz
    have := h.inc a b y' z' hab y1 z1
    omega
  · obtain ⟨j, hj⟩ := mem_at hy
    rcases get j y hj with ⟨rfl, rfl⟩ | ⟨hne, hy⟩
    · refine ⟨(h.st x hmx).1, fun _ => ?_, ?_⟩
      · show cd (x.t - 1) ≠ 1
        rw [ht, Nat.add_sub_cancel, h0]; decide
      · show false = true ↔ ¬ (x.t ≤ k + 1 ∧ cd (x.t - 1) = 0)
        rw [ht, Nat.add_sub_cancel, h0]; simp
    · have hym := List.mem_of_getElem? hy
      obtain ⟨s1, s2, s3⟩ := h.st y hym
      have := hoth j y hne hy
      refine ⟨s1, fun hh => s2 (by omega), ?_⟩
      rw [s3]
      constructor <;> intro q hh <;> exact q ⟨by omega, hh.2⟩
  · obtain ⟨z, hz, hzt⟩ := h.all t t1 t2 (fun hh => t3 (by omega))
    obtain ⟨j, hj⟩ := mem_at hz
    by_cases hji : j = i
    · subst hji
      rw [hx] at hj; injection hj with hj; subst hj
      exact ⟨_, List.mem_of_getElem? (List.getElem?_set_self hil), hzt⟩
    · exact ⟨z, List.mem_of_getElem? (by rw [List.getElem?_set_ne (fun hh => hji hh.symm)]; exact hj), hzt⟩
theorem erase_get {α : Type} (l : List α) (i j : Nat) : (l.eraseIdx i)[j]? = if j < i then l[j]? else l[j + 1]? := by
  rw [List.getElem?_eraseIdx]
theorem GI.leave (h : GI V n k cd ts) (h0 : cd k = 1) {i : Nat} {x : FT} (hx : ts[i]? = some x) (ht : x.t = k + 1) (hoth : ∀ (j : Nat) y, j ≠ i → ts[j]? = some y → y.t ≠ k + 1) : GI V n (k + 1) cd (ts.eraseIdx i) ∧ ∀ y ∈ ts.eraseIdx i, y.t ≠ k + 1 := by
  have hil : i < ts.length := (List.getElem?_eq_some_iff.1 hx).1
  have tt : ∀ (j : Nat) y, (ts.eraseIdx i)[j]? = some y → ∃ j', j' ≠ i ∧ ts[j']? = some y ∧ (j' = j ∧ j < i ∨ j' = j + 1 ∧ i ≤ j) := fun j y hy => by
    rw [erase_get] at hy
    split at hy
    · exact ⟨j, by omega, hy, .inl ⟨rfl, by omega⟩⟩
    · exact ⟨j + 1, by omega, hy, .inr ⟨rfl, by omega⟩⟩
  have hne : ∀ y ∈ ts.eraseIdx i, y.t ≠ k + 1 := fun y hy => by
    obtain ⟨j, hj⟩ := mem_at hy
    obtain ⟨j', h1, h2, _⟩ := tt j y hj
    exact hoth j' y h1 h2
  refine ⟨⟨?_, fun y hy => h.ok y (List.mem_of_mem_eraseIdx hy), fun a b y z hab hy hz => ?_, fun y hy => ?_, fun t t1 t2 t3 => ?_⟩, hne⟩
  · rw [List.length_eraseIdx_of_lt hil]; have := h.len; omega
  · obtain ⟨a', _, a2, a3⟩ := tt a y hy
    obtain ⟨b', _, b2, b3⟩ := tt b z hz
    exact h.inc a' b' y z (by omega) a2 b2
  · obtain ⟨s1, s2, s3⟩ := h.st y (List.mem_of_mem_eraseIdx hy)
    have := hne y hy
    refine ⟨s1, fun hh => s2 (by omega), ?_⟩
    rw [s3]
    constructor <;> intro q hh <;> exact q ⟨by omega, hh.2⟩
  · have htk : t ≠ k + 1 := fun hh => by
      subst hh
      have := t3 (Nat.le_refl _)
      rw [Nat.add_sub_cancel] at this
      exact this h0
    obtain ⟨z, hz, hzt⟩ := h.all t t1 t2 (fun hh => t3 (by omega))
    obtain ⟨j, hj⟩ := mem_at hz
    have hji : j ≠ i := fun hh => by subst hh; rw [hx] at hj; injection hj with hj; subst hj; omega
    refine ⟨z, ?_, hzt⟩
    rcases Nat.lt_or_ge j i with hlt | hge
    · exact List.mem_of_getElem? (i := j) (by rw [erase_get, if_pos hlt]; exact hj)
    · exact List.mem_of_getElem? (i := j - 1) (by rw [erase_get, if_neg (by omega), show j - 1 + 1 = j by omega]; exact hj)
theorem GI.tick (h : GI V n k cd ts) (b : Option Nat) : GI (V + 1048576) n k cd (tickF ts b) := by
  have tt : ∀ (j : Nat) y, (tickF ts b)[j]? = some y → ∃ z, ts[j]? = some z ∧ z.t = y.t ∧ z.r = y.r ∧ FOk (V + 1048576) y := fun j y hy => by
    rw [tickF_get] at hy
    cases hk : ts[j]? with
    | none => rw [hk] at hy; cases hy
    | some v =>
      rw [hk] at hy
      simp only [Option.map_some, Option.some.injEq] at hy
      have hv := h.ok v (List.mem_of_getElem? hk)
      refine ⟨v, rfl, ?_, ?_, ?_⟩
      · rw [← hy]; split <;> rfl
      · rw [← hy]; split <;> rfl
      · rw [← hy]
        split
        · exact runF_ok hv
        · exact ⟨hv.t1, hv.t2, hv.w1, hv.w2, hv.g0, by have := hv.v2; omega⟩
  refine ⟨by rw [tickF_len]; exact h.len, fun y hy => ?_, fun a c y z hac hy hz => ?_, fun y hy => ?_, fun t t1 t2 t3 => ?_⟩
  · obtain ⟨j, hj⟩ := mem_at hy
    exact (tt j y hj).choose_spec.2.2.2
  · obtain ⟨y', y1, y2, _⟩ := tt a y hy
    obtain ⟨z', z1, z2, _⟩ := tt c z hz
    have := h.inc a c y' z' hac y1 z1
    omega
  · obtain ⟨j, hj⟩ := mem_at hy
    obtain ⟨z, z1, z2, z3, _⟩ := tt j y hj
    have := h.st z (List.mem_of_getElem? z1)
    rwa [z2, z3] at this
  · obtain ⟨z, hz, hzt⟩ := h.all t t1 t2 t3
    obtain ⟨j, hj⟩ := mem_at hz
    have : ∃ y, (tickF ts b)[j]? = some y := by rw [tickF_get, hj]; exact ⟨_, rfl⟩
    obtain ⟨y, hy⟩ := this
    obtain ⟨z', z1, z2, _⟩ := tt j y hy
    rw [hj] at z1; injection z1 with z1; subst z1
    exact ⟨y, List.mem_of_getElem? hy, by omega⟩
/-- How many are left. -/
def Few (cd : Nat → Int) (k R : Nat) : Prop := (R = 0 → ∀ i, i < k → cd i = 0 ∨ cd i = 1) ∧ (R ≠ 0 → ∃ i, i < k ∧ cd i ≠ 0 ∧ cd i ≠ 1)
theorem few_more {R : Nat} (h0 : cd k ≠ 0) (h1 : cd k ≠ 1) : Few cd (k + 1) (R + 1) := ⟨fun h => by omega, fun _ => ⟨k, by omega, h0, h1⟩⟩
theorem few_same {R : Nat} (h : Few cd k R) (h0 : cd k = 0 ∨ cd k = 1) : Few cd (k + 1) R := by
  refine ⟨fun hR i hi => ?_, fun hR => ?_⟩
  · by_cases hik : i = k
    · subst hik; exact h0
    · exact h.1 hR i (by omega)
  · obtain ⟨i, h1, h2⟩ := h.2 hR
    exact ⟨i, by omega, h2⟩
theorem GI.none {R : Nat} (h : GI V n n cd ts) (hf : Few cd n R) (hR : R = 0) {b : Option Nat} (hb : FFirst ts ts.length b) : b = none := by
  cases b with
  | none => rfl
  | some j =>
    obtain ⟨y, _, hy, hr, _⟩ := hb
    have hm := List.mem_of_getElem? hy
    obtain ⟨s1, s2, s3⟩ := h.st y hm
    have t1 := (h.ok y hm).t1
    exfalso
    refine s3.1 hr ⟨s1, ?_⟩
    rcases hf.1 hR (y.t - 1) (by omega) with h0 | h0
    · exact h0
    · exact absurd h0 (s2 s1)
theorem GI.some {R : Nat} (h : GI V n n cd ts) (hf : Few cd n R) (hR : R ≠ 0) {b : Option Nat} (hb : FFirst ts ts.length b) : ∃ j y, b = some j ∧ ts[j]? = some y ∧ 1 ≤ y.t ∧ y.t ≤ n ∧ cd (y.t - 1) ≠ 0 ∧ cd (y.t - 1) ≠ 1 := by
  cases b with
  | none =>
    obtain ⟨i, h1, h2, h3⟩ := hf.2 hR
    obtain ⟨x, hx, ht⟩ := h.all (i + 1) (by omega) (by omega) (fun _ => by rw [Nat.add_sub_cancel]; exact h3)
    obtain ⟨j, hj⟩ := mem_at hx
    have := hb j x (List.getElem?_eq_some_iff.1 hj).1 hj
    have hs := (h.st x hx).2.2.2 (fun hh => h2 (by rw [ht, Nat.add_sub_cancel] at hh; exact hh.2))
    rw [this] at hs; cases hs
  | some j =>
    obtain ⟨y, _, hy, hr, _⟩ := hb
    have hm := List.mem_of_getElem? hy
    obtain ⟨s1, s2, s3⟩ := h.st y hm
    exact ⟨j, y, rfl, hy, (h.ok y hm).t1, s1, fun h0 => s3.1 hr ⟨s1, h0⟩, s2 s1⟩
end
end Go.Proofs.Ytpafafleepcjdaa
