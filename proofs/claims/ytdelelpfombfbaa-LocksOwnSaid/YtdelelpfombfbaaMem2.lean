/- More words for memory: what s[k:] and s[:k] read, a store into an element of many cells. No program in sight; no condition. -/
import Derived.Test.YtdelelpfombfbaaMem
import Derived.Deep.DeepCutAuto
namespace Go.Proofs.Ytdelelpfombfbaa
open Go.RowKit
/-- Where s[k:] begins. -/
def adv (a : Option Addr) (c k s : Nat) : Option Addr := if c = k then a else a.map (·.add (k * s))
theorem run_from {P : Program} {t e : TypeId} {s bytes : Nat} (T : ETy P t e s bytes) (a : Option Addr) (n c k : Nat) (l : Int) (hl : l = (k : Int)) (hk : k ≤ n) (w : World) :
    (Instr.slice t (.slice a n c) (some (.int .i64 l)) none none).run P w = .ok (.slice (adv a c k s) (n - k) (c - k)) w := by
  obtain ⟨i, z, hi, _, hs, _, _⟩ := T.info
  subst hl
  subst hs
  have he : P.elem t = e := by simp [Program.elem, T.under]
  rw [run_slice_l w t a n c (by rw [he]; exact T.under) .i64 (k : Int) (by omega) (by omega)]
  simp [he, sizeOf, typeInfo, hi, sliced, adv, Result.andThen]
theorem Rd.drop_n {w : World} {R : Nat → Prop} {s : Nat} {a : Option Addr} {n c k : Nat} {xs : List Value} (h : Rd w R s a n c xs) (hk : k ≤ n) : Rd w R s (adv a c k s) (n - k) (c - k) (xs.drop (k * s)) := by
  obtain ⟨h1, h2, h3, h4⟩ := h
  have hm : (n - k) * s = n * s - k * s := Nat.sub_mul n k s
  have hks : k * s ≤ n * s := Nat.mul_le_mul_right _ hk
  refine ⟨by omega, by omega, by rw [List.length_drop, hm]; omega, fun hn => ?_⟩
  obtain ⟨g, off, r1, r2, r3, r4⟩ := h4 (by omega)
  refine ⟨g, off + k * s, ?_, r2, r3, fun j hj => ?_⟩
  · unfold adv
    rw [if_neg (by omega), r1, Option.map_some, add_off]
  · rw [List.getElem?_drop, Nat.add_assoc]
    exact r4 (k * s + j) (by omega)
theorem Rd.take_n {w : World} {R : Nat → Prop} {s : Nat} {a : Option Addr} {n c k : Nat} {xs : List Value} (h : Rd w R s a n c xs) (hk : k ≤ n) : Rd w R s a k c (xs.take (k * s)) := by
  obtain ⟨h1, h2, h3, h4⟩ := h
  have hks : k * s ≤ n * s := Nat.mul_le_mul_right _ hk
  refine ⟨by omega, by omega, by rw [List.length_take]; omega, fun hn => ?_⟩
  obtain ⟨g, off, r1, r2, r3, r4⟩ := h4 (by omega)
  exact ⟨g, off, r1, r2, r3, fun j hj => by rw [r4 j (by omega), List.getElem?_take_of_lt (by omega)]⟩
/-- A store into a cell of a slice of one's own. -/
theorem Sl.putn {w : World} {e : TypeId} {s n c g off i : Nat} {xs : List Value} {G : Option Nat} (h : Sl w e s (some ⟨g, off, Option.none⟩) n c xs G) (hi : i < n * s) (u : Value) : Sl (w.setCell ⟨g, off + i, Option.none⟩ u) e s (some ⟨g, off, Option.none⟩) n c (xs.set i u) G := by
  obtain ⟨h1, h2, h3, ⟨h4, _⟩ | ⟨g', off', cur, r1, r2, r3, r4, r5⟩⟩ := h
  · have : n = 0 := by omega
    subst this; omega
  · injection r1 with r1
    injection r1 with r1 r1'
    subst r1; subst r1'
    have hnc : n * s ≤ c * s := Nat.mul_le_mul_right _ h1
    refine ⟨h1, h2, by rw [List.length_set]; exact h3, .inr ⟨g, off, cur.setIfInBounds (off + i) u, rfl, r2, ?_, by simpa using r4, fun j hj => ?_⟩⟩
    · simp [World.setCell, Array.getElem?_modify, r3]
    · by_cases hji : j = i
      · subst hji
        rw [Array.getElem?_setIfInBounds_self_of_lt (by omega), List.getElem?_set_self (by omega)]
      · rw [Array.getElem?_setIfInBounds_ne (by omega), r5 j hj, List.getElem?_set_ne (by omega)]
theorem Sl.free {w : World} {e : TypeId} {s n c g off : Nat} {xs : List Value} {G : Option Nat} (h : Sl w e s (some ⟨g, off, Option.none⟩) n c xs G) (i : Nat) (h0 : 0 < n) : w.frozen? ⟨g, i, Option.none⟩ = false := by
  obtain ⟨h1, h2, h3, ⟨h4, _⟩ | ⟨g', off', cur, r1, r2, r3, r4, r5⟩⟩ := h
  · omega
  · injection r1 with r1
    injection r1 with r1 r1'
    subst r1; subst r1'
    simp [World.frozen?, r3]
theorem Sl.block {w : World} {e : TypeId} {s n c : Nat} {a : Option Addr} {xs : List Value} {G : Option Nat} (h : Sl w e s a n c xs G) (h0 : 0 < n) : ∃ g off, a = some ⟨g, off, none⟩ ∧ G = some g ∧ g < w.heap.size := by
  have hlt := h.lt
  obtain ⟨h1, h2, h3, ⟨h4, _⟩ | ⟨g', off', cur, r1, r2, r3, r4, r5⟩⟩ := h
  · omega
  · exact ⟨g', off', r1, r2, hlt _ r2⟩
/-- In a list of things laid one behind the other: a cell of the k-th is put anew. -/
theorem flat_set {α : Type} (f : α → List Value) (s : Nat) (hs : ∀ x, (f x).length = s) : ∀ (l : List α) (k i : Nat) (x y : α) (u : Value), l[k]? = some x → i < s → (f x).set i u = f y → (l.flatMap f).set (k * s + i) u = (l.set k y).flatMap f := by
  intro l
  induction l with
  | nil => intro k i x y u h; simp at h
  | cons z l ih =>
    intro k i x y u h hi hf
    cases k with
    | zero =>
      simp only [List.getElem?_cons_zero, Option.some.injEq] at h
      subst h
      rw [List.flatMap_cons, Nat.zero_mul, Nat.zero_add, List.set_append_left _ _ (by rw [hs]; exact hi), hf]
      simp
    | succ k =>
      simp only [List.getElem?_cons_succ] at h
      rw [List.flatMap_cons, List.set_append_right _ _ (by rw [hs, Nat.succ_mul]; omega), hs, show (k + 1) * s + i - s = k * s + i by rw [Nat.succ_mul]; omega, ih k i x y u h hi hf]
      simp
theorem flat_drop {α : Type} (f : α → List Value) (s : Nat) (hs : ∀ x, (f x).length = s) : ∀ (l : List α) (k : Nat), (l.flatMap f).drop (k * s) = (l.drop k).flatMap f := by
  intro l
  induction l with
  | nil => intro k; simp
  | cons z l ih =>
    intro k
    cases k with
    | zero => simp
    | succ k =>
      rw [List.flatMap_cons, Nat.succ_mul, Nat.add_comm, ← List.drop_drop, List.drop_append_of_le_length (by rw [hs]; omega), List.drop_of_length_le (l := f z) (by rw [hs]; omega), List.nil_append, ih]
      simp
theorem flat_take {α : Type} (f : α → List Value) (s : Nat) (hs : ∀ x, (f x).length = s) : ∀ (l : List α) (k : Nat), (l.flatMap f).take (k * s) = (l.take k).flatMap f := by
  intro l
  induction l with
  | nil => intro k; simp
  | cons z l ih =>
    intro k
    cases k with
    | zero => simp
    | succ k =>
      rw [List.flatMap_cons, Nat.succ_mul, List.take_succ_cons, List.flatMap_cons, ← ih k, List.take_append, hs, show k * s + s - s = k * s by omega, List.take_of_length_le (by rw [hs]; omega)]
end Go.Proofs.Ytdelelpfombfbaa
