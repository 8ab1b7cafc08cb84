/- The wheel that ringkeep1.timers builds, and the beginning of the statements on wheels. Conditions: at most 999 timers. -/
import Derived.Test.YtaffkdoiooablaaWheelP
namespace Go.Proofs.Ytaffkdoiooablaa
open Go.ChangeShapes Go.WideShapes Go.ChangeAt Go.RowKit
set_option linter.unusedVariables false
def kOf (z : List Int) (i : Nat) : Nat := (rest (z.getD i 0) 5000).toNat
theorem kOf_eq (z : List Int) (i : Nat) (h : i < z.length) : rest z[i] 5000 = (kOf z i : Int) := by
  have h1 := rest_nonneg z[i] 5000 (by omega)
  have h2 : z.getD i 0 = z[i] := by simp [List.getD, List.getElem?_eq_getElem h]
  unfold kOf
  rw [h2]; omega
theorem kOf_lt (z : List Int) (i : Nat) : kOf z i < 5000 := by
  have h1 := rest_lt (z.getD i 0) 5000 (by omega)
  have h2 := rest_nonneg (z.getD i 0) 5000 (by omega)
  unfold kOf; omega
/-- The timers of the first n numbers. -/
def bld (z : List Int) : Nat → List RT
  | 0 => []
  | n + 1 => insR ⟨kOf z n, n⟩ (bld z n)
theorem insR_mem (x y : RT) (l : List RT) : y ∈ insR x l ↔ y = x ∨ y ∈ l := by
  unfold insR
  have h := List.takeWhile_append_dropWhile (p := befR x) (l := l)
  have h2 : y ∈ l ↔ y ∈ l.takeWhile (befR x) ∨ y ∈ l.dropWhile (befR x) := by
    conv => lhs; rw [← h]
    exact List.mem_append
  rw [List.mem_append, List.mem_append, List.mem_singleton, h2]
  constructor
  · rintro ((h | h) | h)
    · exact .inr (.inl h)
    · exact .inl h
    · exact .inr (.inr h)
  · rintro (h | h | h)
    · exact .inl (.inr h)
    · exact .inl (.inl h)
    · exact .inr h
theorem insR_len (x : RT) (l : List RT) : (insR x l).length = l.length + 1 := by
  have h := congrArg List.length (List.takeWhile_append_dropWhile (p := befR x) (l := l))
  rw [List.length_append] at h
  simp only [insR, List.length_append, List.length_singleton]; omega
theorem bld_len (z : List Int) : ∀ n, (bld z n).length = n
  | 0 => rfl
  | n + 1 => by rw [bld, insR_len, bld_len z n]
theorem bld_mem (z : List Int) (y : RT) : ∀ n, y ∈ bld z n ↔ ∃ i, i < n ∧ y = ⟨kOf z i, i⟩
  | 0 => by simp [bld]
  | n + 1 => by
    rw [bld, insR_mem, bld_mem z y n]
    constructor
    · rintro (h | ⟨i, h1, h2⟩)
      · exact ⟨n, by omega, h⟩
      · exact ⟨i, by omega, h2⟩
    · rintro ⟨i, h1, h2⟩
      by_cases hi : i = n
      · subst hi; exact .inl h2
      · exact .inr ⟨i, by omega, h2⟩
theorem bld_small (z : List Int) (n : Nat) : Small (bld z n) := fun x hx => by
  obtain ⟨i, _, rfl⟩ := (bld_mem z x n).1 hx
  have := kOf_lt z i
  show kOf z i < _
  omega
theorem bld_new (z : List Int) (n : Nat) : ((n : Nat) : Int) ∉ idsR (bld z n) := fun h => by
  obtain ⟨x, h1, h2⟩ := List.mem_map.1 h
  obtain ⟨i, h3, rfl⟩ := (bld_mem z x n).1 h1
  have : (i : Int) = n := h2
  omega
def SortR (l : List RT) : Prop := l.Pairwise (fun x y => x.k ≤ y.k)
theorem tw_all {α : Type} (f : α → Bool) (l : List α) : ∀ x ∈ l.takeWhile f, f x = true := fun x hx => by
  induction l with
  | nil => cases hx
  | cons y l ih =>
    cases h : f y
    · rw [List.takeWhile_cons_of_neg (by rw [h]; simp)] at hx; cases hx
    · rw [List.takeWhile_cons_of_pos h] at hx
      rcases List.mem_cons.1 hx with h1 | h1
      · subst h1; exact h
      · exact ih h1
theorem dw_head {α : Type} (f : α → Bool) (l : List α) : ∀ x r, l.dropWhile f = x :: r → f x = false := fun x r hx => by
  induction l with
  | nil => cases hx
  | cons y l ih =>
    cases h : f y
    · rw [List.dropWhile_cons_of_neg (by rw [h]; simp)] at hx
      injection hx with h1 h2; subst h1; exact h
    · rw [List.dropWhile_cons_of_pos h] at hx; exact ih hx
theorem sort_ins (x : RT) (l : List RT) (h : SortR l) : SortR (insR x l) := by
  unfold SortR insR at *
  have hl := List.takeWhile_append_dropWhile (p := befR x) (l := l)
  have h1 : (l.takeWhile (befR x) ++ l.dropWhile (befR x)).Pairwise (fun x y => x.k ≤ y.k) := by rw [hl]; exact h
  obtain ⟨p1, p2, p3⟩ := List.pairwise_append.1 h1
  have hx1 : ∀ y ∈ l.takeWhile (befR x), y.k ≤ x.k := fun y hy => by
    have := tw_all _ _ y hy
    simp only [befR, decide_eq_true_eq] at this
    omega
  have hx2 : ∀ y ∈ l.dropWhile (befR x), x.k ≤ y.k := by
    cases hd : l.dropWhile (befR x) with
    | nil => intro y hy; cases hy
    | cons z r =>
      have h0 := dw_head _ _ z r hd
      have h0' : x.k ≤ z.k := by
        simp only [befR, decide_eq_false_iff_not] at h0
        omega
      rw [hd] at p2
      intro y hy
      rcases List.mem_cons.1 hy with h3 | h3
      · subst h3; exact h0'
      · have := (List.pairwise_cons.1 p2).1 y h3; omega
  rw [List.append_assoc]
  refine List.pairwise_append.2 ⟨p1, List.pairwise_cons.2 ⟨hx2, p2⟩, fun a ha c hc => ?_⟩
  rcases List.mem_cons.1 hc with h3 | h3
  · subst h3; exact hx1 a ha
  · exact p3 a ha c h3
theorem bld_sort (z : List Int) : ∀ n, SortR (bld z n)
  | 0 => List.Pairwise.nil
  | n + 1 => sort_ins _ _ (bld_sort z n)
theorem timers_ok (R : Nat → Prop) (b : Int) (h0 : 0 ≤ b) (h1 : b < 4294967296) (a : Option Addr) (n c : Nat) (z : List Int) (w : World) (h : Rd w R 1 a n c (ints .i64 z)) (hn : n ≤ 999) :
    Calls Try.prog 33 #[.int .u32 b, .slice a n c] w fun e w' => ∃ F p, e = .returned (.tuple #[.pointer (some ⟨p, 0, none⟩), .bool true]) ∧ WR w' F p b 0 (bld z n) ∧ Chg Nil w w' ∧ Grew w.heap.size Nil F := by
  have hz := h.ilen
  have Z := hid hz
  have H := hid h
  clear h hz
  go_enter Try.func33, Try.ntmps33
  go_wp2_with fail
  refine (wnew_ok b w).mono ?_
  rintro e w1 ⟨F, p, rfl, q1, q2, q3⟩
  have Q1 : Hid (WR w1 F p b 0 (bld z 0)) := hid (by show WhAt w1 F p (nowOf b 0) []; rw [now_zero h0 h1]; exact q1)
  have Q2 := hid q2
  have Q3 := hid q3
  clear q1 q2 q3
  go_wp2
  go_loopw [15] (fun s15 wr => ∃ (i : Nat) (F : Nat → Prop), i ≤ n ∧ s15 = .int .i64 i ∧ Hid (WR wr F p b 0 (bld z i)) ∧ Hid (Chg Nil w wr) ∧ Hid (Grew w.heap.size Nil F)) (fun s15 _ => n - (intOf s15).toNat)
  case atStart => exact ⟨0, F, by omega, rfl, Q1, Q2, Q3⟩
  case round =>
    clear Q1 Q2 Q3
    obtain ⟨i, F, hi, rfl, hW, hC, hG⟩ := hrel
    by_cases hlt : i < n
    · have hz : i < z.length := by have := Z.out; omega
      obtain ⟨g, off, rfl, _, _, hc⟩ := (H.out.chg hC.out (fun _ _ _ h => h)).at hz
      have hc1 := hc i hz
      have hk : Hid (rest z[i] 5000 = (kOf z i : Int)) := hid (kOf_eq z i hz)
      have hk5 := kOf_lt z i
      have hlen := bld_len z i
      have HA := hid (radd_ok wr F p b 0 (bld z i) ⟨kOf z i, i⟩ hW.out (by omega) (by omega) (bld_small z i) (by show kOf z i < _; omega) (by omega) (bld_new z i))
      clear hc hlen
      generalize z[i] = y at hc1 hk
      have hu : IntKind.u32.wrap (b + (kOf z i : Int)) = nowOf b (kOf z i) := by unfold nowOf; simp [IntKind.wrap, IntKind.signed, IntKind.bits]
      go_wp2_with fail
      refine (rest_any _ 5000 _ (by omega) (by omega)).mono ?_
      rw [hk.out]
      rintro e w2 ⟨rfl, rfl⟩
      go_wp2_with fail
      refine HA.out.mono ?_
      rintro e w2 ⟨F2, rfl, q1, q2, q3⟩
      have Q1 := hid q1
      have Q2 := hid (hC.out.trans q2 (fun k hk h => by rcases hG.out k h with h5 | h5; exact h5; omega))
      have Q3 := hid (hG.out.trans q3 hC.out.size)
      clear q1 q2 q3 HA
      go_wp2
      go_roundw
      case rel => exact ⟨i + 1, F2, by omega, by go_num, Q1, Q2, Q3⟩
      case measure => simp [intOf]; omega
    · have hin : i = n := by omega
      rw [hin] at hW
      clear hin
      go_wp2
      go_ret2
      exact ⟨F, p, rfl, hW.out, hC.out, hG.out⟩
end Go.Proofs.Ytaffkdoiooablaa
