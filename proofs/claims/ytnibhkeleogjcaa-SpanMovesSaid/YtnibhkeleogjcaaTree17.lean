/- Contracts of the helper tree of the laws on package span: a tree of the things that a list of numbers tells. Conditions: at most 200 numbers. -/
import Derived.Test.YtnibhkeleogjcaaTree16
namespace Go.Proofs.Ytnibhkeleogjcaa
open Go.ChangeShapes Go.WideShapes Go.ChangeAt Go.RowKit
set_option linter.unusedVariables false
/-- The i-th thing that the list tells. -/
def itE (l : List Int) (i : Nat) : TE := ⟨rest (l.getD i 0) 20, (i : Int), rest (l.getD i 0) 100⟩
/-- The first k of them, in order. -/
def trK (l : List Int) : Nat → List TE
  | 0 => []
  | k + 1 => insE (itE l k) (trK l k)
theorem trK_mem (l : List Int) (k : Nat) (x : TE) : x ∈ trK l k ↔ ∃ j, j < k ∧ x = itE l j := by
  induction k with
  | zero => simp [trK]
  | succ k ih =>
    show x ∈ insE (itE l k) (trK l k) ↔ _
    rw [(insE_perm _ _).mem_iff, List.mem_cons, ih]
    constructor
    · rintro (rfl | ⟨j, hj, rfl⟩)
      · exact ⟨k, by omega, rfl⟩
      · exact ⟨j, by omega, rfl⟩
    · rintro ⟨j, hj, rfl⟩
      by_cases h : j = k
      · exact .inl (by rw [h])
      · exact .inr ⟨j, by omega, rfl⟩
theorem trK_len (l : List Int) (k : Nat) : (trK l k).length = k := by
  induction k with
  | zero => rfl
  | succ k ih => show (insE (itE l k) (trK l k)).length = _; rw [(insE_perm _ _).length_eq, List.length_cons, ih]
theorem itE_w (l : List Int) (j : Nat) : 0 ≤ (itE l j).w ∧ (itE l j).w < 100 := ⟨rest_nonneg _ _ (by omega), rest_lt _ _ (by omega)⟩
theorem itE_key (l : List Int) (j : Nat) : 0 ≤ (itE l j).key ∧ (itE l j).key < 20 := ⟨rest_nonneg _ _ (by omega), rest_lt _ _ (by omega)⟩
theorem trK_sm (l : List Int) (k : Nat) (hk : k ≤ 200) : Sm (trK l k) := by
  refine ⟨by rw [trK_len]; omega, fun x hx => ?_⟩
  obtain ⟨j, _, rfl⟩ := (trK_mem l k x).1 hx
  have := itE_w l j
  omega
/-- The first k of them are in the tree. -/
def TrIn (w0 : World) (l : List Int) (p k : Nat) (w : World) : Prop := ∃ F, SpAt w F p (trK l k) ∧ Chg Nil w0 w ∧ ∀ x, F x → w0.heap.size ≤ x
set_option maxRecDepth 100000 in
set_option maxHeartbeats 1000000 in
theorem tree_ok (R : Nat → Prop) (a : Option Addr) (n c : Nat) (l : List Int) (w : World) (h : Rd w R 1 a n c (ints .i64 l)) (hn : n ≤ 200) :
    Calls Try.prog 15 #[.slice a n c] w fun e w' => ∃ p, e = .returned (.tuple #[.pointer (some ⟨p, 0, none⟩), .bool true]) ∧ TrIn w l p l.length w' := by
  obtain rfl := h.ilen
  have H := hid h
  clear h
  go_enter Try.func15, Try.ntmps15
  go_wp2_with fail
  refine (spnew_ok _).mono ?_
  rintro e w1 ⟨rfl, s1, c1⟩
  obtain ⟨p, hp⟩ : ∃ p, p = w.heap.size := ⟨_, rfl⟩
  have hI : Hid (TrIn w l p 0 w1) := hid ⟨One w.heap.size, by rw [hp]; exact s1, c1, fun x hx => Nat.le_of_eq (show x = w.heap.size from hx).symm⟩
  rw [← hp]
  clear s1 c1 hp
  go_wp2
  go_loopw [10] (fun s10 wr => ∃ k : Nat, k ≤ l.length ∧ s10 = .int .i64 k ∧ Hid (TrIn w l p k wr)) (fun s10 _ => l.length - (intOf s10).toNat)
  case atStart => exact ⟨0, by omega, rfl, hI⟩
  case round =>
    obtain ⟨k, hk, rfl, hJ⟩ := hrel
    clear hI
    by_cases hlt : k < l.length
    · obtain ⟨F, y1, y2, y3⟩ := id hJ.out
      obtain ⟨g, off, rfl, _, _, hc⟩ := (H.out.chg y2 (fun _ _ _ h => h)).at hlt
      have hc1 := hc k hlt
      clear hc
      have PUT := hid (put_new wr F p _ y1 (rest l[k] 20) k (rest l[k] 100) (rest_nonneg _ _ (by omega)) (by have := rest_lt l[k] 100 (by omega); omega) (fun x hx hh => by
        obtain ⟨j, hj, rfl⟩ := (trK_mem l k x).1 hx
        have h2 : ((j : Nat) : Int) = k := hh.2
        omega) ⟨by rw [List.length_cons, trK_len]; omega, fun x hx => by
        rcases List.mem_cons.1 hx with rfl | hx
        · have a1 := rest_nonneg l[k] 100 (by omega)
          have a2 := rest_lt l[k] 100 (by omega)
          exact ⟨a1, by show rest l[k] 100 ≤ 1000000; omega⟩
        · exact (trK_sm l k (by omega)).2 x hx⟩)
      have Y2 := hid y2
      have Y3 := hid y3
      have HE : Hid ((⟨rest l[k] 20, k, rest l[k] 100⟩ : TE) = itE l k) := hid (by unfold itE; rw [List.getD_eq_getElem?_getD, List.getElem?_eq_getElem hlt]; rfl)
      clear y1 y2 y3 hJ
      go_wp2_with fail
      refine (rest_any _ 20 _ (by omega) (by omega)).mono ?_
      rintro e w2 ⟨rfl, rfl⟩
      go_wp2_with fail
      refine (rest_any _ 100 _ (by omega) (by omega)).mono ?_
      rintro e w2 ⟨rfl, rfl⟩
      go_wp2_with fail
      refine PUT.out.mono ?_
      rintro e w2 ⟨rfl, F', z1, z2, z3, z4⟩
      have Z : Hid (TrIn w l p (k + 1) w2) := hid (by
        refine ⟨F', ?_, Y2.out.trans z2 (fun i hi hF => by have := Y3.out i hF; omega), fun x hx => (z4 x hx).elim (Y3.out x) (fun h => Nat.le_trans Y2.out.size h)⟩
        rw [HE.out] at z1
        exact z1)
      clear z1 z2 z3 z4 PUT
      go_wp2
      go_roundw
      case rel => exact ⟨k + 1, by omega, by go_num, Z⟩
      case measure => simp [intOf]; omega
    · obtain rfl : k = l.length := by omega
      go_wp2
      go_ret2
      exact ⟨p, rfl, hJ.out⟩
end Go.Proofs.Ytnibhkeleogjcaa
