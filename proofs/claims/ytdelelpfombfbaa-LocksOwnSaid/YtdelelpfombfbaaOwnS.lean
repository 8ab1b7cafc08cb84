/- More that the law LocksOwn uses: what spoil does, what Concat tells, that package sleep does something. Conditions: rows of no more than a hundred million in all. -/
import Derived.Test.YtdelelpfombfbaaOwnT
import Derived.StillTailTactics
namespace Go.Proofs.Ytdelelpfombfbaa
open Go.ChangeShapes Go.WideShapes Go.ChangeAt Go.RowKit
set_option linter.unusedVariables false
theorem rest_nat (k n : Int) (w : World) (h1 : 1 ≤ n) (h2 : n ≤ 9223372036854775807) :
    Calls Try.prog 17 #[.int .i64 k, .int .i64 n] w fun e w' => ∃ q : Nat, (q : Int) < n ∧ e = .returned (.int .i64 q) ∧ w = w' := by
  refine (rest_any k n w h1 h2).mono ?_
  rintro e w' ⟨rfl, rfl⟩
  have hb1 := rest_nonneg k n h1
  have hb2 := rest_lt k n h1
  obtain ⟨q, hq⟩ := Int.eq_ofNat_of_zero_le hb1
  exact ⟨q, by omega, by rw [hq], rfl⟩
theorem sleepBegun_ok (w : World) : Calls Try.prog 6 #[] w fun e w' => e = .returned (.bool true) ∧ Chg Nil w w' := by
  go_enter Try.func6, Try.ntmps6
  go_wp2_with fail
  refine (lnew_ok _).mono ?_
  rintro e w1 ⟨F, p, rfl, s1, c1, g1⟩
  have hf := grew_ge g1 (fun _ h => h.elim) (Nat.le_refl _)
  have hb := below_nil (Below.refl _ w) c1
  replace hf := hid hf
  replace hb := hid hb
  clear c1 g1
  go_wp2_with fail
  refine (ltask_ok _ F p 16 _ _ _ 1 2 s1 (by omega) (by omega) (by omega) (by omega)).mono ?_
  rintro e w2 ⟨rfl, s2, c2⟩
  replace hb := hid (below_chg hb.out c2 hf.out)
  have hP : Hid ((updM (fun _ => none) 1 (some (Value.int .i64 2)) 1).isSome = true) := hid rfl
  clear c2 s1
  go_wp2_with fail
  refine (ltake_free _ F p 16 _ _ _ 1 3 s2 (by omega) (by omega) (by omega) hP.out (waitK_none.2 (fun k _ => by simp)) rfl).mono ?_
  rintro e w3 ⟨rfl, s3, c3⟩
  replace hb := hid (below_chg hb.out c3 hf.out)
  clear c3 s2
  have hR : Rch (upN (fun _ => 0) 3 1) (fun _ => []) (upN (fun _ => 0) 3 1 3) 1 := by rw [upN_same]; exact Rch.refl 1
  replace hR := hid hR
  go_wp2_with fail
  refine (ltake_busy _ F p 16 _ _ _ 1 3 s3 (by omega) (by omega) (by omega) hP.out (waitK_none.2 (fun k _ => by simp)) (by rw [upN_same]; omega)).mono ?_
  rintro e w4 (⟨_, rfl, rfl⟩ | ⟨hno, _⟩)
  · go_wp2
    go_ret
    exact ⟨rfl, Chg.of_below hb.out Nil⟩
  · exact absurd hR.out hno
set_option maxHeartbeats 1000000 in
theorem spoil_ok (w : World) (a : Option Addr) (n c : Nat) (xs : List Value) (G : Option Nat) (x : Int) (h : Sl w 3 1 a n c xs G) :
    Calls Try.prog 33 #[.slice a n c, .int .i64 x] w fun e w' => e = .returned (.tuple #[]) ∧ (∃ ys, Sl w' 3 1 a n c ys G) ∧ Chg (Opt G) w w' := by
  have hc1 := h.1
  have hc2 := h.2.1
  unfold maxLen at hc2
  obtain ⟨ys, hf⟩ := h.full
  have HF := hid hf
  clear h hf
  go_enter Try.func33, Try.ntmps33
  go_wp2
  go_loopw [11] (fun s11 wr => ∃ (k : Nat) (ys : List Value), k ≤ c ∧ s11 = .int .i64 k ∧ Hid (Sl wr 3 1 a c c ys G) ∧ Hid (Chg (Opt G) w wr)) (fun s11 _ => c - (intOf s11).toNat)
  case atStart => exact ⟨0, ys, by omega, rfl, HF, hid (Chg.refl _ _)⟩
  case round =>
    clear HF
    obtain ⟨k, ys, hk, rfl, hS, hC⟩ := hrel
    by_cases hlt : k < c
    · obtain ⟨g, off, rfl, rfl, _⟩ := hS.out.block (by omega)
      have hkc : (k : Int) < (c : Int) := by omega
      obtain ⟨g2, off2, e2, _, _, hcell⟩ := hS.out.rd.cellAt (by omega)
      injection e2 with e2
      injection e2 with e2 e3
      subst e2; subst e3
      have hyl := hS.out.len
      obtain ⟨v, hx⟩ : ∃ v, wr.cell? ⟨g, off + k, none⟩ = some v := ⟨_, by rw [hcell k hlt, List.getElem?_eq_getElem (by omega)]⟩
      have hfz := hS.out.unfrozen hlt
      have hS2 := hid (hS.out.put hlt (.int .i64 x))
      have hC2 : Hid (Chg (Opt (some g)) w (wr.setCell ⟨g, off + k, none⟩ (.int .i64 x))) := hid (hC.out.setCell (p := ⟨g, off + k, none⟩) (.inl rfl) _)
      clear hcell hyl
      go_wp2
      go_roundw
      case rel => exact ⟨k + 1, _, by omega, by go_num, hS2, hC2⟩
      case measure => simp [intOf]; omega
    · go_wp2
      go_end0
      have hs := hS.out.init (m := n) hc1
      exact ⟨rfl, ⟨_, hs⟩, hC.out⟩
/-- Of a row among the things. -/
theorem own_spoil {Ts : List Thing} {w0 w : World} {i : Nat} {a : Option Addr} {n c : Nat} (h : Things Ts w0 w) (hi : Ts[i]? = some (ThS a n c)) (x : Int) :
    Calls Try.prog 33 #[.slice a n c, .int .i64 x] w fun e w' => e = .returned (.tuple #[]) ∧ Things (Ts.set i (ThS a n c)) w0 w' := by
  refine h.call hi (ThS a n c) ?_
  rintro F ⟨G, xs, rfl, h1⟩
  refine (spoil_ok w a n c xs G x h1).mono ?_
  rintro e w' ⟨rfl, ⟨ys, k1⟩, k2⟩
  exact ⟨rfl, Opt G, ⟨G, ys, rfl, k1⟩, k2, Grew.refl _ _⟩
/-- A row, as an argument: where it lies, its length, its capacity. -/
abbrev Row3 : Type := Option Addr × Nat × Nat
def rowV (r : Row3) : Value := .slice r.1 r.2.1 r.2.2
theorem things_parts {Ts : List Thing} {w0 w : World} (N : Nat) (h : Things Ts w0 w) : ∀ (L : List Row3), (∀ r ∈ L, ∃ (i M : Nat), M ≤ N ∧ Ts[i]? = some (ThI M r.1 r.2.1 r.2.2)) →
    ∃ (ps : List Part) (zs : List Int), ps.map Part.val = L.map rowV ∧ (∀ p ∈ ps, Rd w (fun _ => True) 1 p.a p.n p.c p.xs ∧ ∀ u ∈ p.xs, u.oneCell' = true) ∧ partsCells ps = ints .i64 zs ∧ (∀ z ∈ zs, z ≤ 16) ∧ partsLen ps ≤ L.length * N := by
  intro L
  induction L with
  | nil => intro _; exact ⟨[], [], rfl, (fun p hp => by cases hp), rfl, (fun z hz => by cases hz), by simp [partsLen]⟩
  | cons r L ih =>
    intro hL
    obtain ⟨ps, zs, e1, e2, e3, e4, e5⟩ := ih (fun r hr => hL r (List.mem_cons_of_mem _ hr))
    obtain ⟨i, M, hM, hi⟩ := hL r List.mem_cons_self
    obtain ⟨F, ⟨G, ys, _, k1, k2, k3⟩, _⟩ := h.get hi
    refine ⟨⟨r.1, r.2.1, r.2.2, ints .i64 ys⟩ :: ps, ys ++ zs, by simp [e1, Part.val, rowV], fun p hp => ?_, ?_, fun z hz => ?_, ?_⟩
    · rcases List.mem_cons.1 hp with rfl | hp
      · exact ⟨k1.rd.mono (fun _ _ => trivial), ints_one _ _⟩
      · exact e2 p hp
    · unfold partsCells at e3 ⊢
      rw [List.flatMap_cons, e3, ints_append]
    · rcases List.mem_append.1 hz with hz | hz
      · exact k3 z hz
      · exact e4 z hz
    · unfold partsLen at e5 ⊢
      rw [List.map_cons, List.sum_cons, List.length_cons, Nat.succ_mul]
      show r.2.1 + _ ≤ _
      omega
theorem own_concat {Ts : List Thing} {w0 w : World} (N : Nat) (h : Things Ts w0 w) (L : List Row3) (hL : ∀ r ∈ L, ∃ (i M : Nat), M ≤ N ∧ Ts[i]? = some (ThI M r.1 r.2.1 r.2.2)) (h8 : L.length ≤ 8) (hN : N ≤ 100000000) :
    Calls Try.prog 34 #[.slice (some ⟨w.heap.size, 0, none⟩) L.length L.length] (w.alloc (.cells (L.map rowV).toArray 22)) fun e w' => ∃ a n c, e = .returned (.slice a n c) ∧ Things (ThI (8 * N) a n c :: Ts) w0 w' := by
  have hn := h.nil ((Chg.refl Nil w).alloc (.cells (L.map rowV).toArray 22))
  obtain ⟨ps, zs, e1, e2, e3, e4, e5⟩ := things_parts N hn L hL
  have hb := Blk.new w 22 (L.map rowV)
  have hle : L.length * N ≤ 8 * N := Nat.mul_le_mul_right _ h8
  refine (concat_int (fun _ => True) (One w.heap.size) _ L.length L.length ps _ (by rw [e1]; exact Rd.of_blk (n := L.length) (s := 1) hb (by simp) (by unfold maxLen; omega)) e2 (by omega) (by omega)).mono ?_
  rintro e w' ⟨a, c, G, rfl, k1, k2, k3⟩
  rw [e3] at k1
  exact ⟨a, _, c, rfl, hn.told (8 * N) k1 k2 k3 (by omega) e4⟩
theorem own_contains {Ts : List Thing} {w0 w : World} {i N : Nat} {a : Option Addr} {n c : Nat} (h : Things Ts w0 w) (hi : Ts[i]? = some (ThI N a n c)) (hN : N ≤ 1000000000) :
    Calls Try.prog 35 #[.slice a n c, .int .i64 99] w fun e w' => e = .returned (.bool false) ∧ w = w' := by
  obtain ⟨F, ⟨G, zs, _, k1, k2, k3⟩, _⟩ := h.get hi
  have hf : hasI zs 99 = false := hasI_false (fun hh => by have := k3 99 hh; omega)
  refine (contains_int _ _ _ _ zs 99 w k1.rd (by omega)).mono ?_
  rintro e w' ⟨rfl, hw⟩
  exact ⟨by rw [hf], by first | exact hw | exact hw.symm⟩
end Go.Proofs.Ytdelelpfombfbaa
