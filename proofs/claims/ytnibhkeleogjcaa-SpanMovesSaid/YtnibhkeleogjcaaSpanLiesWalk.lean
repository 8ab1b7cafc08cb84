/- The walk of the law SpanLies: it returns true and changes nothing that was there. No condition. -/
import Derived.Test.YtnibhkeleogjcaaSpanWalksWalk
namespace Go.Proofs.Ytnibhkeleogjcaa
open Go.ChangeShapes Go.WideShapes Go.ChangeAt Go.RowKit
set_option linter.unusedVariables false
/-- The thing in which a number lies, if it lies in any. -/
def inA (n : Int) (l : List TE) : Option TE := if n < 0 ∨ sumW l ≤ n then none else inE n l
theorem at_any (w : World) (F : Nat → Prop) (p : Nat) (l : List TE) (h : SpAt w F p l) (hsm : Sm l) (n : Int) :
    Calls Try.prog 19 #[.pointer (some ⟨p, 0, none⟩), .int .i64 n] w fun v w' => v = .returned (.tuple #[.int .i64 (tK (inA n l)), .int .i64 (tI (inA n l)), .int .i64 (tW (inA n l)), .int .i64 (tE (inA n l))]) ∧ ∃ q, w' = w.drewN q := by
  unfold inA
  rw [← tup_eq]
  by_cases hn : n < 0 ∨ sumW l ≤ n
  · rw [if_pos hn]
    exact (at_out w F p l h n hn).mono (by rintro v w' ⟨rfl, rfl⟩; exact ⟨rfl, 0, rfl⟩)
  · rw [if_neg hn]
    exact at_in w F p l h hsm n (by omega) (by omega)
set_option maxRecDepth 100000 in
set_option maxHeartbeats 1000000 in
theorem spanLies_walk (a0 : Option Addr) (len0 cap0 : Nat) (z0 : List Int) (a1 : Int) (w : World) (w0 : IsRow .i64 w a0 len0 cap0 z0) (w1 : (Lit.int .i64 a1).wf = true) :
    Calls Try.prog 5 #[.slice a0 len0 cap0, .int .i64 a1] w fun e w' => e = .returned (.bool true) ∧ Below w.heap.size w w' := by
  have hl1 := w0.1.1
  have hl2 := w0.1.2.1
  unfold maxLen at hl2
  have W0 := hid w0.1
  clear w0 w1
  have HR := hid (Rd.of_blk (n := 2) (s := 1) (Blk.new w 3 (ints .i64 [5, 3])) rfl (by decide))
  have B0 := hid ((Below.refl w.heap.size w).alloc (Nat.le_refl _) (.cells (ints .i64 [5, 3]).toArray 3))
  go_enter Try.func5, Try.ntmps5
  go_wp2_with fail
  refine (tree_ok _ _ 2 2 [5, 3] _ HR.out (by omega)).mono ?_
  rintro e w1 ⟨p, rfl, h1⟩
  have T1 := hid (TrIn.trB h1 B0.out)
  clear h1 HR B0
  have SUM : Hid (Calls Try.prog 14 #[.pointer (some ⟨p, 0, none⟩)] w1 fun v w' => v = .returned (.int .i64 8) ∧ w' = w1) := by
    obtain ⟨F, h1, _, _⟩ := T1.out
    exact tsum_ok w1 F p _ h1
  go_wp2_with fail
  refine SUM.out.mono ?_
  rintro e w2 ⟨rfl, hw⟩
  subst hw
  clear SUM
  go_upto_region 4 with fail
  go_cut [7, 8] (fun s7 s8 wx => s8 = .bool true ∧ ∃ N : Nat, N ≤ 200 ∧ N ≤ len0 ∧ ∃ p : Nat, s7 = .pointer (some ⟨p, 0, none⟩) ∧ Hid (TrB w (trK (z0.take N) N) p wx))
  case first =>
    have B1 : Hid (Below w.heap.size w w2) := hid (by obtain ⟨F, _, h2, _⟩ := T1.out; exact h2)
    have key : ∀ N, N ≤ len0 → Hid (Rd w2 (Upto w.heap.size) 1 a0 N cap0 (ints .i64 (z0.take N))) := fun N hN => hid (rd_take (rd_rest W0.out B1.out) hN)
    have hlen : Hid (∀ N, N ≤ len0 → (z0.take N).length = N) := hid (fun N hN => (rd_take W0.out hN).ilen)
    replace key := hid key
    clear T1
    go_wp2_with fail
    · refine (tree_ok _ _ 200 _ (z0.take 200) _ (key.out 200 (by omega)).out (by omega)).mono ?_
      rintro e w3 ⟨p2, rfl, h1⟩
      rw [hlen.out 200 (by omega)] at h1
      have T2 := hid (TrIn.trB h1 B1.out)
      clear h1
      go_wp2
      go_meet
      exact ⟨rfl, 200, by omega, by omega, p2, rfl, T2⟩
    · refine (tree_ok _ _ len0 _ (z0.take len0) _ (key.out len0 (by omega)).out (by omega)).mono ?_
      rintro e w3 ⟨p2, rfl, h1⟩
      rw [hlen.out len0 (by omega)] at h1
      have T2 := hid (TrIn.trB h1 B1.out)
      clear h1
      go_wp2
      go_meet
      exact ⟨rfl, len0, by omega, by omega, p2, rfl, T2⟩
  case rest =>
    obtain ⟨rfl, N, hN1, hN2, p2, rfl, T2⟩ := hcut
    obtain ⟨L, hL⟩ : ∃ L, L = trK (z0.take N) N := ⟨_, rfl⟩
    have LS : Hid (Sm L) := hid (by rw [hL]; exact trK_sm _ N hN1)
    have LL : Hid (L.length = N) := hid (by rw [hL, trK_len])
    rw [← hL] at T2
    clear hL T1 W0
    obtain ⟨F, y1, y2, y3⟩ := id T2.out
    have hbd := sumW_bd LS.out.2
    rw [LL.out] at hbd
    have SUM := hid (tsum_ok wc F p2 L y1)
    have AT := hid (at_any wc F p2 L y1 LS.out)
    have AH := hid (fun q => ahead_ok (wc.drewN q) F p2 L (y1.chg (H := Nil) ((Chg.refl _ wc).drewN q) (fun _ _ h => h)) LS.out)
    have HB := hid y2
    have SO := hid y1.srt
    obtain ⟨S, hS⟩ : ∃ S, S = sumW L := ⟨_, rfl⟩
    rw [← hS] at SUM hbd
    obtain ⟨S0, S1⟩ := hbd
    have HS := hid hS
    clear y1 y2 y3 T2 hS
    by_cases hz : S = 0
    · have hi : inA 0 L = none := by unfold inA; rw [if_pos (by rw [← HS.out]; omega)]
      have AT0 := AT.out 0
      rw [hi] at AT0
      replace AT0 := hid AT0
      clear hi AT
      subst hz
      go_wp2_with fail
      refine SUM.out.mono ?_
      rintro e w3 ⟨rfl, hw⟩
      subst hw
      go_wp2_with fail
      refine AT0.out.mono ?_
      rintro e w4 ⟨rfl, q, rfl⟩
      have t4 : tE none = 4 := rfl
      rw [t4]
      clear t4
      go_wp2
      go_ret
      exact ⟨by simp, below_nil HB.out ((Chg.refl _ _).drewN q)⟩
    · have hz1 : (S == 0) = false := by rw [beq_eq_false_iff_ne]; exact hz
      have hS1 : 1 ≤ S := by omega
      have hS2 : S ≤ 9223372036854775807 := by omega
      clear hz
      go_wp2_with fail
      refine SUM.out.mono ?_
      rintro e w3 ⟨rfl, hw⟩
      subst hw
      go_wp2_with fail
      refine SUM.out.mono ?_
      rintro e w4 ⟨rfl, hw⟩
      subst hw
      go_wp2_with fail
      refine (rest_any a1 S _ hS1 hS2).mono ?_
      rintro e w5 ⟨rfl, rfl⟩
      have r1 := rest_nonneg a1 S hS1
      have r2 := rest_lt a1 S hS1
      obtain ⟨n, hn⟩ : ∃ n, n = rest a1 S := ⟨_, rfl⟩
      rw [← hn] at r1 r2 ⊢
      clear hn
      obtain ⟨l, x, r, e1, e2, e3, e4⟩ := inE_some (fun y hy => (LS.out.2 y hy).1) r1 (by rw [← HS.out]; exact r2)
      have hi : inA n L = some x := by unfold inA; rw [if_neg (by rw [← HS.out]; omega), e2]
      have AT0 := AT.out n
      rw [hi] at AT0
      replace AT0 := hid AT0
      have AH0 := fun q => AH.out q x.key x.id
      have hah : aheadW x.key x.id L = sumW l := by rw [e1]; exact ahead_mid (by rw [← e1]; exact SO.out)
      rw [hah] at AH0
      replace AH0 := hid AH0
      have t1 : tK (some x) = x.key := rfl
      have t2 : tI (some x) = x.id := rfl
      have t3 : tW (some x) = x.w := rfl
      have t4 : tE (some x) = 0 := rfl
      have hx := LS.out.2 x (by rw [e1]; simp)
      obtain ⟨A, hA⟩ : ∃ A, A = sumW l := ⟨_, rfl⟩
      obtain ⟨W, hW⟩ : ∃ W, W = x.w := ⟨_, rfl⟩
      rw [← hA] at AH0 e3 e4
      have hA0 : 0 ≤ A := by rw [hA]; exact (sumW_bd (fun y hy => LS.out.2 y (by rw [e1]; simp [hy]))).1
      rw [t1, t2, t3, t4] at AT0
      rw [← hW] at e4 hx AT0
      obtain ⟨hx1, hx2⟩ := hx
      clear t1 t2 t3 t4 e1 e2 hi hah hA hW AT AH SUM
      go_wp2_with fail
      refine AT0.out.mono ?_
      rintro e w5 ⟨rfl, q, rfl⟩
      go_wp2_with fail
      refine (AH0.out _).mono ?_
      rintro e w6 ⟨rfl, q1, rfl⟩
      go_wp2
      go_ret
      exact ⟨by simp, below_nil HB.out ((Chg.refl _ _).drewN _)⟩
end Go.Proofs.Ytnibhkeleogjcaa
