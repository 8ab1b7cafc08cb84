/- Contracts of sleepBegun and locked: the locks behind any plays. Conditions: at most sixteen priorities. -/
import Derived.Test.YthbkmjigplolgaaLockF
namespace Go.Proofs.Ythbkmjigplolgaa
open Go.ChangeShapes Go.WideShapes Go.ChangeAt Go.RowKit
set_option linter.unusedVariables false
theorem rest_in (z n : Int) (h1 : 1 ≤ n) (h2 : n ≤ 9223372036854775807) : ∃ t : Nat, (t : Int) < n ∧ ∀ w, Calls Try.prog 16 #[.int .i64 z, .int .i64 n] w fun e w' => e = .returned (.int .i64 (t : Int)) ∧ w' = w := by
  have h3 := rest_nonneg z n h1
  have h4 := rest_lt z n h1
  obtain ⟨t, ht⟩ := Int.eq_ofNat_of_zero_le h3
  refine ⟨t, by omega, fun w => ?_⟩
  rw [← ht]
  exact (rest_any z n w h1 h2).mono fun e w' ⟨a, b⟩ => ⟨a, b.symm⟩
theorem rest_to (z n : Int) (h1 : 1 ≤ n) (h2 : n ≤ 9223372036854775807) : ∃ t : Nat, (t : Int) < n ∧ ∀ w, Calls Try.prog 16 #[.int .i64 z, .int .i64 n] w fun e w' => e = .returned (.int .i64 (t : Int)) ∧ w = w' := by
  have h3 := rest_nonneg z n h1
  have h4 := rest_lt z n h1
  obtain ⟨t, ht⟩ := Int.eq_ofNat_of_zero_le h3
  refine ⟨t, by omega, fun w => ?_⟩
  rw [← ht]
  exact rest_any z n w h1 h2
/-- A row of rows of numbers, that is read. -/
theorem IsRows.row {k : IntKind} {w w' : World} {a : Option Addr} {len cap : Nat} {zs : List (List Int)} (h : IsRows k w a len cap zs) (hb : Below w.heap.size w w') (i : Nat) (hi : i < len) :
    ∃ g off a' n' c', a = some ⟨g, off, none⟩ ∧ w'.cell? ⟨g, off + i, none⟩ = some (.slice a' n' c') ∧ ∃ z, Rd w' (Upto w.heap.size) 1 a' n' c' (ints k z) ∧ n' ≤ c' ∧ c' ≤ 9223372036854775807 ∧ z.length = n' := by
  obtain ⟨xs, h1, h2, h3⟩ := h
  obtain ⟨g, off, r1, r2, r3, r4⟩ := h1.cellAt (by omega)
  obtain ⟨a', n', c', e1, e2⟩ := h3 i (by omega)
  refine ⟨g, off, a', n', c', r1, ?_, _, e2.1.chg (Chg.of_below hb Nil) (fun _ _ _ h => h), e2.1.1, e2.1.2.1, e2.1.ilen⟩
  rw [hb.cell (p := ⟨g, off + i, none⟩) r2, r4 i hi, e1]
/-- How urgent each task is, by the argument. -/
def prZ (z : List Int) (t : Int) : Int := rest (z.getD (t - 1).toNat 0) 8
theorem prZ_bd (z : List Int) (t : Int) : 0 ≤ prZ z t ∧ prZ z t < 8 := ⟨rest_nonneg _ 8 (by omega), rest_lt _ 8 (by omega)⟩
/-- The locks, all of them new. -/
def LkInv (w0 : World) (p n : Nat) (pr : Int → Int) (w : World) : Prop := ∃ F o q, LkAt w F p n pr o q ∧ (∀ k, F k → w0.heap.size ≤ k) ∧ Below w0.heap.size w0 w
theorem LkInv.mk' {w0 w w1 : World} {F F' : Nat → Prop} {p n : Nat} {pr : Int → Int} {o o' : Nat → Int} {q q' : Nat → List Int} (h : LkAt w F p n pr o q) (hf : ∀ k, F k → w0.heap.size ≤ k) (hb : Below w0.heap.size w0 w) (z1 : LkAt w1 F' p n pr o' q') (z2 : Chg F w w1) (z3 : Grew w.heap.size F F') : LkInv w0 p n pr w1 :=
  ⟨F', o', q', z1, grew_ge z3 hf hb.size, below_chg hb z2 hf⟩
theorem sleepBegun_ok (w : World) : Calls Try.prog 12 #[] w fun e w' => e = .returned (.bool true) ∧ Chg Nil w w' := by
  go_enter Try.func12, Try.ntmps12
  go_wp2_with fail
  refine (lnew_ok (fun _ => 2) (fun _ => by omega) _).mono ?_
  rintro e w1 ⟨F, p, rfl, s1, c1, g1⟩
  have hf := grew_ge g1 (fun _ h => h.elim) (Nat.le_refl _)
  have hb := below_nil (Below.refl _ w) c1
  replace hf := hid hf
  replace hb := hid hb
  clear c1 g1
  go_wp2_with fail
  refine (ltask_ok _ F p 0 (fun _ => 2) 1 2 s1 (by omega) (by omega) rfl).mono ?_
  rintro e w2 ⟨rfl, s2, c2⟩
  replace hb := hid (below_chg hb.out c2 hf.out)
  clear c2 s1
  go_wp2_with fail
  refine (ltake_free _ F p (0 + 1) _ _ _ 1 3 s2 (by omega) (by omega) (by omega) (waitK_none.2 (fun k _ => by simp)) rfl).mono ?_
  rintro e w3 ⟨rfl, s3, c3⟩
  replace hb := hid (below_chg hb.out c3 hf.out)
  clear c3 s2
  have hR : Rch (upN (fun _ => 0) 3 1) (fun _ => []) (upN (fun _ => 0) 3 1 3) 1 := by rw [upN_same]; exact Rch.refl 1
  replace hR := hid hR
  go_wp2_with fail
  refine (ltake_busy _ F p (0 + 1) _ _ _ 1 3 s3 (by omega) (by omega) (by omega) (waitK_none.2 (fun k _ => by simp)) (by rw [upN_same]; omega)).mono ?_
  rintro e w4 (⟨_, rfl, rfl⟩ | ⟨hno, _⟩)
  · go_wp2
    go_ret
    exact ⟨rfl, Chg.of_below hb.out Nil⟩
  · exact absurd hR.out hno
set_option maxRecDepth 100000 in
set_option maxHeartbeats 2000000 in
theorem locked_ok (w0 w : World) (R0 : Nat → Prop) (a0 : Option Addr) (N cap0 : Nat) (z0 : List Int) (a1 : Option Addr) (len1 cap1 : Nat) (z1 : List (List Int)) (hB0 : Below w0.heap.size w0 w) (h0 : Rd w0 (Upto w0.heap.size) 1 a0 N cap0 (ints .i64 z0)) (hN : N ≤ 16) (h1 : IsRows .i64 w0 a1 len1 cap1 z1) :
    Calls Try.prog 13 #[.slice a0 N cap0, .slice a1 len1 cap1] w fun e w' => ∃ p, e = .returned (.tuple #[.pointer (some ⟨p, 0, none⟩), .bool true]) ∧ LkInv w0 p N (prZ z0) w' := by
  have hl : len1 ≤ 9223372036854775807 ∧ len1 ≤ cap1 ∧ cap1 ≤ 9223372036854775807 := by
    obtain ⟨xs, h1, _⟩ := id h1
    have h2 := h1.1
    have h3 := h1.2.1
    unfold maxLen at h3
    omega
  obtain ⟨hl0, hl1, hl2⟩ := hl
  have hzl := h0.ilen
  have H0 := hid h0
  have W1 := hid h1
  have HB0 := hid hB0
  clear h0 h1 hB0
  go_enter Try.func13, Try.ntmps13
  go_wp2_with fail
  refine (lnew_ok (prZ z0) (prZ_bd z0) _).mono ?_
  rintro e w2 ⟨F, p, rfl, s1, c1, g1⟩
  have hf := hid (grew_ge g1 (fun _ h => h.elim) HB0.out.size)
  have hb := hid (below_nil HB0.out c1)
  have S1 := hid s1
  clear c1 g1 s1
  go_wp2
  go_loopw [18] (fun s18 wr => ∃ i : Nat, i ≤ N ∧ s18 = .int .i64 i ∧ Hid (LkAt wr F p i (prZ z0) (fun _ => 0) (fun _ => []) ∧ Below w0.heap.size w0 wr)) (fun s18 _ => N - (intOf s18).toNat)
  case atStart => exact ⟨0, by omega, rfl, S1.out, hb.out⟩
  case round =>
    clear S1 hb
    obtain ⟨i, hi, rfl, hJ⟩ := hrel
    obtain ⟨s2, b2⟩ := id hJ.out
    by_cases hlt : i < N
    · obtain ⟨g, off, rfl, _, _, hc⟩ := (H0.out.chg (Chg.of_below b2 Nil) (fun _ _ _ h => h)).at (i := i) (by omega)
      have hc1 := hc i (by omega)
      have hgd : z0.getD i 0 = z0[i] := by simp [List.getD, List.getElem?_eq_getElem (show i < z0.length by omega)]
      have hpr : prZ z0 ((i : Int) + 1) = rest z0[i] 8 := by unfold prZ; rw [show ((i : Int) + 1 - 1).toNat = i by omega, hgd]
      obtain ⟨v, hv⟩ : ∃ v, v = rest z0[i] 8 := ⟨_, rfl⟩
      have HR := rest_any z0[i] 8 wr (by omega) (by omega)
      rw [← hv] at hpr HR
      replace HR := hid HR
      have HT := hid (ltask_ok wr F p i (prZ z0) ((i : Int) + 1) v s2 (by omega) rfl hpr)
      have B2 := hid b2
      clear hc hgd hpr hv s2 b2
      go_wp2_with (first | (go_at_call 16; refine HR.out.mono ?_; rintro e w' ⟨rfl, rfl⟩) | (go_at_call 49; refine HT.out.mono ?_; rintro e w3 ⟨rfl, y1, y2⟩; replace y1 := hid y1; replace y2 := hid y2))
      go_roundw
      case rel => exact ⟨i + 1, by omega, by go_num, y1.out, below_chg B2.out y2.out hf.out⟩
      case measure => simp [intOf]; omega
    · obtain rfl : i = N := by omega
      have hI : LkInv w0 p i (prZ z0) wr := ⟨F, _, _, s2, hf.out, b2⟩
      replace hI := hid hI
      clear hJ s2 b2 hf
      by_cases hN0 : i = 0
      · subst hN0
        go_wp2
        go_ret2
        exact ⟨p, rfl, hI.out⟩
      have hbz : ((i : Int) == 0) = false := by rw [beq_eq_false_iff_ne]; omega
      obtain ⟨wv, rfl⟩ : ∃ wv : World, wv = wr := ⟨_, rfl⟩
      go_upto_region 12 with fail
      go_cut [40, 41, 42] (fun s40 s41 s42 wx => wx = wv ∧ ∃ M : Nat, M ≤ 100 ∧ M ≤ len1 ∧ s40 = .slice a1 M cap1 ∧ s41 = .int .i64 M ∧ s42 = .int .i64 0)
      case first =>
        go_wp2
        · go_meet
          exact ⟨rfl, 100, by omega, by omega, rfl, rfl, rfl⟩
        · go_meet
          exact ⟨rfl, len1, by omega, by omega, by simp, by simp, rfl⟩
      case rest =>
      obtain ⟨rfl, M, hM1, hM2, rfl, rfl, rfl⟩ := hcut
      go_wp2
      go_loopw [42] (fun s42 wr => ∃ k : Nat, k ≤ M ∧ s42 = .int .i64 k ∧ Hid (LkInv w0 p i (prZ z0) wr)) (fun s42 _ => M - (intOf s42).toNat)
      case atStart => exact ⟨0, by omega, rfl, hI⟩
      case round =>
        clear hI
        obtain ⟨m, hm, rfl, hJ⟩ := hrel
        obtain ⟨F, o, q, L, gF, bF⟩ := id hJ.out
        by_cases hlt : m < M
        · obtain ⟨g, off, ar, nr, cr, rfl, hcr, z, hz, hz1, hz2, hz3⟩ := W1.out.row bF m (by omega)
          replace L := hid L
          replace gF := hid gF
          replace bF := hid bF
          by_cases h3 : nr < 3
          · have h3' : (nr : Int) < 3 := by omega
            clear hz
            go_wp2
            go_roundw
            case rel => exact ⟨m + 1, by omega, by go_num, hJ⟩
            case measure => simp [intOf]; omega
          · have h3' : (3 : Int) ≤ (nr : Int) := by omega
            obtain ⟨gr, offr, rfl, _, _, hc⟩ := hz.at (i := 0) (by omega)
            have x0 := hc 0 (by omega)
            have x1 := hc 1 (by omega)
            have x2 := hc 2 (by omega)
            simp only [Nat.add_zero] at x0
            clear hc hz
            obtain ⟨y, hy1, Q0⟩ := rest_to z[0] 4 (by omega) (by omega)
            obtain ⟨t, ht1, Q1⟩ := rest_in z[1] i (by omega) (by omega)
            obtain ⟨k, hk1, Q2⟩ := rest_in z[2] 6 (by omega) (by omega)
            have hw1 := IntWalk.i64_in (1 + (t : Int)) (by omega)
            replace Q0 := hid Q0
            replace Q1 := hid Q1
            replace Q2 := hid Q2
            go_wp2
            go_quiet ((first | (go_at_call 16; with_reducible exact Calls.quiet_of_same (Q1.out _)) | (go_at_call 16; with_reducible exact Calls.quiet_of_same (Q2.out _))))
            clear hw1
            have L1 := hid (L.out.nil ((Chg.refl Nil wr).drewN nq))
            have b1 := hid (below_nil bF.out ((Chg.refl Nil wr).drewN nq))
            have g1 : Hid (∀ k, F k → w0.heap.size ≤ k) := gF
            obtain ⟨wa, hwa⟩ : ∃ wa, wa = wr.drewN nq := ⟨_, rfl⟩
            have x0' : wa.cell? ⟨gr, offr, none⟩ = some (.int .i64 z[0]) := by rw [hwa]; exact x0
            rw [← hwa] at L1 b1 ⊢
            clear hwa x0 x1 x2 hcr L hJ bF gF Q1 Q2
            obtain ⟨wo, rfl⟩ : ∃ wo : World, wo = wr := ⟨_, rfl⟩
            go_upto_block 4 with (go_at_call 16; refine (Q0.out _).mono ?_; rintro e w' ⟨rfl, rfl⟩)
            have hk : k < 16 := by omega
            have ht2 : (1 : Int) ≤ 1 + (t : Int) := by omega
            have ht3 : 1 + (t : Int) ≤ (i : Int) := by omega
            have hy : y = 0 ∨ y = 1 ∨ y = 2 ∨ y = 3 := by omega
            rcases hy with rfl | rfl | rfl | rfl
            · have HN := L1.out.n16
              cases hw : waitK q (1 + (t : Int)) with
              | some j =>
                have HC := hid (ltake_state wa F p i (prZ z0) o q (1 + (t : Int)) k L1.out hk ht2 ht3 (by rw [hw]; rfl))
                clear hw
                go_wp2_with (go_at_call 50; refine HC.out.mono ?_; rintro e w' ⟨rfl, rfl⟩)
                go_roundw
                case rel => exact ⟨m + 1, by omega, by go_num, ⟨F, o, q, L1.out, g1.out, b1.out⟩⟩
                case measure => simp [intOf]; omega
              | none =>
                by_cases h0 : o k = 0
                · have HC := hid (ltake_free wa F p i (prZ z0) o q (1 + (t : Int)) k L1.out hk ht2 ht3 hw h0)
                  clear hw h0
                  go_wp2_with (go_at_call 50; refine HC.out.mono ?_; rintro e wb ⟨rfl, y1, y2⟩; replace y1 := hid y1; replace y2 := hid y2)
                  go_roundw
                  case rel => exact ⟨m + 1, by omega, by go_num, LkInv.mk' L1.out g1.out b1.out y1.out y2.out (Grew.refl _ _)⟩
                  case measure => simp [intOf]; omega
                · have HC := hid (ltake_busy wa F p i (prZ z0) o q (1 + (t : Int)) k L1.out hk ht2 ht3 hw h0)
                  clear hw h0
                  go_wp2_with (go_at_call 50; refine HC.out.mono ?_; rintro e wb (⟨hr, rfl, rfl⟩ | ⟨hr, rfl, F', y1, y2, y3⟩); replace hr := hid hr)
                  · go_roundw
                    case rel => exact ⟨m + 1, by omega, by go_num, ⟨F, o, q, L1.out, g1.out, b1.out⟩⟩
                    case measure => simp [intOf]; omega
                  · go_roundw
                    case rel => exact ⟨m + 1, by omega, by go_num, LkInv.mk' L1.out g1.out b1.out y1 y2 y3⟩
                    case measure => simp [intOf]; omega
            · have HN := L1.out.n16
              cases hw : waitK q (1 + (t : Int)) with
              | some j =>
                have HC := hid (ltake_state wa F p i (prZ z0) o q (1 + (t : Int)) k L1.out hk ht2 ht3 (by rw [hw]; rfl))
                clear hw
                go_wp2_with (go_at_call 50; refine HC.out.mono ?_; rintro e w' ⟨rfl, rfl⟩)
                go_roundw
                case rel => exact ⟨m + 1, by omega, by go_num, ⟨F, o, q, L1.out, g1.out, b1.out⟩⟩
                case measure => simp [intOf]; omega
              | none =>
                by_cases h0 : o k = 0
                · have HC := hid (ltake_free wa F p i (prZ z0) o q (1 + (t : Int)) k L1.out hk ht2 ht3 hw h0)
                  clear hw h0
                  go_wp2_with (go_at_call 50; refine HC.out.mono ?_; rintro e wb ⟨rfl, y1, y2⟩; replace y1 := hid y1; replace y2 := hid y2)
                  go_roundw
                  case rel => exact ⟨m + 1, by omega, by go_num, LkInv.mk' L1.out g1.out b1.out y1.out y2.out (Grew.refl _ _)⟩
                  case measure => simp [intOf]; omega
                · have HC := hid (ltake_busy wa F p i (prZ z0) o q (1 + (t : Int)) k L1.out hk ht2 ht3 hw h0)
                  clear hw h0
                  go_wp2_with (go_at_call 50; refine HC.out.mono ?_; rintro e wb (⟨hr, rfl, rfl⟩ | ⟨hr, rfl, F', y1, y2, y3⟩); replace hr := hid hr)
                  · go_roundw
                    case rel => exact ⟨m + 1, by omega, by go_num, ⟨F, o, q, L1.out, g1.out, b1.out⟩⟩
                    case measure => simp [intOf]; omega
                  · go_roundw
                    case rel => exact ⟨m + 1, by omega, by go_num, LkInv.mk' L1.out g1.out b1.out y1 y2 y3⟩
                    case measure => simp [intOf]; omega
            · cases hw : waitK q (1 + (t : Int)) with
              | some j =>
                by_cases ho : o k = 1 + (t : Int)
                · have HC := hid (lfree_waits wa F p i (prZ z0) o q (1 + (t : Int)) k L1.out hk ht2 ht3 ho (by rw [hw]; rfl))
                  clear hw ho
                  go_wp2_with (go_at_call 19; refine HC.out.mono ?_; rintro e w' ⟨rfl, rfl⟩)
                  go_roundw
                  case rel => exact ⟨m + 1, by omega, by go_num, ⟨F, o, q, L1.out, g1.out, b1.out⟩⟩
                  case measure => simp [intOf]; omega
                · have HC := hid (lfree_other wa F p i (prZ z0) o q (1 + (t : Int)) k L1.out hk ht2 ht3 ho)
                  clear hw ho
                  go_wp2_with (go_at_call 19; refine HC.out.mono ?_; rintro e w' ⟨rfl, rfl⟩)
                  go_roundw
                  case rel => exact ⟨m + 1, by omega, by go_num, ⟨F, o, q, L1.out, g1.out, b1.out⟩⟩
                  case measure => simp [intOf]; omega
              | none =>
                by_cases ho : o k = 1 + (t : Int)
                · have HC := hid (lfree_ok wa F p i (prZ z0) o q (1 + (t : Int)) k L1.out hk ht2 ht3 ho hw)
                  clear hw ho
                  go_wp2_with (go_at_call 19; refine HC.out.mono ?_; rintro e wb (⟨hr, rfl, y1, y2⟩ | ⟨b, hb, hr, rfl, F', y1, y2, y3⟩); replace hr := hid hr)
                  · go_roundw
                    case rel => exact ⟨m + 1, by omega, by go_num, LkInv.mk' L1.out g1.out b1.out y1 y2 (Grew.refl _ _)⟩
                    case measure => simp [intOf]; omega
                  · go_roundw
                    case rel => exact ⟨m + 1, by omega, by go_num, LkInv.mk' L1.out g1.out b1.out y1 y2 y3⟩
                    case measure => simp [intOf]; omega
                · have HC := hid (lfree_other wa F p i (prZ z0) o q (1 + (t : Int)) k L1.out hk ht2 ht3 ho)
                  clear hw ho
                  go_wp2_with (go_at_call 19; refine HC.out.mono ?_; rintro e w' ⟨rfl, rfl⟩)
                  go_roundw
                  case rel => exact ⟨m + 1, by omega, by go_num, ⟨F, o, q, L1.out, g1.out, b1.out⟩⟩
                  case measure => simp [intOf]; omega
            · cases hw : waitK q (1 + (t : Int)) with
              | none =>
                have HC := hid (ldrop_state wa F p i (prZ z0) o q (1 + (t : Int)) L1.out ht2 ht3 hw)
                clear hw
                go_wp2_with (go_at_call 20; refine HC.out.mono ?_; rintro e wb ⟨rfl, y1⟩; replace y1 := hid y1)
                go_roundw
                case rel => exact ⟨m + 1, by omega, by go_num, ⟨F, o, q, L1.out.nil y1.out, g1.out, below_nil b1.out y1.out⟩⟩
                case measure => simp [intOf]; omega
              | some j =>
                have HC := hid (ldrop_ok wa F p i (prZ z0) o q (1 + (t : Int)) j L1.out ht2 ht3 hw)
                clear hw
                go_wp2_with (go_at_call 20; refine HC.out.mono ?_; rintro e wb ⟨rfl, F', y1, y2, y3⟩; replace y1 := hid y1; replace y2 := hid y2; replace y3 := hid y3)
                go_roundw
                case rel => exact ⟨m + 1, by omega, by go_num, LkInv.mk' L1.out g1.out b1.out y1.out y2.out y3.out⟩
                case measure => simp [intOf]; omega
        · go_wp2
          go_ret2
          exact ⟨p, rfl, hJ.out⟩
end Go.Proofs.Ythbkmjigplolgaa
