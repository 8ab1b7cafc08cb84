/- The walk of the law SpanMoves: it returns true and changes nothing that was there. No condition. -/
import Derived.Test.YtnibhkeleogjcaaTree19
namespace Go.Proofs.Ytnibhkeleogjcaa
open Go.ChangeShapes Go.WideShapes Go.ChangeAt Go.RowKit
set_option linter.unusedVariables false
/-- On the way there, and on the way back. -/
def UpS (w0 : World) (Z : List Int) (n t pa pb k : Nat) (w : World) : Prop := ∃ M, MvU Z n t k M ∧ MvS w0 (trK Z n) pa M pb w
def DnS (w0 : World) (Z : List Int) (n t pa pb k : Nat) (w : World) : Prop := ∃ M, MvD Z n t k M ∧ MvS w0 (trK Z n) pa M pb w
set_option maxRecDepth 100000 in
set_option maxHeartbeats 2000000 in
theorem spanMoves_walk (a0 : Option Addr) (len0 cap0 : Nat) (z0 : List Int) (a1 a2 a3 a4 : Int) (w : World) (w0 : IsRow .i64 w a0 len0 cap0 z0) (w1 : (Lit.int .i64 a1).wf = true) (w2 : (Lit.int .i64 a2).wf = true) (w3 : (Lit.int .i64 a3).wf = true) (w4 : (Lit.int .i64 a4).wf = true) :
    Calls Try.prog 7 #[.slice a0 len0 cap0, .int .i64 a1, .int .i64 a2, .int .i64 a3, .int .i64 a4] w fun e w' => e = .returned (.bool true) ∧ Below w.heap.size w w' := by
  have hl1 := w0.1.1
  have hl2 := w0.1.2.1
  unfold maxLen at hl2
  have W0 := hid w0.1
  clear w0 w1 w2 w3 w4
  have HR := hid (Rd.of_blk (n := 2) (s := 1) (Blk.new w 3 (ints .i64 [5, 3])) rfl (by decide))
  have B0 := hid ((Below.refl w.heap.size w).alloc (Nat.le_refl _) (.cells (ints .i64 [5, 3]).toArray 3))
  go_enter Try.func7, Try.ntmps7
  go_wp2_with fail
  refine (tree_ok _ _ 2 2 [5, 3] _ HR.out (by omega)).mono ?_
  rintro e w1 ⟨p, rfl, h1⟩
  have T1 := hid (TrIn.trB h1 B0.out)
  clear h1 HR B0
  have LEN : Hid (Calls Try.prog 13 #[.pointer (some ⟨p, 0, none⟩)] w1 fun v w' => v = .returned (.int .i64 2) ∧ w' = w1) := by
    obtain ⟨F, h1, _, _⟩ := T1.out
    exact len_ok w1 F p _ h1
  go_wp2_with fail
  refine LEN.out.mono ?_
  rintro e w2 ⟨rfl, hw⟩
  subst hw
  clear LEN
  go_upto_region 4 with fail
  go_cut [0] (fun s0 wx => wx = w2 ∧ ∃ N : Nat, N ≤ 100 ∧ N ≤ len0 ∧ s0 = .slice a0 N cap0)
  case first =>
    go_wp2
    · go_meet
      exact ⟨rfl, 100, by omega, by omega, rfl⟩
    · go_meet
      exact ⟨rfl, len0, by omega, by omega, by simp⟩
  case rest =>
    obtain ⟨rfl, N, hN1, hN2, rfl⟩ := hcut
    obtain ⟨Z, hZ⟩ : ∃ Z, Z = z0.take N := ⟨_, rfl⟩
    have RZ : Hid (Rd w (Upto w.heap.size) 1 a0 N cap0 (ints .i64 Z)) := hid (by rw [hZ]; exact rd_take W0.out hN2)
    have hzl : Z.length = N := RZ.out.ilen
    clear hZ W0
    have B1 : Hid (Below w.heap.size w wc) := hid (by obtain ⟨F, _, h2, _⟩ := T1.out; exact h2)
    have RZ1 := hid (rd_rest RZ.out B1.out)
    clear T1
    go_wp2_with fail
    refine (tree_ok _ _ N _ Z _ RZ1.out (by omega)).mono ?_
    rintro e w2 ⟨pa, rfl, h1⟩
    have T2 := hid (TrIn.trB h1 B1.out)
    rw [hzl] at T2
    have HZ := hid hzl
    clear h1 B1 RZ1 hzl
    go_wp2_with fail
    refine (spnew_ok _).mono ?_
    rintro e w3 ⟨rfl, s1, c1⟩
    obtain ⟨pb, hpb⟩ : ∃ pb, pb = w2.heap.size := ⟨_, rfl⟩
    have U0 : Hid (∀ t, UpS w Z N t pa pb 0 w3) := hid (fun t => by
      obtain ⟨F, y1, y2, y3⟩ := T2.out
      refine ⟨[], ⟨Nat.zero_le _, fun x => ⟨(fun h => by cases h), (fun h => by rcases h with ⟨j, hj, _⟩ | ⟨j, hj, _⟩ <;> omega)⟩⟩, F, One w2.heap.size, y1.chg c1 (fun _ _ h => h), by rw [hpb]; exact s1, below_nil y2 c1, y3, fun x hx => by rw [show x = w2.heap.size from hx]; exact y2.size, fun x hx hh => ?_⟩
      have := y1.lt x hx
      have h2 : x = w2.heap.size := hh
      omega)
    rw [← hpb]
    clear s1 c1 hpb T2
    go_wp2_with fail
    refine (rest_any a1 ((N : Int) + 1) _ (by omega) (by omega)).mono ?_
    rintro e w4 ⟨rfl, rfl⟩
    obtain ⟨t, ht0⟩ := Int.eq_ofNat_of_zero_le (rest_nonneg a1 ((N : Int) + 1) (by omega))
    have ht : t ≤ N := by have := rest_lt a1 ((N : Int) + 1) (by omega); omega
    rw [ht0]
    clear ht0
    have U := hid (U0.out t)
    clear U0
    go_wp2
    go_loopw [71] (fun s71 wr => ∃ k : Nat, k ≤ N ∧ s71 = .int .i64 k ∧ Hid (UpS w Z N t pa pb k wr)) (fun s71 _ => N - (intOf s71).toNat)
    case atStart => exact ⟨0, by omega, rfl, U⟩
    case round =>
      obtain ⟨k, hk, rfl, hJ⟩ := hrel
      clear U
      by_cases hlt : k < N
      · have hm := sg_mod hlt ht
        have hs := sg_lt hlt ht
        obtain ⟨s, hsd⟩ : ∃ s, s = sg N t k := ⟨_, rfl⟩
        rw [← hsd] at hm hs
        have hsz : s < Z.length := by rw [HZ.out]; exact hs
        obtain ⟨M, m1, m2⟩ := id hJ.out
        obtain ⟨Fa, Fb, _, _, y3, _⟩ := id m2
        obtain ⟨g, off, rfl, hg, hgu, hc⟩ := (rd_rest RZ.out y3).at hsz
        have hc1 := hc s hsz
        clear hc y3
        obtain ⟨v, hv⟩ : ∃ v, v = Z[s] := ⟨_, rfl⟩
        rw [← hv] at hc1
        have hx : itE Z s = ⟨rest v 20, s, rest v 100⟩ := by unfold itE; rw [List.getD_eq_getElem?_getD, List.getElem?_eq_getElem hsz, hv]; rfl
        have n1 := m1.new1 hlt ht
        have n2 := m1.new2 hlt ht
        have n3 := m1.small
        have n4 := m1.1
        rw [← hsd] at n1 n2
        have e1 : (⟨500, s, 7⟩ : TE) = fvE s := rfl
        have PUT1 := hid (mv_put (w := wr.drew) (m2.drewN 1) 500 s 7 (by omega) (by omega) n1 ⟨by rw [List.length_cons]; omega, fun x hx => by
          rcases List.mem_cons.1 hx with rfl | hx
          · exact ⟨by show (0 : Int) ≤ 7; omega, by show (7 : Int) ≤ 1000000; omega⟩
          · exact n3 x hx⟩)
        rw [e1] at PUT1
        have r3 := rest_nonneg v 100 (by omega)
        have r4 := rest_lt v 100 (by omega)
        have SM2 : Sm (itE Z s :: insE (fvE s) M) := ⟨by rw [List.length_cons, (insE_perm _ _).length_eq, List.length_cons]; omega, fun x hx => by
          rcases List.mem_cons.1 hx with rfl | hx
          · have := itE_w Z s; omega
          · rcases List.mem_cons.1 ((insE_perm _ _).mem_iff.1 hx) with rfl | hx
            · exact ⟨by show (0 : Int) ≤ 7; omega, by show (7 : Int) ≤ 1000000; omega⟩
            · exact n3 x hx⟩
        have PUT2 : Hid (∀ wx, MvS w (trK Z N) pa (insE (fvE s) M) pb wx → Calls Try.prog 9 #[.pointer (some ⟨pb, 0, none⟩), .int .i64 (rest v 20), .int .i64 s, .int .i64 (rest v 100)] wx fun v w' => v = .returned (.int .i64 0) ∧ MvS w (trK Z N) pa (insE (itE Z s) (insE (fvE s) M)) pb w') := hid (fun wx hwx => by
          rw [hx] at n2 SM2 ⊢
          exact mv_put hwx _ _ _ (by omega) (by omega) n2 SM2)
        have hSM3 := hid (SM2.perm (insE_perm _ _))
        have HX := hid hx
        have HM1 := hid m1
        have hgN : g < w.heap.size := hgu
        have OLD : Hid (∀ M' wx, MvS w (trK Z N) pa M' pb wx → wx.cell? ⟨g, off + s, none⟩ = some (.int .i64 v)) := hid (fun M' wx hwx => by
          obtain ⟨_, _, _, _, q3, _⟩ := hwx
          obtain ⟨_, _, _, _, p3, _⟩ := m2
          rw [q3.cell (p := ⟨g, off + s, none⟩) hgN, ← hc1, p3.cell (p := ⟨g, off + s, none⟩) hgN])
        obtain ⟨a, ha⟩ : ∃ a, a = rest v 20 := ⟨_, rfl⟩
        obtain ⟨b, hb⟩ : ∃ b, b = rest v 100 := ⟨_, rfl⟩
        have R1 := hid (rest_any v 20)
        have R2 := hid (rest_any v 100)
        have hsd' := hid hsd
        clear m1 m2 n1 n2 n3 n4 e1 SM2 hx hv hsd r3 r4
        rw [← ha] at PUT2 R1
        rw [← hb] at PUT2 R2
        clear ha hb
        have i1 : (s : Int) < (N : Int) := by omega
        go_wp2
        go_region_held3 (fun w' => w'.cell? ⟨g, off + s, none⟩ = some (.int .i64 v)) (first | exact k1 | exact k2 | go_keep)
          (first | ((with_reducible refine PUT1.out.mono ?_); rintro e w5 ⟨rfl, h1⟩; have PA := hid h1; have k1 := OLD.out _ _ h1; clear h1) | ((with_reducible refine (PUT2.out _ PA.out).mono ?_); rintro e w6 ⟨rfl, h2⟩; have PB := hid h2; have k2 := OLD.out _ _ h2; clear h2) | ((with_reducible refine (R1.out _ (by omega) (by omega)).mono ?_); rintro e w7 ⟨rfl, rfl⟩) | ((with_reducible refine (R2.out _ (by omega) (by omega)).mono ?_); rintro e w7 ⟨rfl, rfl⟩))
        clear PUT1 PUT2 PA OLD R1 R2 hc1 k1 k2
        rcases Nat.mod_two_eq_zero_or_one k with he | he
        · have hb : ((k : Int) % 2 == 1) = false := by rw [beq_eq_false_iff_ne]; omega
          have Z1 : Hid (UpS w Z N t pa pb (k + 1) w6) := hid ⟨_, HM1.out.even he, by rw [← hsd'.out]; exact PB.out⟩
          clear PB he hJ
          go_wp2
          go_roundw
          case rel => exact ⟨k + 1, by omega, by go_num, Z1⟩
          case measure => simp [intOf]; omega
        · have hb : ((k : Int) % 2 == 1) = true := by rw [beq_iff_eq]; omega
          have OUT : Hid (Calls Try.prog 12 #[.pointer (some ⟨pb, 0, none⟩), .int .i64 500, .int .i64 s] w6 fun v w' => v = .returned (.tuple #[.int .i64 7, .int .i64 0]) ∧ UpS w Z N t pa pb (k + 1) w') := hid (by
            refine (mv_out PB.out (fvE s) ((insE_perm _ _).mem_iff.2 (List.mem_cons_of_mem _ ((insE_perm _ _).mem_iff.2 (by simp)))) hSM3.out).mono ?_
            rintro v' w' ⟨rfl, h1⟩
            refine ⟨rfl, _, HM1.out.odd hlt ht he, ?_⟩
            rw [← hsd'.out]
            exact h1)
          clear PB he hJ
          go_wp2_with fail
          refine OUT.out.mono ?_
          rintro e w8 ⟨rfl, h1⟩
          replace h1 := hid h1
          clear OUT
          go_wp2
          go_roundw
          case rel => exact ⟨k + 1, by omega, by go_num, h1⟩
          case measure => simp [intOf]; omega
      · obtain rfl : k = N := by omega
        obtain ⟨N, hN⟩ : ∃ N, N = k := ⟨_, rfl⟩
        have D : Hid (DnS w Z N t pa pb 0 wr) := hid (by
          rw [hN]
          obtain ⟨M, m1, m2⟩ := hJ.out
          exact ⟨M, m1.back, m2⟩)
        subst hN
        clear hJ
        go_wp2
        go_loopw [118] (fun s118 wr => ∃ k : Nat, k ≤ N ∧ s118 = .int .i64 k ∧ Hid (DnS w Z N t pa pb k wr)) (fun s118 _ => N - (intOf s118).toNat)
        case atStart => exact ⟨0, by omega, rfl, D⟩
        case round =>
          obtain ⟨k, hk, rfl, hJ⟩ := hrel
          clear D
          by_cases hlt : k < N
          · rcases Nat.mod_two_eq_zero_or_one k with he | he
            · have hb : ((k : Int) % 2 == 0) = true := by rw [beq_iff_eq]; omega
              have hm := sg_mod hlt ht
              obtain ⟨s, hsd⟩ : ∃ s, s = sg N t k := ⟨_, rfl⟩
              rw [← hsd] at hm
              have OUT : Hid (Calls Try.prog 12 #[.pointer (some ⟨pb, 0, none⟩), .int .i64 500, .int .i64 s] wr fun v w' => v = .returned (.tuple #[.int .i64 7, .int .i64 0]) ∧ DnS w Z N t pa pb (k + 1) w') := hid (by
                obtain ⟨M, m1, m2⟩ := hJ.out
                refine (mv_out m2 (fvE s) (by rw [hsd]; exact m1.mem hlt he) (m1.sm hN1)).mono ?_
                rintro v' w' ⟨rfl, h1⟩
                refine ⟨rfl, _, m1.out hlt ht he, ?_⟩
                rw [← hsd]
                exact h1)
              clear he hJ hsd
              go_wp2_with fail
              refine OUT.out.mono ?_
              rintro e w8 ⟨rfl, h1⟩
              replace h1 := hid h1
              clear OUT
              go_wp2
              go_roundw
              case rel => exact ⟨k + 1, by omega, by go_num, h1⟩
              case measure => simp [intOf]; omega
            · have hb : ((k : Int) % 2 == 0) = false := by rw [beq_eq_false_iff_ne]; omega
              have Z1 : Hid (DnS w Z N t pa pb (k + 1) wr) := hid (by
                obtain ⟨M, m1, m2⟩ := hJ.out
                exact ⟨M, m1.skip he, m2⟩)
              clear he hJ
              go_wp2
              go_roundw
              case rel => exact ⟨k + 1, by omega, by go_num, Z1⟩
              case measure => simp [intOf]; omega
          · obtain rfl : k = N := by omega
            obtain ⟨L, hL⟩ : ∃ L, L = trK Z k := ⟨_, rfl⟩
            have E : Hid (MvS w L pa L pb wr ∧ Sm L) := hid (by
              obtain ⟨M, m1, m2⟩ := hJ.out
              obtain ⟨Fa, Fb, y1, y2, _⟩ := id m2
              have e := m1.end ht y2.srt y1.srt
              rw [hL]
              rw [e] at m2
              exact ⟨m2, trK_sm Z k (by omega)⟩)
            clear hL hJ
            have NA : Hid (∀ q, Calls Try.prog 18 #[.pointer (some ⟨pa, 0, none⟩), .int .i64 a2, .int .i64 a3] (wr.drewN q) fun v w' => v = .returned (tup (nextE a2 a3 L)) ∧ ∃ q, w' = wr.drewN q) := hid (fun q => by
              obtain ⟨Fa, Fb, y1, y2, _⟩ := E.out.1.drewN q
              refine (tnext_ok _ Fa pa L y1 a2 a3).mono ?_
              rintro v w' ⟨rfl, q1, rfl⟩
              exact ⟨rfl, _, World.drewN_drewN _ _ _⟩)
            have NB : Hid (∀ q, Calls Try.prog 18 #[.pointer (some ⟨pb, 0, none⟩), .int .i64 a2, .int .i64 a3] (wr.drewN q) fun v w' => v = .returned (tup (nextE a2 a3 L)) ∧ ∃ q, w' = wr.drewN q) := hid (fun q => by
              obtain ⟨Fa, Fb, y1, y2, _⟩ := E.out.1.drewN q
              refine (tnext_ok _ Fb pb L y2 a2 a3).mono ?_
              rintro v w' ⟨rfl, q1, rfl⟩
              exact ⟨rfl, _, World.drewN_drewN _ _ _⟩)
            have AA : Hid (∀ q, Calls Try.prog 19 #[.pointer (some ⟨pa, 0, none⟩), .int .i64 a4] (wr.drewN q) fun v w' => v = .returned (.tuple #[.int .i64 (tK (inA a4 L)), .int .i64 (tI (inA a4 L)), .int .i64 (tW (inA a4 L)), .int .i64 (tE (inA a4 L))]) ∧ ∃ q, w' = wr.drewN q) := hid (fun q => by
              obtain ⟨Fa, Fb, y1, y2, _⟩ := E.out.1.drewN q
              refine (at_any _ Fa pa L y1 E.out.2 a4).mono ?_
              rintro v w' ⟨rfl, q1, rfl⟩
              exact ⟨rfl, _, World.drewN_drewN _ _ _⟩)
            have AB : Hid (∀ q, Calls Try.prog 19 #[.pointer (some ⟨pb, 0, none⟩), .int .i64 a4] (wr.drewN q) fun v w' => v = .returned (.tuple #[.int .i64 (tK (inA a4 L)), .int .i64 (tI (inA a4 L)), .int .i64 (tW (inA a4 L)), .int .i64 (tE (inA a4 L))]) ∧ ∃ q, w' = wr.drewN q) := hid (fun q => by
              obtain ⟨Fa, Fb, y1, y2, _⟩ := E.out.1.drewN q
              refine (at_any _ Fb pb L y2 E.out.2 a4).mono ?_
              rintro v w' ⟨rfl, q1, rfl⟩
              exact ⟨rfl, _, World.drewN_drewN _ _ _⟩)
            have LA : Hid (∀ q, Calls Try.prog 13 #[.pointer (some ⟨pa, 0, none⟩)] (wr.drewN q) fun v w' => v = .returned (.int .i64 L.length) ∧ w' = wr.drewN q) := hid (fun q => by
              obtain ⟨Fa, Fb, y1, y2, _⟩ := E.out.1.drewN q
              exact len_ok _ Fa pa L y1)
            have LB : Hid (∀ q, Calls Try.prog 13 #[.pointer (some ⟨pb, 0, none⟩)] (wr.drewN q) fun v w' => v = .returned (.int .i64 L.length) ∧ w' = wr.drewN q) := hid (fun q => by
              obtain ⟨Fa, Fb, y1, y2, _⟩ := E.out.1.drewN q
              exact len_ok _ Fb pb L y2)
            have SA : Hid (∀ q, Calls Try.prog 14 #[.pointer (some ⟨pa, 0, none⟩)] (wr.drewN q) fun v w' => v = .returned (.int .i64 (sumW L)) ∧ w' = wr.drewN q) := hid (fun q => by
              obtain ⟨Fa, Fb, y1, y2, _⟩ := E.out.1.drewN q
              exact tsum_ok _ Fa pa L y1)
            have SB : Hid (∀ q, Calls Try.prog 14 #[.pointer (some ⟨pb, 0, none⟩)] (wr.drewN q) fun v w' => v = .returned (.int .i64 (sumW L)) ∧ w' = wr.drewN q) := hid (fun q => by
              obtain ⟨Fa, Fb, y1, y2, _⟩ := E.out.1.drewN q
              exact tsum_ok _ Fb pb L y2)
            have HA : Hid (∀ q, Calls Try.prog 17 #[.pointer (some ⟨pa, 0, none⟩), .int .i64 a2, .int .i64 a3] (wr.drewN q) fun v w' => v = .returned (.int .i64 (aheadW a2 a3 L)) ∧ ∃ q, w' = wr.drewN q) := hid (fun q => by
              obtain ⟨Fa, Fb, y1, y2, _⟩ := E.out.1.drewN q
              refine (ahead_ok _ Fa pa L y1 E.out.2 a2 a3).mono ?_
              rintro v w' ⟨rfl, q1, rfl⟩
              exact ⟨rfl, _, World.drewN_drewN _ _ _⟩)
            have HB : Hid (∀ q, Calls Try.prog 17 #[.pointer (some ⟨pb, 0, none⟩), .int .i64 a2, .int .i64 a3] (wr.drewN q) fun v w' => v = .returned (.int .i64 (aheadW a2 a3 L)) ∧ ∃ q, w' = wr.drewN q) := hid (fun q => by
              obtain ⟨Fa, Fb, y1, y2, _⟩ := E.out.1.drewN q
              refine (ahead_ok _ Fb pb L y2 E.out.2 a2 a3).mono ?_
              rintro v w' ⟨rfl, q1, rfl⟩
              exact ⟨rfl, _, World.drewN_drewN _ _ _⟩)
            have BEL : Hid (∀ q, Below w.heap.size w (wr.drewN q)) := hid (fun q => by
              obtain ⟨Fa, Fb, y1, y2, y3, _⟩ := E.out.1.drewN q
              exact y3)
            rw [tup_eq] at NA NB
            obtain ⟨o, ho⟩ : ∃ o, o = nextE a2 a3 L := ⟨_, rfl⟩
            obtain ⟨o', ho'⟩ : ∃ o, o = inA a4 L := ⟨_, rfl⟩
            obtain ⟨S, hS⟩ : ∃ S, S = sumW L := ⟨_, rfl⟩
            obtain ⟨A, hA⟩ : ∃ A, A = aheadW a2 a3 L := ⟨_, rfl⟩
            obtain ⟨n, hn⟩ : ∃ n, n = L.length := ⟨_, rfl⟩
            rw [← ho] at NA NB
            rw [← ho'] at AA AB
            rw [← hS] at SA SB
            rw [← hA] at HA HB
            rw [← hn] at LA LB
            obtain ⟨ok, hok⟩ : ∃ x, x = tK o := ⟨_, rfl⟩
            obtain ⟨oi, hoi⟩ : ∃ x, x = tI o := ⟨_, rfl⟩
            obtain ⟨ow, how⟩ : ∃ x, x = tW o := ⟨_, rfl⟩
            obtain ⟨oe, hoe⟩ : ∃ x, x = tE o := ⟨_, rfl⟩
            obtain ⟨pk, hpk⟩ : ∃ x, x = tK o' := ⟨_, rfl⟩
            obtain ⟨pi, hpi⟩ : ∃ x, x = tI o' := ⟨_, rfl⟩
            obtain ⟨pw, hpw⟩ : ∃ x, x = tW o' := ⟨_, rfl⟩
            obtain ⟨pe, hpe⟩ : ∃ x, x = tE o' := ⟨_, rfl⟩
            rw [← hok, ← hoi, ← how, ← hoe] at NA NB
            rw [← hpk, ← hpi, ← hpw, ← hpe] at AA AB
            clear ho ho' hS hA hn hok hoi how hoe hpk hpi hpw hpe E RZ HZ
            go_wp2_with fail
            refine (NA.out 0).mono ?_
            rintro e w4 ⟨rfl, q1, rfl⟩
            go_wp2_with fail
            refine (NB.out _).mono ?_
            rintro e w4 ⟨rfl, q2, rfl⟩
            go_wp2_with fail
            refine (AA.out _).mono ?_
            rintro e w4 ⟨rfl, q3, rfl⟩
            go_wp2_with fail
            refine (AB.out _).mono ?_
            rintro e w4 ⟨rfl, q4, rfl⟩
            go_wp2_with fail
            refine (LA.out _).mono ?_
            rintro e w4 ⟨rfl, rfl⟩
            go_wp2_with fail
            refine (LB.out _).mono ?_
            rintro e w4 ⟨rfl, rfl⟩
            go_wp2_with fail
            refine (SA.out _).mono ?_
            rintro e w4 ⟨rfl, rfl⟩
            go_wp2_with fail
            refine (SB.out _).mono ?_
            rintro e w4 ⟨rfl, rfl⟩
            go_wp2_with fail
            refine (HA.out _).mono ?_
            rintro e w4 ⟨rfl, q5, rfl⟩
            go_wp2_with fail
            refine (HB.out _).mono ?_
            rintro e w4 ⟨rfl, q6, rfl⟩
            go_wp2
            go_ret
            exact ⟨by simp, BEL.out _⟩
end Go.Proofs.Ytnibhkeleogjcaa
