/- The walk of the law WaitWakes: it returns true and changes nothing that was there. No condition. -/
import Derived.Test.YthbkmjigplolgaaWakeM
namespace Go.Proofs.Ythbkmjigplolgaa
open Go.ChangeShapes Go.WideShapes Go.ChangeAt Go.RowKit
set_option linter.unusedVariables false
theorem wprest_nat (k n : Int) (w : World) (h1 : 1 ≤ n) (h2 : n ≤ 9223372036854775807) :
    Calls Try.prog 16 #[.int .i64 k, .int .i64 n] w fun e w' => ∃ q : Nat, (q : Int) < n ∧ rest k n = q ∧ e = .returned (.int .i64 q) ∧ w = w' := by
  refine (rest_any k n w h1 h2).mono ?_
  rintro e w' ⟨rfl, rfl⟩
  have hb1 := rest_nonneg k n h1
  have hb2 := rest_lt k n h1
  obtain ⟨q, hq⟩ := Int.eq_ofNat_of_zero_le hb1
  exact ⟨q, by omega, hq, by rw [hq], rfl⟩
def alT (l : List WT) : List Int := (l.filter WT.al).map WT.t
theorem alT_push (l : List WT) (t : Int) (al : Bool) : alT (l ++ [WT.mk t al]) = alT l ++ (if al then [t] else []) := by
  cases al <;> simp [alT]
theorem waits_has (l : List WT) (t : Int) : hasI (l.map WT.t) t = waits l t := rfl
set_option maxRecDepth 100000 in
set_option maxHeartbeats 2000000 in
theorem waitWakes_walk (a0 : Option Addr) (len0 cap0 : Nat) (z0 : List Int) (a1 : Int) (w : World) (w0 : IsRow .i64 w a0 len0 cap0 z0) (w1 : (Lit.int .i64 a1).wf = true) :
    Calls Try.prog 9 #[.slice a0 len0 cap0, .int .i64 a1] w fun e w' => e = .returned (.bool true) ∧ Below w.heap.size w w' := by
  have hl1 := w0.1.1
  have hl2 := w0.1.2.1
  unfold maxLen at hl2
  have Z3 := hid w0.1.ilen
  have W3 := hid w0.1
  clear w0 w1
  go_enter Try.func9, Try.ntmps9
  go_wp2_with fail
  refine (qbegun_ok _).mono ?_
  rintro e w1 ⟨rfl, c1⟩
  have C1 := hid (Chg.below c1 (fun i hi h => h) (Nat.le_refl _))
  clear c1
  go_wp2_with fail
  refine (qnew_ok _).mono ?_
  rintro e w2 ⟨F, p, rfl, h2, c2, g2⟩
  have hM : Hid (WW w F p [] (fun _ => none) [] none 0 none [] none 0 none w2) := hid ⟨qnew_mem w1 w2 F p w C1.out h2 c2 g2, Sl.empty _ _ _ _, Sl.empty _ _ _ _, (fun g h => by cases h), (fun g h => by cases h), fun g h => by cases h⟩
  clear h2 c2 g2 C1
  go_upto_region 5 with fail
  go_cut [23, 24, 25] (fun s23 s24 s25 wx => wx = w2 ∧ ∃ N : Nat, N ≤ 40 ∧ N ≤ len0 ∧ s23 = .slice a0 N cap0 ∧ s24 = .int .i64 N ∧ s25 = .int .i64 0)
  case first =>
    go_wp2
    go_meet
    exact ⟨rfl, (min (len0 : Int) 40).toNat, by omega, by omega, rfl, by congr 1; omega, rfl⟩
  case rest =>
    obtain ⟨rfl, N, hN1, hN2, rfl, rfl, rfl⟩ := hcut
    go_wp2
    go_loopw [6, 7, 25] (fun s6 s7 s25 wr => ∃ (k nA nB cA cB : Nat) (F : Nat → Prop) (l : List WT) (aA aB : Option Addr) (GA GB : Option Nat), k ≤ N ∧ s25 = .int .i64 k ∧ s6 = .slice aA nA cA ∧ s7 = .slice aB nB cB ∧ nA ≤ k ∧ nB ≤ nA ∧ Hid (nA = (l.map WT.t).length ∧ nB = (alT l).length) ∧ Hid (WW w F p l (fun _ => none) (l.map WT.t) aA cA GA (alT l) aB cB GB wr)) (fun _ _ s25 _ => N - (intOf s25).toNat)
    case atStart => exact ⟨0, 0, 0, 0, 0, F, [], none, none, none, none, by omega, rfl, rfl, rfl, by omega, by omega, ⟨rfl, rfl⟩, hM⟩
    case round =>
      clear hM
      obtain ⟨k, nA, nB, cA, cB, F, l, aA, aB, GA, GB, hk, rfl, rfl, rfl, hnA, hnB, HL, hW⟩ := hrel
      have hll : l.length ≤ 40 := by have := HL.out.1; rw [List.length_map] at this; omega
      by_cases hlt : k < N
      · have hz : k < z0.length := by have := Z3.out; omega
        obtain ⟨g, off, rfl, _, _, hc⟩ := (W3.out.below hW.out.q.bel (fun _ h => h)).at hz
        have hc1 := hc k hz
        clear hc
        generalize z0[k] = z at hc1
        go_wp2_with fail
        refine (wprest_nat _ 16 _ (by omega) (by omega)).mono ?_
        rintro e w4 ⟨t, ht, _, rfl, rfl⟩
        go_wp2_with fail
        refine (wprest_nat z 2 _ (by omega) (by omega)).mono ?_
        rintro e w4 ⟨y, hy, hyr, rfl, rfl⟩
        have HYR := hid hyr
        clear hyr
        have HCT : Hid (∀ W, Rd W (Opt GA) 1 aA nA cA (ints .i64 (l.map WT.t)) → Calls Try.prog 21 #[.slice aA nA cA, .int .i64 ((1 : Int) + t)] W fun e w' => e = .returned (.bool (waits l ((1 : Int) + t))) ∧ W = w') := hid (fun W hR => by
          rw [← waits_has]
          exact contains_int _ _ _ _ _ _ _ hR (by omega))
        have hS2 := hW.out.sa
        rw [← HL.out.1] at hS2
        replace hS2 := hid hS2
        by_cases hin : waits l ((1 : Int) + t) = true
        · have HA := hid (qadd_has wr F p l 0 0 (fun _ => none) ((1 : Int) + t) ((y : Int) == 0) hW.out.q.q (by omega) (by omega) (by omega) hin)
          have HIN := hid hin
          clear hin
          go_wp2_with fail
          refine HA.out.mono ?_
          rintro e w5 ⟨F5, rfl, h5, c5, g5⟩
          have hW5 := hid (hW.out.step h5 c5 g5)
          have hS5 := hW5.out.sa
          rw [← HL.out.1] at hS5
          replace hS5 := hid hS5.rd
          clear h5 c5 g5 HA
          go_wp2_with fail
          refine (HCT.out w5 hS5.out).mono ?_
          rw [HIN.out]
          rintro e w6 ⟨rfl, rfl⟩
          go_wp2
          go_roundw
          case rel => exact ⟨k + 1, nA, nB, cA, cB, F5, l, aA, aB, GA, GB, by omega, by go_num, rfl, rfl, by omega, hnB, HL, hW5⟩
          case measure => simp [intOf]; omega
        · have hin2 : waits l ((1 : Int) + t) = false := by simpa using hin
          have HA := hid (qadd_ok wr F p l 0 0 (fun _ => none) ((1 : Int) + t) ((y : Int) == 0) hW.out.q.q (by omega) (by omega) (by omega) hin2)
          have HIN := hid hin2
          clear hin hin2
          go_wp2_with fail
          refine HA.out.mono ?_
          rintro e w5 ⟨F5, rfl, h5, c5, g5⟩
          have hW5 := hid (hW.out.step h5 c5 g5)
          have hS5 := hW5.out.sa
          rw [← HL.out.1] at hS5
          replace hS5 := hid hS5
          clear h5 c5 g5 HA
          go_wp2_with fail
          refine (HCT.out w5 hS5.out.rd).mono ?_
          rw [HIN.out]
          rintro e w6 ⟨rfl, rfl⟩
          have S8 := hid (hS5.out.alloc (.cells #[.int .i64 ((1 : Int) + t)] 3))
          have N8 := hid (Rd.of_blk (n := 1) (s := 1) (Blk.new w5 3 (ints .i64 [(1 : Int) + t])) rfl (by decide))
          go_wp2_with (first | (at_builtin; refine wpList_append_sl rfl _ _ eInt rfl rfl rfl S8.out N8.out (ints_one _ _) (by omega) (by omega) ?_; intro a' c' w9 G' y1 y2 y3; replace y1 := hid y1; replace y2 := hid y2; replace y3 := hid y3) | fail)
          refine (wprest_nat z 2 _ (by omega) (by omega)).mono ?_
          rintro e w10 ⟨y5, hy5, hyr5, rfl, rfl⟩
          obtain rfl : y5 = y := by have := HYR.out; omega
          have y4 := y1.out
          rw [HL.out.1] at y4
          have hW9 := (hW5.out.nil ((Chg.refl Nil w5).alloc (.cells #[.int .i64 ((1 : Int) + t)] 3))).putA y4 y2.out y3.out
          have hmp : l.map WT.t ++ [(1 : Int) + t] = (l ++ [WT.mk ((1 : Int) + t) ((y5 : Int) == 0)]).map WT.t := by simp
          rw [hmp] at hW9
          have HMP : Hid (nA + 1 = ((l ++ [WT.mk ((1 : Int) + t) ((y5 : Int) == 0)]).map WT.t).length) := hid (by rw [HL.out.1]; simp)
          have hap := alT_push l ((1 : Int) + t) ((y5 : Int) == 0)
          replace hW9 := hid hW9
          clear y4 hmp hyr5
          by_cases hy0 : y5 = 0
          · have hb0 : ((y5 : Int) == 0) = true := by rw [beq_iff_eq]; omega
            rw [hb0] at hap hW9 HMP
            simp only [if_true] at hap
            have hsb := hW9.out.sb
            rw [← HL.out.2] at hsb
            have S9 := hid (hsb.alloc (.cells #[.int .i64 ((1 : Int) + t)] 3))
            have N9 := hid (Rd.of_blk (n := 1) (s := 1) (Blk.new w9 3 (ints .i64 [(1 : Int) + t])) rfl (by decide))
            have HAP := hid hap
            clear hap hsb hy0
            go_wp2_with (at_builtin; refine wpList_append_sl rfl _ _ eInt rfl rfl rfl S9.out N9.out (ints_one _ _) (by omega) (by omega) ?_; intro a2' c2' w11 G2' x1 x2 x3; replace x1 := hid x1; replace x2 := hid x2; replace x3 := hid x3)
            go_roundw
            case rel =>
              have x4 := x1.out
              rw [HL.out.2] at x4
              have hW11 := (hW9.out.nil ((Chg.refl Nil w9).alloc (.cells #[.int .i64 ((1 : Int) + t)] 3))).putB x4 x2.out x3.out
              rw [← HAP.out] at hW11
              exact ⟨k + 1, nA + 1, nB + 1, c', c2', F5, _, a', a2', G', G2', by omega, by go_num, rfl, rfl, by omega, by omega, ⟨HMP.out, by rw [HAP.out, HL.out.2]; simp⟩, hW11⟩
            case measure => simp [intOf]; omega
          · have hb0 : ((y5 : Int) == 0) = false := by rw [beq_eq_false_iff_ne]; omega
            rw [hb0] at hap hW9 HMP
            simp only [Bool.false_eq_true, if_false, List.append_nil] at hap
            have HAP := hid hap
            clear hap hy0
            go_wp2
            go_roundw
            case rel =>
              have hW10 := hW9.out
              rw [← HAP.out] at hW10
              exact ⟨k + 1, nA + 1, nB, c', cB, F5, _, a', aB, G', GB, by omega, by go_num, rfl, rfl, by omega, by omega, ⟨HMP.out, by rw [HAP.out]; exact HL.out.2⟩, hW10⟩
            case measure => simp [intOf]; omega
      · go_wp2_with fail
        refine (wprest_nat _ 20 _ (by omega) (by omega)).mono ?_
        rintro e w4 ⟨m, hm, _, rfl, rfl⟩
        have HWK := hid (qwake_ok wr F p l 0 0 (fun _ => none) m hW.out.q.q (by omega) (by omega) (by omega) (by omega))
        obtain ⟨nO, hnO⟩ : ∃ nO, nO = (wkOut m l).length := ⟨_, rfl⟩
        obtain ⟨nL, hnL⟩ : ∃ nL, nL = (wkLeft m l).length := ⟨_, rfl⟩
        have hwl := wk_len m l
        have hle := wkLeft_eq m l
        have hal : (alT l).length = (l.filter WT.al).length := by simp [alT]
        have hLm : (wkLeft m l).map WT.t = (alT l).drop m := by rw [hle, alT, List.map_drop]
        have hnL2 : nL = nB - m := by rw [hnL, hle, List.length_drop, ← hal, ← HL.out.2]
        have hla : l.length = nA := by have := HL.out.1; rw [List.length_map] at this; exact this.symm
        obtain ⟨K, hK1, hK2, hK3⟩ : ∃ K : Nat, K ≤ nB ∧ min (m : Int) (nB : Int) = (K : Int) ∧ (alT l).drop m = (alT l).drop K := by
          by_cases hmn : m ≤ nB
          · exact ⟨m, hmn, by omega, rfl⟩
          · refine ⟨nB, Nat.le_refl _, by omega, ?_⟩
            rw [List.drop_eq_nil_of_le (by rw [← HL.out.2]; omega), List.drop_eq_nil_of_le (by rw [← HL.out.2]; omega)]
        have hne : ((nO : Int) != (nA : Int) - (nB : Int) + (K : Int)) = false := by rw [bne_eq_false_iff_eq]; omega
        have hO40 : nO ≤ 40 := by omega
        unfold PWake at HWK
        rw [← hnO] at HWK
        have HNL := hid hnL
        have HLM := hid (hLm.trans hK3)
        have HPM := hid (sortI_perm (wk_perm m l))
        have HNO := hid hnO
        clear hnO hnL hle hal hLm hnL2 hK3 hwl
        go_wp2_with fail
        refine HWK.out.mono ?_
        rintro e w5 ⟨F5, aO, cO, GO, rfl, sO, q5, c5, g5, nn5⟩
        have hQ5 := hid (hW.out.q.step q5 c5 g5)
        have SA5 := hid (hW.out.sa.chg c5 (fun g hG => (hW.out.ga g hG).1))
        have SB5 := hid (hW.out.sb.chg c5 (fun g hG => (hW.out.gb g hG).1))
        have SO5 := hid sO
        have HLS := hid (qlist_ok w5 F5 p (wkLeft m l) (0 + 1) 0 (fun _ => none) q5 (by have := HNL.out; have := wk_len m l; omega))
        have HGA : Hid (∀ g, GA = some g → g < wr.heap.size ∧ w.heap.size ≤ g) := hid (fun g hg => ⟨hW.out.sa.lt g hg, (hW.out.ga g hg).2⟩)
        clear sO q5 c5 g5 nn5 HWK hW
        go_wp2_with fail
        refine HLS.out.mono ?_
        unfold PList
        rw [← HNL.out]
        rintro e w6 ⟨aL, cL, GL, rfl, sL, c6, nn6⟩
        have hB6 := hid (hQ5.out.nil c6).bel
        have SA6 := SA5.out.chg c6 (fun _ _ h => h)
        have SB6 := SB5.out.chg c6 (fun _ _ h => h)
        have SO6 := hid (SO5.out.chg c6 (fun _ _ h => h))
        rw [← HL.out.1] at SA6
        rw [← HL.out.2] at SB6
        rw [HLM.out] at sL
        have RB := SB6.rd.drop_n (k := K) hK1
        rw [Nat.mul_one] at RB
        rw [show (ints .i64 (alT l)).drop K = ints .i64 ((alT l).drop K) by simp [ints]] at RB
        have RB6 := hid RB
        have RL6 := hid sL.rd
        have SA6' := hid SA6
        have hslK := run_from eInt aB nB cB K (K : Int) rfl hK1
        have hnL40 : nL ≤ 40 := by have := HNL.out; have := wk_len m l; omega
        have hSZ : w.heap.size ≤ w6.heap.size := hB6.out.size
        have SL6 := hid sL
        clear SA6 SB6 sL RB HLS c6 nn6 hQ5 SA5 SB5 SO5
        go_wp2_with fail
        refine (equal_int _ _ _ _ _ _ _ _ ((alT l).drop K) ((alT l).drop K) _ RL6.out RB6.out (by omega) (by omega)).mono ?_
        rw [eqI_true rfl]
        rintro e w7 ⟨rfl, q7, hw7⟩
        have SO7 : Hid (Sl w7 3 1 aO nO cO (ints .i64 (wkOut m l)) GO) := hid (by rw [hw7]; exact SO6.out.drewN q7)
        have SL7 : Hid (Sl w7 3 1 aL nL cL (ints .i64 ((alT l).drop K)) GL) := hid (by rw [hw7]; exact SL6.out.drewN q7)
        have SA7 : Hid (Sl w7 3 1 aA nA cA (ints .i64 (l.map WT.t)) GA) := hid (by rw [hw7]; exact SA6'.out.drewN q7)
        have hB7 : Hid (Below w.heap.size w w7) := hid (by rw [hw7]; exact hB6.out.trans (((Chg.refl Nil w6).drewN q7).below (fun i hi h => h) hB6.out.size))
        clear hw7 SO6 SL6 SA6' hB6 RL6 RB6 hSZ
        have HC := concat_int (fun _ => True) _ _ 2 2 [⟨aO, nO, cO, ints .i64 (wkOut m l)⟩, ⟨aL, nL, cL, ints .i64 ((alT l).drop K)⟩] _ (Rd.of_blk (n := 2) (s := 1) (Blk.new w7 22 [.slice aO nO cO, .slice aL nL cL]) rfl (by decide)) (fun q hq => by
          simp at hq
          rcases hq with rfl | rfl
          · exact ⟨(SO7.out.alloc _).rd.mono (fun _ _ => trivial), ints_one _ _⟩
          · exact ⟨(SL7.out.alloc _).rd.mono (fun _ _ => trivial), ints_one _ _⟩) (by decide) (by simp [partsLen]; omega)
        have HPL : partsLen [⟨aO, nO, cO, ints .i64 (wkOut m l)⟩, ⟨aL, nL, cL, ints .i64 ((alT l).drop K)⟩] = nO + nL := by simp [partsLen]
        have HPC : partsCells [⟨aO, nO, cO, ints .i64 (wkOut m l)⟩, ⟨aL, nL, cL, ints .i64 ((alT l).drop K)⟩] = ints .i64 (wkOut m l ++ (alT l).drop K) := by simp [partsCells, ints]
        rw [HPL, HPC] at HC
        replace HC := hid HC
        clear HPL HPC
        go_wp2_with fail
        refine HC.out.mono ?_
        rintro e w8 ⟨a8, c8, G8, rfl, t1, t2, t3⟩
        have ct : Chg Nil w7 w8 := ((Chg.refl Nil w7).alloc _).trans t2 (fun _ _ h => h)
        have SA8 := hid (SA7.out.chg ct (fun _ _ h => h))
        have hB8 := hid (hB7.out.trans (ct.below (fun i hi h => h) hB7.out.size))
        have S8 := hid t1
        have N8 : Hid (∀ g, G8 = some g → w7.heap.size ≤ g) := hid (fun g hg => by have := t3 g hg; simp at this; omega)
        clear t1 t2 t3 ct HC
        go_wp2_with fail
        refine (sort_ints a8 (nO + nL) c8 _ G8 w8 S8.out (by omega)).mono ?_
        rintro e w9 ⟨rfl, t1, t2⟩
        have S9 := hid t1
        have SA9 := hid (SA8.out.chg t2 (fun g hg h => by have := N8.out g h; have := SA7.out.lt g hg; omega))
        have hB9 := hid (hB8.out.trans (t2.below (fun k hk h => by have := N8.out k h; have := hB7.out.size; omega) hB8.out.size))
        clear t1 t2
        go_wp2_with fail
        refine (sort_ints aA nA cA _ GA w9 SA9.out (by omega)).mono ?_
        rintro e w10 ⟨rfl, t1, t2⟩
        have RA := hid t1.rd
        have R9 := hid ((S9.out.chg t2 (fun g hg h => by have := N8.out g hg; have := SA7.out.lt g h; omega)).rd)
        have hB10 := hid (hB9.out.trans (t2.below (fun k hk h => by have := (HGA.out k h).2; omega) hB9.out.size))
        have heq : eqI (sortI (wkOut m l ++ (alT l).drop K)) (sortI (l.map WT.t)) = true := eqI_true (by rw [← HLM.out]; exact HPM.out)
        have HEQ := hid heq
        clear t1 t2 heq
        go_wp2_with fail
        refine (equal_int _ _ _ _ _ _ _ _ (sortI (wkOut m l ++ (alT l).drop K)) (sortI (l.map WT.t)) _ R9.out RA.out (by omega) (by omega)).mono ?_
        rw [HEQ.out]
        rintro e w11 ⟨rfl, q11, rfl⟩
        go_wp2
        go_ret
        exact ⟨rfl, hB10.out.trans (((Chg.refl Nil w10).drewN q11).below (fun i hi h => h) hB10.out.size)⟩
end Go.Proofs.Ythbkmjigplolgaa
