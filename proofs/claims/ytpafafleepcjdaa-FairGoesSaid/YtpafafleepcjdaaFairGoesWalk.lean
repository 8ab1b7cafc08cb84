/- The walk of the law FairGoes: it returns true and changes nothing that was there. No condition. -/
import Derived.Test.YtpafafleepcjdaaFairLeave
import Derived.Test.YtpafafleepcjdaaGoesP
import Derived.Deep.CutBlock
namespace Go.Proofs.Ytpafafleepcjdaa
open Go.ChangeShapes Go.WideShapes Go.ChangeAt Go.RowKit
set_option linter.unusedVariables false
/-- What is to become of the i-th. -/
def code (o : Int) (i : Nat) : Int := bits .and .i64 (o / 2 ^ (2 * i)) 3
set_option maxRecDepth 100000 in
set_option maxHeartbeats 4000000 in
theorem fairGoes_walk (a0 : Option Addr) (len0 cap0 : Nat) (z0 : List Int) (a1 a2 : Int) (w : World) (w0 : IsRow .i64 w a0 len0 cap0 z0) (w1 : (Lit.int .i64 a1).wf = true) (w2 : (Lit.int .i64 a2).wf = true) :
    Calls Try.prog 7 #[.slice a0 len0 cap0, .int .i64 a1, .int .i64 a2] w fun e w' => e = .returned (.bool true) ∧ Below w.heap.size w w' := by
  have hl1 := w0.1.1
  have hl2 := w0.1.2.1
  unfold maxLen at hl2
  have Z0 := hid w0.1.ilen
  have W0 := hid w0.1
  clear w0
  go_enter Try.func7, Try.ntmps7
  go_wp2_with fail
  refine (fbegun_ok _).mono ?_
  rintro e w1 ⟨rfl, c1⟩
  have C1 := hid (Chg.below c1 (fun i hi h => h) (Nat.le_refl _))
  clear c1
  go_upto_region 3 with fail
  go_cut [0] (fun s0 wx => wx = w1 ∧ ∃ N : Nat, N ≤ 16 ∧ N ≤ len0 ∧ s0 = .slice a0 N cap0)
  case first =>
    go_wp2
    · go_meet
      exact ⟨rfl, 16, by omega, by omega, rfl⟩
    · go_meet
      exact ⟨rfl, len0, by omega, by omega, by simp⟩
  case rest =>
    obtain ⟨rfl, N, hN1, hN2, rfl⟩ := hcut
    obtain ⟨zs, hzs⟩ : ∃ zs, zs = z0.take N := ⟨_, rfl⟩
    have hzl : zs.length = N := by rw [hzs, List.length_take, Z0.out]; omega
    have hR : Rd w (Upto w.heap.size) 1 a0 N cap0 (ints .i64 zs) := by
      have := W0.out.take_n (k := N) hN2
      have e : (ints .i64 z0).take (N * 1) = ints .i64 zs := by rw [hzs]; simp [ints, List.map_take]
      rwa [e] at this
    have HR := hid hR
    clear hR hzs W0 Z0
    go_wp2_with fail
    refine (fairs_ok _ _ _ _ zs _ (HR.out.below C1.out (fun _ h => h)) hN1).mono ?_
    rintro e w2 ⟨F, p, rfl, h2⟩
    rw [hzl] at h2
    have hM : FMem w.heap.size w F p (mkF zs N) w2 := ⟨h2.fair, fun k hk => by have := h2.new k hk; have := C1.out.size; omega, C1.out.trans (h2.bel.mono C1.out.size), Nat.le_trans C1.out.size h2.sz⟩
    have hG := hid (gi_new zs N hN1 (code a1))
    replace hM := hid hM
    clear h2 C1 HR hzl
    go_wp2
    go_loopw [9, 29] (fun s9 s29 wr => ∃ (k R : Nat) (F : Nat → Prop) (ts : List FT), k ≤ N ∧ R ≤ k ∧ s9 = .int .i64 R ∧ s29 = .int .i64 k ∧ Hid (Few (code a1) k R) ∧ Hid (GI 0 N k (code a1) ts) ∧ Hid (FMem w.heap.size w F p ts wr)) (fun _ s29 _ => N - (intOf s29).toNat)
    case atStart => exact ⟨0, 0, F, _, by omega, by omega, rfl, rfl, ⟨fun _ i hi => absurd hi (by omega), fun h => absurd rfl h⟩, hG, hM⟩
    case round =>
      clear hG hM
      obtain ⟨k, R, F, ts, hk, hRk, rfl, rfl, hW, hG, hM⟩ := hrel
      by_cases hlt : k < N
      · obtain ⟨i, x, hx, hxt, hxr, hoth⟩ := hG.out.find hlt
        have hnu : NumF ts i x ((k : Int) + 1) := ⟨hx, by omega, fun j y hj hy => by have := hoth j y (by omega) hy; omega⟩
        have HX := hid hx
        have HXR := hid hxr
        have HNU := hid hnu
        have HOT := hid hoth
        have HXT := hid hxt
        have htl : ts.length ≤ 1000 := by have := hG.out.len; omega
        clear hx hxt hxr hoth hnu
        have hC : bits .and .i64 (a1 / 2 ^ (2 * k)) 3 = code a1 k := rfl
        have hC3 := and3 (a1 / 2 ^ (2 * k))
        rw [hC] at hC3
        have HCC : Hid (∀ c, code a1 k = c → code a1 k = c) := fun _ h => h
        obtain ⟨C, hCC⟩ : ∃ C, C = code a1 k := ⟨_, rfl⟩
        rw [← hCC] at hC hC3
        have HC := hid hCC
        clear hCC HCC
        by_cases hc0 : C = 0
        · subst hc0
          go_wp2_with fail
          refine (fblock_ok _ F p ts i x _ hM.out.fair htl HNU.out).mono ?_
          rintro e w3 ⟨rfl, h3, c3⟩
          rw [HXR.out]
          simp only [if_true]
          have hM3 := hid (hM.out.step h3 c3 (Grew.refl _ _))
          have hG3 := hid (hG.out.block HC.out.symm HX.out HXT.out HOT.out)
          have hil : i < ts.length := (List.getElem?_eq_some_iff.1 HX.out).1
          have hnu3 : NumF (ts.set i { x with r := false }) i { x with r := false } ((k : Int) + 1) := ⟨List.getElem?_set_self hil, HNU.out.2.1, fun j y hj hy => by rw [List.getElem?_set_ne (by omega)] at hy; exact HNU.out.2.2 j y hj hy⟩
          have HNU3 := hid hnu3
          have htl3 : (ts.set i { x with r := false }).length ≤ 1000 := by rw [List.length_set]; exact htl
          clear h3 c3 hnu3
          go_wp2_with fail
          refine (fblock_ok _ F p _ i { x with r := false } _ hM3.out.fair htl3 HNU3.out).mono ?_
          rintro e w4 ⟨rfl, h4, c4⟩
          rw [set_set] at h4
          have hM4 := hid (hM3.out.step h4 c4 (Grew.refl _ _))
          clear h4 c4
          simp only [Bool.false_eq_true, if_false]
          have HW2 := hid (few_same hW.out (.inl HC.out.symm))
          go_wp2
          go_roundw
          case rel => exact ⟨k + 1, R, F, _, by omega, by omega, rfl, by go_num, HW2, hG3, hM4⟩
          case measure => simp [intOf]; omega
        · by_cases hc1 : C = 1
          · subst hc1
            obtain ⟨g1, g2⟩ := hG.out.leave HC.out.symm HX.out HXT.out HOT.out
            have hG3 := hid g1
            have HAB : Hid (∀ y ∈ ts.eraseIdx i, (y.t : Int) ≠ (k : Int) + 1) := fun y hy he => g2 y hy (by omega)
            have htl3 : (ts.eraseIdx i).length ≤ 1000 := by have := g1.len; omega
            clear g1 g2
            go_wp2_with fail
            refine (fleave_ok _ F p ts i x _ hM.out.fair htl HNU.out).mono ?_
            rintro e w3 ⟨F3, rfl, h3, c3, d3⟩
            have hM3 := hid (hM.out.step h3 c3 d3)
            clear h3 c3 d3
            go_wp2_with fail
            refine (fleave_no _ F3 p _ _ hM3.out.fair htl3 HAB.out).mono ?_
            rintro e w4 ⟨rfl, rfl⟩
            have HW2 := hid (few_same hW.out (.inr HC.out.symm))
            go_wp2
            go_roundw
            case rel => exact ⟨k + 1, R, F3, _, by omega, by omega, rfl, by go_num, HW2, hG3, hM3⟩
            case measure => simp [intOf]; omega
          · have b0 : (C == 0) = false := by rw [beq_eq_false_iff_ne]; exact hc0
            have b1 : (C == 1) = false := by rw [beq_eq_false_iff_ne]; exact hc1
            have hk0 : code a1 k ≠ 0 := by rw [← HC.out]; exact hc0
            have hk1 : code a1 k ≠ 1 := by rw [← HC.out]; exact hc1
            have HW2 := hid (few_more (R := R) hk0 hk1)
            have hG3 := hid (hG.out.skip hk0 hk1)
            clear hk0 hk1
            replace hc0 := hid hc0
            replace hc1 := hid hc1
            go_wp2
            go_roundw
            case rel => exact ⟨k + 1, R + 1, F, _, by omega, by omega, by go_num, by go_num, HW2, hG3, hM⟩
            case measure => simp [intOf]; omega
      · obtain rfl : k = N := by omega
        have r1 := rest_nonneg a2 100 (by omega)
        have r2 := rest_lt a2 100 (by omega)
        obtain ⟨T, hT⟩ := Int.eq_ofNat_of_zero_le r1
        rw [hT] at r2
        replace hT := hid hT
        clear r1
        go_wp2_with fail
        refine (rest_any _ _ _ (by omega) (by omega)).mono ?_
        rw [hT.out]
        rintro e w3 ⟨rfl, rfl⟩
        go_wp2
        go_loopw [70] (fun s70 wr => ∃ (m V : Nat) (ts : List FT), m ≤ T ∧ V = m * 1048576 ∧ s70 = .int .i64 m ∧ Hid (GI V k k (code a1) ts) ∧ Hid (FMem w.heap.size w F p ts wr)) (fun s70 _ => T - (intOf s70).toNat)
        case atStart => exact ⟨0, 0, _, by omega, by omega, rfl, hG, hM⟩
        case round =>
          clear hG hM
          obtain ⟨m, V, ts, hm, hV, rfl, hG, hM⟩ := hrel
          have hVb : V ≤ 1000000000000000 := by omega
          have HV := hid hV
          clear hV
          by_cases hlt2 : m < T
          · have htl : ts.length ≤ 1000 := by have := hG.out.len; omega
            go_wp2_with fail
            refine (ftick_ok _ F p V ts hM.out.fair htl hVb hG.out.ok).mono ?_
            rintro e w4 ⟨b, hb, rfl, h4, c4⟩
            have hM4 := hid (hM.out.step h4 c4 (Grew.refl _ _))
            clear h4 c4
            by_cases hR0 : R = 0
            · obtain rfl := hG.out.none hW.out hR0 hb
              subst hR0
              simp only [numF, Option.isSome_none]
              go_wp2
              go_ret
              exact ⟨rfl, hM4.out.bel⟩
            · obtain ⟨j, y, rfl, hy, y1, y2, y3, y4⟩ := hG.out.some hW.out hR0 hb
              have hnum : numF ts (some j) = y.t := by simp [numF, hy]
              rw [hnum]
              simp only [Option.isSome_some, if_true]
              have hG4 := hid (hG.out.tick (some j))
              have hb0 : ((R : Int) == 0) = false := by rw [beq_eq_false_iff_ne]; omega
              have hc3 := and3 (a1 / 2 ^ (2 * (y.t - 1)))
              have hC : bits .and .i64 (a1 / 2 ^ (2 * (y.t - 1))) 3 = code a1 (y.t - 1) := rfl
              rw [hC] at hc3
              generalize code a1 (y.t - 1) = C at *
              have hC2 : 2 ≤ C := by omega
              have hsh : (2 * ((y.t : Int) - 1)).toNat = 2 * (y.t - 1) := by omega
              clear y3 y4 hnum
              replace hb := hid hb
              replace hy := hid hy
              replace hR0 := hid hR0
              go_wp2
              go_roundw
              case rel => exact ⟨m + 1, V + 1048576, _, by omega, by have := HV.out; omega, by go_num, hG4, hM4⟩
              case measure => simp [intOf]; omega
          · go_wp2
            go_ret
            exact ⟨rfl, hM.out.bel⟩
end Go.Proofs.Ytpafafleepcjdaa
