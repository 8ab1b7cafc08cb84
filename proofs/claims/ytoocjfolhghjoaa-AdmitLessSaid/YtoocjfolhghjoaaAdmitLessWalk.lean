/- The walk of the law AdmitLess: it returns true and changes nothing that was there. No condition. -/
import Derived.Test.YtoocjfolhghjoaaAdmitMore
namespace Go.Proofs.Ytoocjfolhghjoaa
open Go.ChangeShapes Go.WideShapes Go.ChangeAt Go.RowKit
set_option linter.unusedVariables false
def ALInv (w0 : World) (l : List Use) (a : Option Addr) (c : Nat) (w : World) : Prop :=
  ∃ G, (∀ u ∈ l, u.ok) ∧ Sl w 35 2 a l.length c (l.flatMap useCells) G ∧ Below w0.heap.size w0 w ∧ ∀ g, G = some g → w0.heap.size ≤ g
set_option maxRecDepth 100000 in
set_option maxHeartbeats 2000000 in
theorem admitLess_walk (a0 : Option Addr) (len0 cap0 : Nat) (z0 : List Int) (a1 a2 : Int) (w : World) (w0 : IsRow .i64 w a0 len0 cap0 z0) (w1 : (Lit.int .i64 a1).wf = true) (w2 : (Lit.int .i64 a2).wf = true) :
    Calls Try.prog 4 #[.slice a0 len0 cap0, .int .i64 a1, .int .i64 a2] w fun e w' => e = .returned (.bool true) ∧ Below w.heap.size w w' := by
  have hl1 := w0.1.1
  have hl2 := w0.1.2.1
  unfold maxLen at hl2
  have Z1 := hid w0.1.ilen
  have W0 := hid w0.1
  clear w0
  go_enter Try.func4, Try.ntmps4
  go_wp2_with fail
  refine (begun_ok _).mono ?_
  rintro e w1 ⟨rfl, c1⟩
  have hI : ALInv w [] none 0 w1 := ⟨none, by simp, Sl.empty _ _ _ _, below_nil (Below.refl _ w) c1, fun g h => by cases h⟩
  replace hI := hid hI
  clear c1
  go_upto_region 4 with fail
  go_cut [26, 27, 28] (fun s26 s27 s28 wx => wx = w1 ∧ ∃ N : Nat, N ≤ 16 ∧ N ≤ len0 ∧ s26 = .slice a0 N cap0 ∧ s27 = .int .i64 N ∧ s28 = .int .i64 0)
  case first =>
    go_wp2
    · go_meet
      exact ⟨rfl, 16, by omega, by omega, rfl, rfl, rfl⟩
    · go_meet
      exact ⟨rfl, len0, by omega, by omega, by simp, by simp, rfl⟩
  case rest =>
    obtain ⟨rfl, N, hN1, hN2, rfl, rfl, rfl⟩ := hcut
    go_wp2
    go_loopw [7, 28] (fun s7 s28 wr => ∃ (l : List Use) (a : Option Addr) (c : Nat), l.length ≤ N ∧ s28 = .int .i64 l.length ∧ s7 = .slice a l.length c ∧ Hid (ALInv w l a c wr)) (fun _ s28 _ => N - (intOf s28).toNat)
    case atStart => exact ⟨[], none, 0, by simp, rfl, rfl, hI⟩
    case round =>
      obtain ⟨l, a, c, hk, rfl, rfl, hJ⟩ := hrel
      clear hI
      obtain ⟨G, i1, i2, i3, i4⟩ := id hJ.out
      replace i1 := hid i1
      replace i3 := hid i3
      replace i4 := hid i4
      by_cases hlt : l.length < N
      · have hz : l.length < z0.length := by have := Z1.out; omega
        obtain ⟨g, off, rfl, _, _, hc⟩ := (W0.out.chg (Chg.of_below i3.out Nil) (fun _ _ _ h => h)).at hz
        have hc1 := hc l.length hz
        clear hc
        obtain ⟨z, hzz⟩ : ∃ z, z = z0[l.length] := ⟨_, rfl⟩
        rw [← hzz] at hc1
        replace hzz := hid hzz
        go_wp2_with fail
        refine (rest_nat _ 12 _ (by omega) (by omega)).mono ?_
        rintro e w2 ⟨q, hq, rfl, rfl⟩
        obtain ⟨p, hp⟩ : ∃ p : Nat, 1 + (q : Int) = (p : Int) := ⟨q + 1, by omega⟩
        have hp1 : 1 ≤ p := by omega
        have hp2 : p ≤ 30 := by omega
        go_wp2_with fail
        refine (rest_nat _ (p : Int) _ (by omega) (by omega)).mono ?_
        rintro e w2 ⟨q', hq', rfl, rfl⟩
        obtain ⟨m, hm⟩ : ∃ m : Nat, 1 + (q' : Int) = (m : Int) := ⟨q' + 1, by omega⟩
        have hm1 : 1 ≤ m := by omega
        have hm2 : m ≤ p := by omega
        have huo : (Use.mk m p).ok := ⟨hm1, hm2, hp2⟩
        have HU1 : Hid (∀ u ∈ [Use.mk m p], u.ok) := fun u hu => by rw [List.mem_singleton.1 hu]; exact huo
        have hft : decide (fit [Use.mk m p] 1) = true := decide_eq_true (fit_one _ huo)
        have hB := Rd.of_blk (n := 1) (s := 2) (Blk.new (wr.alloc (.cells #[.int .i64 m, .int .i64 p] 35)) 35 (useCells ⟨m, p⟩)) rfl (by decide)
        rw [show (wr.alloc (.cells #[.int .i64 m, .int .i64 p] 35)).heap.size = wr.heap.size + 1 by simp] at hB
        replace hB := hid hB
        replace hft := hid hft
        replace huo := hid huo
        go_wp2_with fail
        refine (fits_n _ _ 1 1 [Use.mk m p] 1 _ rfl hB.out (by simp) HU1.out (by omega) (by omega) _ hft.out).mono ?_
        rintro e w3 ⟨rfl, c3⟩
        have hcc := push_chg c3
        have hc0 := Blk.new wr 35 [.int .i64 m, .int .i64 p]
        have hc4 := hc0.chg hcc (fun h => h)
        have C4 := push_chg hcc
        have e0 := hc4.cell 0
        have e1 := hc4.cell 1
        simp only [List.getElem?_cons_succ, List.getElem?_cons_zero] at e0 e1
        clear c3 hcc hc0 hc4
        have S2 := hid ((i2.chg C4 (fun _ _ h => h)).alloc (.cells #[.int .i64 m, .int .i64 p] 35))
        have N2 := hid (Rd.of_blk (n := 1) (s := 2) (Blk.new w3 35 (useCells ⟨m, p⟩)) rfl (by decide))
        have HA1 : Hid (∀ u ∈ useCells ⟨m, p⟩, u.oneCell' = true) := use_one _
        replace C4 := hid C4
        replace i2 := hid i2
        go_wp2_with (at_builtin; refine wpList_append_sl rfl _ _ eUse rfl rfl rfl S2.out N2.out HA1.out (by omega) (by omega) ?_; intro a' c' w4 G' y1 y2 y3; replace y1 := hid y1; replace y2 := hid y2; replace y3 := hid y3)
        go_roundw
        case rel =>
          refine ⟨l ++ [⟨m, p⟩], a', c', by simp; omega, by simp, by simp, G', ?_, ?_, ?_, ?_⟩
          · intro u hu
            rcases List.mem_append.1 hu with h | h
            · exact i1.out u h
            · rw [List.mem_singleton.1 h]; exact huo.out
          · have := y1.out
            rw [← flat_snoc] at this
            simpa using this
          · exact below_chg (below_nil i3.out C4.out) (push_chg y2.out) i4.out
          · intro g hg
            rcases push_grew y3.out g hg with h | h
            · exact i4.out g h
            · have := (below_nil i3.out C4.out).size; omega
        case measure => simp [intOf]; omega
      · have hl16 : l.length ≤ 16 := by omega
        go_wp2_with fail
        refine (rest_nat _ 3 _ (by omega) (by omega)).mono ?_
        rintro e w2 ⟨q, hq, rfl, rfl⟩
        obtain ⟨m, hm⟩ : ∃ m : Nat, 1 + (q : Int) = (m : Int) := ⟨q + 1, by omega⟩
        have hm1 : 1 ≤ m := by omega
        have hm3 : m ≤ 3 := by omega
        obtain ⟨b1, hb1⟩ : ∃ b, decide (fit l m) = b := ⟨_, rfl⟩
        obtain ⟨b2, hb2⟩ : ∃ b, decide (fit l (m + 1)) = b := ⟨_, rfl⟩
        have hb12 : b1 = true → b2 = true := fun h => by
          rw [← hb2, decide_eq_true_iff]
          exact fit_more (of_decide_eq_true (hb1.trans h)) (by omega)
        have hb1' : decide (fit l ((m : Int)).toNat) = b1 := by rw [Int.toNat_natCast]; exact hb1
        have hb2' : decide (fit l ((m : Int) + 1).toNat) = b2 := by rw [show ((m : Int) + 1).toNat = m + 1 by omega]; exact hb2
        have HB3 : Hid (b1 = true → ∀ i, decide (fit (l.take i ++ l.drop (i + 1)) ((m : Int)).toNat) = true) := fun h i => by
          rw [Int.toNat_natCast, decide_eq_true_iff]
          exact fit_less l i1.out i m (of_decide_eq_true (hb1.trans h))
        have HB4 : Hid (l = [] → b1 = true) := fun h => by
          rw [← hb1, decide_eq_true_iff, h]
          exact fit_nil m (by omega)
        replace hb1 := hid hb1
        replace hb2 := hid hb2
        replace hb1' := hid hb1'
        replace hb2' := hid hb2'
        replace hb12 := hid hb12
        go_wp2_with fail
        refine (fits_n _ _ _ _ l _ _ rfl i2.rd hl16 i1.out (by omega) (by omega) b1 hb1'.out).mono ?_
        rintro e w3 ⟨rfl, c3⟩
        have i2' := i2.chg c3 (fun _ _ h => h)
        replace c3 := hid c3
        replace i2 := hid i2
        go_wp2_with fail
        refine (fits_n _ _ _ _ l _ _ rfl i2'.rd hl16 i1.out (by omega) (by omega) b2 hb2'.out).mono ?_
        rintro e w4 ⟨rfl, c4⟩
        have i5 := i2'.chg c4 (fun _ _ h => h)
        have C4 := hid (c3.out.trans c4 (fun _ _ h => h))
        clear i2' c3 c4
        by_cases h0 : l = []
        · obtain rfl := HB4.out h0
          obtain rfl := hb12.out rfl
          subst h0
          go_wp2
          go_ret
          exact ⟨rfl, below_nil i3.out C4.out⟩
        · have hpos : 0 < l.length := List.length_pos_iff.2 h0
          have hp0 : ((l.length : Int) == 0) = false := by rw [beq_eq_false_iff_ne]; omega
          clear h0
          have hcap := i5.1
          have hcm := i5.2.1
          unfold maxLen at hcm
          have key : ∀ b : Bool, (b1 = true → b = true) → (b1 = false ∨ b = true) := fun b h => by cases b1 <;> simp_all
          replace key := hid key
          cases b1 with
          | true =>
            obtain rfl := hb12.out rfl
            go_wp2_with fail
            refine (rest_nat _ (l.length : Int) _ (by omega) (by omega)).mono ?_
            rintro e w5 ⟨i, hi, rfl, rfl⟩
            have hi' : i < l.length := by omega
            have hic : i ≤ c := by omega
            have hi1 : i + 1 ≤ l.length := by omega
            have hL := hid (show i + (l.length - (i + 1)) = (l.take i ++ l.drop (i + 1)).length by simp; omega)
            have hL16 : (l.take i ++ l.drop (i + 1)).length ≤ 16 := by rw [← hL.out]; omega
            have hn1 : i + (l.length - (i + 1)) ≤ 1000 := by omega
            have hsl := run_from eUse a l.length c (i + 1) ((i : Int) + 1) (by omega) hi1
            have hw1 := IntWalk.i64_in ((i : Int) + 1) (by omega)
            have hA := i5.rd.take_n (k := i) (by omega)
            have hB := i5.rd.drop_n (k := i + 1) hi1
            rw [flat_take useCells 2 use_len] at hA
            rw [flat_drop useCells 2 use_len] at hB
            have hA' := hid (hA.alloc (.cells #[.slice a i c, .slice (adv a c (i + 1) 2) (l.length - (i + 1)) (c - (i + 1))] 24))
            have hB' := hid (hB.alloc (.cells #[.slice a i c, .slice (adv a c (i + 1) 2) (l.length - (i + 1)) (c - (i + 1))] 24))
            have hC := hid (Rd.of_blk (n := 2) (s := 1) (Blk.new w4 24 [.slice a i c, .slice (adv a c (i + 1) 2) (l.length - (i + 1)) (c - (i + 1))]) rfl (by decide))
            clear hA hB
            have HF := hid (HB3.out (by simp) i)
            have HCO := hid (cut_ok i1.out i)
            have o1 : (1 : Int) ≤ m := by omega
            have o2 : (m : Int) ≤ 4 := by omega
            go_wp2
            go_region_held3 (fun _ => True) (exact trivial)
              (first | (go_at_call 18; refine (cat2 _ _ _ _ _ _ _ _ _ _ (l.take i) (l.drop (i + 1)) _ (hC.out.drewN 1) (hA'.out.drewN 1) (hB'.out.drewN 1) hn1).mono ?_; rintro e w6 ⟨a', c', G', rfl, y1, y2, y3⟩; replace y1 := hid y1; replace y2 := hid y2; replace y3 := hid y3) | (go_at_call 17; refine (fits_n _ _ _ _ (l.take i ++ l.drop (i + 1)) _ _ hL.out y1.out.rd hL16 HCO.out o1 o2 _ HF.out).mono ?_; rintro e w7 ⟨rfl, v1⟩; replace v1 := hid v1))
            go_wp2
            go_ret
            exact ⟨rfl, below_nil (below_nil i3.out C4.out) (push_chg (((Chg.refl Nil _).drew).trans (y2.out.trans v1.out (fun _ _ h => h)) (fun _ _ h => h)))⟩
          | false =>
            clear hb12 HB3 HB4
            go_wp2_with fail
            refine (rest_nat _ (l.length : Int) _ (by omega) (by omega)).mono ?_
            rintro e w5 ⟨i, hi, rfl, rfl⟩
            have hi' : i < l.length := by omega
            have hic : i ≤ c := by omega
            have hi1 : i + 1 ≤ l.length := by omega
            have hL := hid (show i + (l.length - (i + 1)) = (l.take i ++ l.drop (i + 1)).length by simp; omega)
            have hL16 : (l.take i ++ l.drop (i + 1)).length ≤ 16 := by rw [← hL.out]; omega
            have hn1 : i + (l.length - (i + 1)) ≤ 1000 := by omega
            have hsl := run_from eUse a l.length c (i + 1) ((i : Int) + 1) (by omega) hi1
            have hw1 := IntWalk.i64_in ((i : Int) + 1) (by omega)
            have hA := i5.rd.take_n (k := i) (by omega)
            have hB := i5.rd.drop_n (k := i + 1) hi1
            rw [flat_take useCells 2 use_len] at hA
            rw [flat_drop useCells 2 use_len] at hB
            have hA' := hid (hA.alloc (.cells #[.slice a i c, .slice (adv a c (i + 1) 2) (l.length - (i + 1)) (c - (i + 1))] 24))
            have hB' := hid (hB.alloc (.cells #[.slice a i c, .slice (adv a c (i + 1) 2) (l.length - (i + 1)) (c - (i + 1))] 24))
            have hC := hid (Rd.of_blk (n := 2) (s := 1) (Blk.new w4 24 [.slice a i c, .slice (adv a c (i + 1) 2) (l.length - (i + 1)) (c - (i + 1))]) rfl (by decide))
            clear hA hB
            obtain ⟨b3, hb3⟩ : ∃ b, decide (fit (l.take i ++ l.drop (i + 1)) ((m : Int)).toNat) = b := ⟨_, rfl⟩
            have HF := hid hb3
            clear hb3
            have HCO := hid (cut_ok i1.out i)
            have o1 : (1 : Int) ≤ m := by omega
            have o2 : (m : Int) ≤ 4 := by omega
            go_wp2
            go_region_held3 (fun _ => True) (exact trivial)
              (first | (go_at_call 18; refine (cat2 _ _ _ _ _ _ _ _ _ _ (l.take i) (l.drop (i + 1)) _ (hC.out.drewN 1) (hA'.out.drewN 1) (hB'.out.drewN 1) hn1).mono ?_; rintro e w6 ⟨a', c', G', rfl, y1, y2, y3⟩; replace y1 := hid y1; replace y2 := hid y2; replace y3 := hid y3) | (go_at_call 17; refine (fits_n _ _ _ _ (l.take i ++ l.drop (i + 1)) _ _ hL.out y1.out.rd hL16 HCO.out o1 o2 _ HF.out).mono ?_; rintro e w7 ⟨rfl, v1⟩; replace v1 := hid v1))
            go_wp2
            go_ret
            exact ⟨rfl, below_nil (below_nil i3.out C4.out) (push_chg (((Chg.refl Nil _).drew).trans (y2.out.trans v1.out (fun _ _ h => h)) (fun _ _ h => h)))⟩
end Go.Proofs.Ytoocjfolhghjoaa
