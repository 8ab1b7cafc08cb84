/- The walk of the law PrioBits: it returns true and changes nothing that was there. No condition. -/
import Derived.Test.YtaffkdoiooablaaPrioM
import Derived.Test.YtaffkdoiooablaaPrio7
namespace Go.Proofs.Ytaffkdoiooablaa
open Go.ChangeShapes Go.WideShapes Go.ChangeAt Go.RowKit
set_option linter.unusedVariables false
/-- Just the queues that hold somebody have their bit; none holds more than k. -/
structure BOk (k b : Nat) (q : Nat → List Int) : Prop where
  lt : b < 256
  len : ∀ i, i < 8 → (q i).length ≤ k
  bit : ∀ i, i < 8 → (b.testBit i = true ↔ q i ≠ [])
theorem BOk.start : BOk 0 0 (fun _ => []) := ⟨by omega, fun i _ => by simp, fun i _ => by simp⟩
theorem BOk.more {k b : Nat} {q : Nat → List Int} (h : BOk k b q) : BOk (k + 1) b q := ⟨h.lt, fun i hi => Nat.le_succ_of_le (h.len i hi), h.bit⟩
theorem BOk.put {k b v : Nat} {q : Nat → List Int} (h : BOk k b q) (hv : v < 8) (t : Int) : BOk (k + 1) (b ||| 2 ^ v) (upF q v (q v ++ [t])) := by
  refine ⟨or_lt b v h.lt hv, fun i hi => ?_, fun i hi => ?_⟩
  · by_cases hiv : i = v
    · subst hiv; rw [upF_same]; have := h.len i hi; simp; omega
    · rw [upF_ne _ _ hiv]; have := h.len i hi; omega
  · rw [Nat.testBit_or, Nat.testBit_two_pow]
    by_cases hiv : i = v
    · subst hiv; rw [upF_same]; simp
    · rw [upF_ne _ _ hiv]
      have : decide (v = i) = false := by simp; omega
      rw [this, Bool.or_false]
      exact h.bit i hi
theorem BOk.out {k b v : Nat} {q : Nat → List Int} (h : BOk k b q) (hv : v < 8) (t : Int) (hin : t ∈ q v) : BOk (k + 1) (if (keepI t (q v)).length = 0 then clrB b v else b) (upF q v (keepI t (q v))) := by
  have hne : q v ≠ [] := fun hh => by rw [hh] at hin; cases hin
  have hbv := (h.bit v hv).2 hne
  refine ⟨?_, fun i hi => ?_, fun i hi => ?_⟩
  · have := h.lt; split
    · unfold clrB; omega
    · exact this
  · by_cases hiv : i = v
    · subst hiv; rw [upF_same]; have := h.len i hi; have := keepI_len t (q i); omega
    · rw [upF_ne _ _ hiv]; have := h.len i hi; omega
  · by_cases hiv : i = v
    · subst hiv
      rw [upF_same]
      split
      · rename_i h0
        rw [clr_test b i i h.lt hi hi]
        simp [List.eq_nil_of_length_eq_zero h0]
      · rename_i h0
        rw [hbv]
        simp
        intro hh; rw [hh] at h0; exact h0 rfl
    · rw [upF_ne _ _ hiv]
      split
      · rw [clr_test b v i h.lt hv hi]
        have : decide (i = v) = false := by simp; omega
        rw [this, Bool.not_false, Bool.and_true]
        exact h.bit i hi
      · exact h.bit i hi
theorem test_bits (b i : Nat) (hb : b < 256) (hi : i < 8) : (bits .and .i64 ((b : Int) / 2 ^ i) 1 == 1) = b.testBit i := by
  have : ∀ (b : Fin 256) (i : Fin 8), (bits .and .i64 ((b.val : Int) / 2 ^ i.val) 1 == 1) = b.val.testBit i.val := by decide +kernel
  exact this ⟨b, hb⟩ ⟨i, hi⟩
theorem BOk.test {k b i : Nat} {q : Nat → List Int} (h : BOk k b q) (hi : i < 8) : (!decide (0 < (q i).length) == (bits .and .i64 ((b : Int) / 2 ^ i) 1 == 1)) = false := by
  rw [test_bits b i h.lt hi]
  have h1 := h.bit i hi
  have h2 : 0 < (q i).length ↔ q i ≠ [] := List.length_pos_iff
  cases hb : b.testBit i
  · rw [hb] at h1
    have : ¬ 0 < (q i).length := fun hh => by have := h1.2 (h2.1 hh); cases this
    simp [this]
  · have := h2.2 (h1.1 hb)
    simp [this]
theorem pfirst_any (w : World) (F : Nat → Prop) (p k b : Nat) (q : Nat → List Int) (h : PrAt w F p b q) (hO : BOk k b q) :
    Calls Try.prog 21 #[.pointer (some ⟨p, 0, none⟩)] w fun e w' => ∃ (t : Int) (v : Nat) (E : Int), e = .returned (.tuple #[.int .i64 t, .int .i64 (v : Int), .int .i64 E]) ∧ w = w' ∧ (b = 0 ∧ E = 4 ∨ b ≠ 0 ∧ E = 0 ∧ b / 2 ^ v = 1 ∧ v < 8) := by
  by_cases hb0 : b = 0
  · subst hb0
    refine (pfirst_none w F p q h).mono ?_
    rintro e w' ⟨rfl, rfl⟩
    exact ⟨0, 0, 4, rfl, rfl, .inl ⟨rfl, rfl⟩⟩
  · obtain ⟨v1, v2, v3, v4, _⟩ := topB_ok b hO.lt hb0
    have hne := (hO.bit _ v2).1 v4
    obtain ⟨x, r, hq⟩ : ∃ x r, q (topB b) = x :: r := by
      cases hh : q (topB b) with
      | nil => exact absurd hh hne
      | cons x r => exact ⟨x, r, rfl⟩
    refine (pfirst_ok w F p b _ q h hO.lt hb0 rfl x r hq).mono ?_
    rintro e w' ⟨rfl, rfl⟩
    exact ⟨_, _, _, rfl, rfl, .inr ⟨hb0, rfl, v3, v2⟩⟩
set_option maxRecDepth 100000 in
set_option maxHeartbeats 4000000 in
theorem prioBits_walk (a0 : Option Addr) (len0 cap0 : Nat) (z0 : List Int) (w : World) (w0 : IsRow .i64 w a0 len0 cap0 z0) :
    Calls Try.prog 4 #[.slice a0 len0 cap0] w fun e w' => e = .returned (.bool true) ∧ Below w.heap.size w w' := by
  have hl1 := w0.1.1
  have hl2 := w0.1.2.1
  unfold maxLen at hl2
  have Z3 := hid w0.1.ilen
  have W3 := hid w0.1
  clear w0
  go_enter Try.func4, Try.ntmps4
  go_wp2_with fail
  refine (pbegun_ok _).mono ?_
  rintro e w1 ⟨rfl, c1⟩
  have C1 := hid (Chg.below c1 (fun i hi h => h) (Nat.le_refl _))
  clear c1
  go_wp2_with fail
  refine (pnew_ok _).mono ?_
  rintro e w2 ⟨F, p, rfl, h2, c2, g2⟩
  have hM := hid (pnew_mem w1 w2 F p w C1.out h2 c2 g2)
  clear h2 c2 g2 C1
  go_upto_region 4 with fail
  go_cut [21, 22, 23] (fun s23 s24 s25 wx => wx = w2 ∧ ∃ N : Nat, N ≤ 100 ∧ N ≤ len0 ∧ s23 = .slice a0 N cap0 ∧ s24 = .int .i64 N ∧ s25 = .int .i64 0)
  case first =>
    go_wp2
    · go_meet
      exact ⟨rfl, 100, by omega, by omega, rfl, rfl, rfl⟩
    · go_meet
      exact ⟨rfl, len0, by omega, by omega, by simp, by simp, rfl⟩
  case rest =>
    obtain ⟨rfl, N, hN1, hN2, rfl, rfl, rfl⟩ := hcut
    go_wp2
    go_loopw [23] (fun s25 wr => ∃ (k b : Nat) (F : Nat → Prop) (q : Nat → List Int), k ≤ N ∧ s25 = .int .i64 k ∧ Hid (BOk k b q) ∧ Hid (PMem w.heap.size w F p b q wr)) (fun s25 _ => N - (intOf s25).toNat)
    case atStart => exact ⟨0, 0, F, _, by omega, rfl, BOk.start, hM⟩
    case round =>
      clear hM
      obtain ⟨k, b, F, q, hk, rfl, hO, hM⟩ := hrel
      by_cases hlt : k < N
      · have hz : k < z0.length := by have := Z3.out; omega
        obtain ⟨wo, rfl⟩ : ∃ wo : World, wo = wr := ⟨_, rfl⟩
        obtain ⟨g, off, rfl, _, _, hc⟩ := (W3.out.belowP hM.out.bel (fun _ h => h)).at hz
        have hc1 := hc k hz
        clear hc
        generalize z0[k] = z at hc1
        go_wp2_with fail
        refine (prest_nat _ 16 _ (by omega) (by omega)).mono ?_
        rintro e w4 ⟨t, ht, rfl, rfl⟩
        go_wp2_with fail
        refine (prest_nat _ 2 _ (by omega) (by omega)).mono ?_
        rintro e w4 ⟨y, hy, rfl, rfl⟩
        go_upto_if 33 with fail
        go_cut [33] (fun _ wx => ∃ b F q, Hid (BOk (k + 1) b q) ∧ Hid (PMem w.heap.size w F p b q wx))
        case first =>
          by_cases hy0 : y = 0
          · subst hy0
            go_wp2_with fail
            refine (prest_nat _ 8 _ (by omega) (by omega)).mono ?_
            rintro e w4 ⟨v, hv, rfl, rfl⟩
            by_cases hp : prOf q ((1 : Int) + t) 8 = -1
            · have HC := hid (pput_ok wo F p b q ((1 : Int) + t) v hM.out.q (fun i hi => by have := hO.out.len i hi; omega) hO.out.lt (by omega) (by omega) (by omega) hp)
              go_wp2_with fail
              refine HC.out.mono ?_
              rintro e w5 ⟨F5, rfl, h5, c5, g5⟩
              have hM5 := hid (hM.out.step h5 c5 g5)
              have hO5 := hid (hO.out.put (v := v) (by omega) ((1 : Int) + t))
              clear h5 c5 g5
              go_wp2
              go_meet
              exact ⟨_, _, _, hO5, hM5⟩
            · have hp2 : 0 ≤ prOf q ((1 : Int) + t) 8 := by have := prOf_le q ((1 : Int) + t) 8; omega
              have HC := hid (pput_there wo F p b q ((1 : Int) + t) v hM.out.q (fun i hi => by have := hO.out.len i hi; omega) (by omega) (by omega) (by omega) hp2)
              clear hp hp2
              go_wp2_with fail
              refine HC.out.mono ?_
              rintro e w5 ⟨rfl, c5⟩
              have hM5 := hid (hM.out.nil c5)
              clear c5
              go_wp2
              go_meet
              exact ⟨_, _, _, hO.out.more, hM5⟩
          · have hy1 : ((y : Int) == 0) = false := by rw [beq_eq_false_iff_ne]; omega
            by_cases hp : prOf q ((1 : Int) + t) 8 = -1
            · have HC := hid (pout_none wo F p b q ((1 : Int) + t) hM.out.q (fun i hi => by have := hO.out.len i hi; omega) hp)
              go_wp2_with fail
              refine HC.out.mono ?_
              rintro e w5 ⟨rfl, c5⟩
              have hM5 := hid (hM.out.nil c5)
              clear c5
              go_wp2
              go_meet
              exact ⟨_, _, _, hO.out.more, hM5⟩
            · have hp2 : 0 ≤ prOf q ((1 : Int) + t) 8 := by have := prOf_le q ((1 : Int) + t) 8; omega
              obtain ⟨i, e1, e2, e3⟩ := prOf_mem q _ 8 hp2
              have HC := hid (pout_ok wo F p b q ((1 : Int) + t) i hM.out.q (fun i hi => by have := hO.out.len i hi; omega) hO.out.lt e2 e1 e3)
              have hO5 := hid (hO.out.out e2 _ e3)
              clear hp hp2 e1 e3
              go_wp2_with fail
              refine HC.out.mono ?_
              rintro e w5 ⟨F5, rfl, h5, c5, g5⟩
              have hM5 := hid (hM.out.step h5 c5 g5)
              clear h5 c5 g5
              go_wp2
              go_meet
              exact ⟨_, _, _, hO5, hM5⟩
        case rest =>
          clear hO hM
          obtain ⟨b, F, q, hO, hM⟩ := hcut
          go_wp2_with fail
          refine (pbits_ok _ F p b q hM.out.q hO.out.lt).mono ?_
          rintro e w5 ⟨rfl, rfl⟩
          have hb8 : (b : Int) < 256 := by have := hO.out.lt; omega
          have HF := hid (pfirst_any _ F p (k + 1) b q hM.out.q hO.out)
          go_wp2_with fail
          refine HF.out.mono ?_
          rintro e w6 ⟨x, v, E, rfl, rfl, hE⟩
          clear HF
          obtain ⟨wo2, rfl⟩ : ∃ wo2 : World, wo2 = wc := ⟨_, rfl⟩
          go_upto_region 13 with fail
          go_cut [73] (fun s73 wx => wx = wo2 ∧ s73 = .bool false)
          case first =>
            rcases hE with ⟨rfl, rfl⟩ | ⟨hb0, rfl, hv3, hv8⟩
            · go_wp2
              go_meet
              exact ⟨rfl, rfl⟩
            · have hbn : ((b : Int) == 0) = false := by rw [beq_eq_false_iff_ne]; omega
              have hsh : ((b : Int) / 2 ^ v != 1) = false := by
                rw [bne_eq_false_iff_eq]
                have : ((b / 2 ^ v : Nat) : Int) = 1 := by rw [hv3]; rfl
                simpa using this
              clear hv3
              go_wp2
              go_meet
              exact ⟨rfl, by simp; omega⟩
          case rest =>
            obtain ⟨hwx, rfl⟩ := hcut
            subst hwx
            clear hE
            obtain ⟨wo3, rfl⟩ : ∃ wo3 : World, wo3 = wc := ⟨_, rfl⟩
            go_wp2
            go_loopw [74] (fun s74 wr => ∃ i : Nat, i ≤ 8 ∧ s74 = .int .i64 i ∧ Hid (Chg Nil wo3 wr)) (fun s74 _ => 8 - (intOf s74).toNat)
            case atStart => exact ⟨0, by omega, rfl, Chg.refl _ _⟩
            case round =>
              obtain ⟨i, hi, rfl, hC⟩ := hrel
              by_cases hlt2 : i < 8
              · have hi8 : (i : Int) < 8 := by omega
                have hli := hO.out.len i hlt2
                have hM2 := hid (hM.out.nil hC.out)
                go_wp2_with fail
                refine (plist_ok _ F p b q i hM2.out.q hlt2 (by omega)).mono ?_
                rintro e w8 ⟨a8, c8, G8, rfl, s8, d8, g8⟩
                have C8 := hid (hC.out.trans d8 (fun _ _ h => h))
                clear s8 d8 g8
                have hbit := hO.out.test hlt2
                go_wp2
                go_roundw
                case rel => exact ⟨i + 1, by omega, by go_num, C8⟩
                case measure => simp [intOf]; omega
              · have hM2 := hid (hM.out.nil hC.out)
                go_wp2
                go_roundw
                case rel => exact ⟨k + 1, b, F, q, by omega, by go_num, hO, hM2⟩
                case measure => simp [intOf]; omega
      · go_wp2
        go_ret
        exact ⟨rfl, hM.out.bel⟩
end Go.Proofs.Ytaffkdoiooablaa
