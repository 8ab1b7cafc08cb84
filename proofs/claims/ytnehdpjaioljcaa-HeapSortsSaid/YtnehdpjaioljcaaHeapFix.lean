/- Contract of a heap's fix: whoever stands at a place comes where he belongs. Conditions: at most 1000 ids; the place is there; nobody else stands ahead of the one above. -/
import Derived.Test.YtnehdpjaioljcaaHeapSwap2
import Derived.Deep.DeepCutAuto
import Derived.Deep.CutBlock
namespace Go.Proofs.Ytnehdpjaioljcaa
open Go.ChangeShapes Go.WideShapes Go.ChangeAt Go.RowKit
set_option linter.unusedVariables false
theorem HpAt.drewN {w : World} {F : Nat → Prop} {p : Nat} {l : List HE} (h : HpAt w F p l) (k : Nat) : HpAt (w.drewN k) F p l := h.chg (H := Nil) ((Chg.refl Nil w).drewN k) (fun _ _ h => h)
theorem HpAt.ids {w : World} {F : Nat → Prop} {p : Nat} {l : List HE} (h : HpAt w F p l) : ∃ a c, w.cell? ⟨p, 0, none⟩ = some (.slice a l.length c) := by
  obtain ⟨a1, c1, G1, a2, c2, G2, m, h⟩ := h
  exact ⟨a1, c1, h.e0⟩
theorem before_i (w : World) (F : Nat → Prop) (p : Nat) (l : List HE) (h : HpAt w F p l) (i j : Nat) (I J : Int) (hI : I = (i : Int)) (hJ : J = (j : Int)) (hi : i < l.length) (hj : j < l.length) :
    Calls Try.prog 19 #[.pointer (some ⟨p, 0, none⟩), .int .i64 I, .int .i64 J] w fun e w' => e = .returned (.bool ((l[i]).lt l[j])) ∧ ∃ k, w' = w.drewN k := by
  subst hI; subst hJ
  exact before_any w F p l h i j hi hj
theorem swap_i (w : World) (F : Nat → Prop) (p : Nat) (l : List HE) (h : HpAt w F p l) (hl : l.length ≤ 1000) (i j : Nat) (I J : Int) (hI : I = (i : Int)) (hJ : J = (j : Int)) (hi : i < l.length) (hj : j < l.length) (hij : i ≠ j) :
    Calls Try.prog 20 #[.pointer (some ⟨p, 0, none⟩), .int .i64 I, .int .i64 J] w fun e w' => e = .returned (.tuple #[]) ∧ HpAt w' F p (swp l i j) ∧ Chg F w w' := by
  subst hI; subst hJ
  exact swap_ok w F p l h hl i j hi hj hij
set_option maxRecDepth 100000 in
set_option maxHeartbeats 1000000 in
theorem fix_ok (w : World) (F : Nat → Prop) (p : Nat) (l : List HE) (h : HpAt w F p l) (hl : l.length ≤ 1000) (i : Nat) (hi : i < l.length) (hx : HeapX l i) :
    Calls Try.prog 13 #[.pointer (some ⟨p, 0, none⟩), .int .i64 i] w fun e w' => e = .returned (.tuple #[]) ∧ ∃ l', HpAt w' F p l' ∧ l'.Perm l ∧ HeapI l' ∧ Chg F w w' := by
  have H := hid h
  have HX := hid hx
  clear h hx
  go_enter Try.func13, Try.ntmps13
  go_upto_block 0 with fail
  go_cut [1] (fun s1 wx => ∃ (i : Nat) (l' : List HE), s1 = .int .i64 i ∧ i < l'.length ∧ l'.length ≤ 1000 ∧ Hid (HpAt wx F p l') ∧ Hid (HeapD l' i) ∧ Hid (l'.Perm l) ∧ Hid (Chg F w wx))
  case first =>
    go_wp2
    go_loopw [1] (fun s1 wr => ∃ (i : Nat) (l' : List HE), s1 = .int .i64 i ∧ i < l'.length ∧ l'.length ≤ 1000 ∧ Hid (HpAt wr F p l') ∧ Hid (HeapX l' i) ∧ Hid (l'.Perm l) ∧ Hid (Chg F w wr)) (fun s1 _ => (intOf s1).toNat)
    case atStart => exact ⟨i, l, rfl, hi, hl, H, HX, List.Perm.refl _, Chg.refl _ _⟩
    case round =>
      obtain ⟨i', l', rfl, hi', hl', H', HX', HP, HC⟩ := hrel
      clear H HX hi
      by_cases h0 : 0 < i' ∧ ((l'[i']).lt (l'[(i' - 1) / 2]'(by omega))) = true
      · obtain ⟨h0, hlt⟩ := h0
        obtain ⟨m, rfl⟩ : ∃ m, i' = m + 1 := ⟨i' - 1, by omega⟩
        have hgt : (0 : Int) < (m : Int) + 1 := by omega
        obtain ⟨q, hq⟩ : ∃ q : Nat, (m : Int) / 2 = q := ⟨m / 2, by omega⟩
        have hqm : (m + 1 - 1) / 2 = q := by omega
        have HX2 := HX'.out.up hi' h0 hlt
        simp only [hqm] at hlt HX2
        have hb := hid hlt
        replace HX2 := hid HX2
        clear hlt h0
        have hql : q < l'.length := by omega
        have hqn : m + 1 ≠ q := by omega
        have hq2 : 0 ≤ (m : Int) / 2 := by omega
        replace hqm := hid hqm
        replace hqn := hid hqn
        go_wp2_with (first | (go_at_call 19; refine (before_i _ F p l' H'.out (m + 1) q _ _ (by omega) (by omega) hi' hql).mono ?_; rw [hb.out]; rintro e w' ⟨rfl, kq, rfl⟩) | (go_at_call 20; refine (swap_i _ F p l' (H'.out.drewN kq) hl' (m + 1) q _ _ (by omega) (by omega) hi' hql hqn.out).mono ?_; rintro e w3 ⟨rfl, y1, y2⟩; replace y1 := hid y1; replace y2 := hid y2))
        go_roundw
        case rel => exact ⟨q, swp l' (m + 1) q, rfl, by rw [swp_len]; exact hql, by rw [swp_len]; exact hl', y1, HX2, (swp_perm hi' hql).trans HP.out, (HC.out.drewN kq).trans y2.out (fun _ _ h => h)⟩
        case measure => simp [intOf]; have := hqm.out; omega
      · have hst := hid (HX'.out.stay (fun hi h => by
          cases hb : (l'[i']).lt (l'[(i' - 1) / 2]'(by omega)) with
          | true => exact absurd ⟨h, hb⟩ h0
          | false => rfl))
        by_cases h1 : 0 < i'
        · have hb : (l'[i']).lt (l'[(i' - 1) / 2]'(by omega)) = false := by
            cases hb : (l'[i']).lt (l'[(i' - 1) / 2]'(by omega)) with
            | true => exact absurd ⟨h1, hb⟩ h0
            | false => rfl
          obtain ⟨m, rfl⟩ : ∃ m, i' = m + 1 := ⟨i' - 1, by omega⟩
          have hgt : (0 : Int) < (m : Int) + 1 := by omega
          obtain ⟨q, hq⟩ : ∃ q : Nat, (m : Int) / 2 = q := ⟨m / 2, by omega⟩
          have hqm : (m + 1 - 1) / 2 = q := by omega
          simp only [hqm] at hb
          have hql : q < l'.length := by omega
          replace hb := hid hb
          replace hqm := hid hqm
          have hq2 : 0 ≤ (m : Int) / 2 := by omega
          clear h0
          go_wp2_with (go_at_call 19; refine (before_i _ F p l' H'.out (m + 1) q _ _ (by omega) (by omega) hi' hql).mono ?_; rw [hb.out]; rintro e w' ⟨rfl, kq, rfl⟩)
          go_meet
          exact ⟨m + 1, l', by go_num, hi', hl', H'.out.drewN kq, hst, HP, HC.out.drewN kq⟩
        · obtain rfl : i' = 0 := by omega
          clear h0 h1
          go_wp2
          go_meet
          exact ⟨0, l', rfl, hi', hl', H', hst, HP, HC⟩
  case rest =>
    clear H HX hi hl
    obtain ⟨i0, l0, rfl, hi0, hl0, H0, HX0, HP0, HC0⟩ := hcut
    go_wp2
    go_loopw [1] (fun s1 wr => ∃ (i : Nat) (l' : List HE), s1 = .int .i64 i ∧ i < l'.length ∧ l'.length ≤ 1000 ∧ Hid (HpAt wr F p l') ∧ Hid (HeapD l' i) ∧ Hid (l'.Perm l) ∧ Hid (Chg F w wr)) (fun s1 _ => l.length - (intOf s1).toNat)
    case atStart => exact ⟨i0, l0, rfl, hi0, hl0, H0, HX0, HP0, HC0⟩
    case round =>
      clear H0 HX0 HP0 HC0
      obtain ⟨i, l', rfl, hi', hl', H', HX', HP, HC⟩ := hrel
      obtain ⟨wo, rfl⟩ : ∃ wo : World, wo = wr := ⟨_, rfl⟩
      go_wp2
      go_loopw [4, 5] (fun s4 s5 wr => ∃ t : Nat, t ≤ 2 ∧ s5 = .int .i64 (2 * (i : Int) + 1 + t) ∧ s4 = .int .i64 (bestTo l' i t) ∧ Hid (∃ q, wr = wo.drewN q)) (fun _ s5 _ => (2 * (i : Int) + 3 - intOf s5).toNat)
      case atStart => exact ⟨0, by omega, by simp, rfl, 0, rfl⟩
      case round =>
        obtain ⟨t, ht, rfl, rfl, hq⟩ := hrel
        have hbl := bestTo_lt l' i t hi'
        have H3 : Hid (HpAt wr F p l') := by
          obtain ⟨q, rfl⟩ := hq
          exact H'.out.drewN q
        have HC3 : Hid (Chg F w wr) := by
          obtain ⟨q, rfl⟩ := hq
          exact HC.out.drewN q
        obtain ⟨a, c, d0⟩ := H3.out.ids
        by_cases ht2 : t = 2
        · subst ht2
          have HB : Hid (bestTo l' i 2 = bestTo l' i 2) := hid rfl
          obtain ⟨t, htt⟩ : ∃ t, t = 2 := ⟨_, rfl⟩
          rw [← htt] at hbl HB ⊢
          rw [htt] at HB
          replace HB : Hid (bestTo l' i 2 = bestTo l' i t) := hid (by rw [htt])
          have ht3 : (t : Int) = 2 := by omega
          clear htt
          have hgt : 2 * (i : Int) + 2 < 2 * (i : Int) + 1 + (t : Int) := by omega
          clear ht3
          by_cases hbi : bestTo l' i t = i
          · have hbe : ((bestTo l' i t : Int) == (i : Int)) = true := by rw [beq_iff_eq]; omega
            replace hbi := hid hbi
            go_wp2
            refine bodyPost_ret (results_none rfl _ _ _) rfl ?_
            exact ⟨rfl, l', H3.out, HP.out, HX'.out.done hi' (by rw [HB.out]; exact hbi.out), HC3.out⟩
          · have hbe : ((bestTo l' i t : Int) == (i : Int)) = false := by rw [beq_eq_false_iff_ne]; omega
            replace hbi := hid hbi
            go_wp2_with (go_at_call 20; refine (swap_i _ F p l' H3.out hl' i (bestTo l' i t) _ _ (by omega) (by omega) hi' hbl (fun h => hbi.out h.symm)).mono ?_; rintro e w3 ⟨rfl, y1, y2⟩; replace y1 := hid y1; replace y2 := hid y2)
            go_roundw
            case rel =>
              have hD := HX'.out.down hi' (by rw [HB.out]; exact hbi.out)
              rw [HB.out] at hD
              exact ⟨bestTo l' i t, swp l' i (bestTo l' i t), rfl, by rw [swp_len]; exact hbl, by rw [swp_len]; exact hl', y1, hD, (swp_perm hi' hbl).trans HP.out, HC3.out.trans y2.out (fun _ _ h => h)⟩
            case measure =>
              have hbs := (bestTo_is l' i t).resolve_left hbi.out
              obtain ⟨z1, s, z2, z3⟩ := hbs
              have := HP.out.length_eq
              simp [intOf]; omega
        · by_cases hc : 2 * i + 1 + t < l'.length
          · have hc2 : 2 * (i : Int) + 1 + (t : Int) < (l'.length : Int) := by omega
            have hle : 2 * (i : Int) + 1 + (t : Int) ≤ 2 * (i : Int) + 2 := by omega
            cases hb : (l'[2 * i + 1 + t]).lt (l'[bestTo l' i t]) with
            | true =>
              have hnx := hid (bestTo_yes hi' hc hb)
              replace hb := hid hb
              go_wp2_with (go_at_call 19; refine (before_i _ F p l' H3.out (2 * i + 1 + t) (bestTo l' i t) _ _ (by omega) (by omega) hc hbl).mono ?_; rw [hb.out]; rintro e w' ⟨rfl, kq, rfl⟩)
              go_roundw
              case rel =>
                refine ⟨t + 1, by omega, by go_num, by rw [hnx.out]; go_num, ?_⟩
                obtain ⟨q, rfl⟩ := hq
                exact ⟨_, World.drewN_drewN _ _ _⟩
              case measure => simp [intOf]; omega
            | false =>
              have hnx := hid (bestTo_no hi' hc hb)
              replace hb := hid hb
              go_wp2_with (go_at_call 19; refine (before_i _ F p l' H3.out (2 * i + 1 + t) (bestTo l' i t) _ _ (by omega) (by omega) hc hbl).mono ?_; rw [hb.out]; rintro e w' ⟨rfl, kq, rfl⟩)
              go_roundw
              case rel =>
                refine ⟨t + 1, by omega, by go_num, by rw [hnx.out], ?_⟩
                obtain ⟨q, rfl⟩ := hq
                exact ⟨_, World.drewN_drewN _ _ _⟩
              case measure => simp [intOf]; omega
          · have hc2 : (l'.length : Int) ≤ 2 * (i : Int) + 1 + (t : Int) := by omega
            have hle : 2 * (i : Int) + 1 + (t : Int) ≤ 2 * (i : Int) + 2 := by omega
            have HB := hid (bestTo_out2 ht (show l'.length ≤ 2 * i + 1 + t by omega))
            by_cases hbi : bestTo l' i t = i
            · have hbe : ((bestTo l' i t : Int) == (i : Int)) = true := by rw [beq_iff_eq]; omega
              replace hbi := hid hbi
              go_wp2
              refine bodyPost_ret (results_none rfl _ _ _) rfl ?_
              exact ⟨rfl, l', H3.out, HP.out, HX'.out.done hi' (by rw [HB.out]; exact hbi.out), HC3.out⟩
            · have hbe : ((bestTo l' i t : Int) == (i : Int)) = false := by rw [beq_eq_false_iff_ne]; omega
              replace hbi := hid hbi
              go_wp2_with (go_at_call 20; refine (swap_i _ F p l' H3.out hl' i (bestTo l' i t) _ _ (by omega) (by omega) hi' hbl (fun h => hbi.out h.symm)).mono ?_; rintro e w3 ⟨rfl, y1, y2⟩; replace y1 := hid y1; replace y2 := hid y2)
              go_roundw
              case rel =>
                have hD := HX'.out.down hi' (by rw [HB.out]; exact hbi.out)
                rw [HB.out] at hD
                exact ⟨bestTo l' i t, swp l' i (bestTo l' i t), rfl, by rw [swp_len]; exact hbl, by rw [swp_len]; exact hl', y1, hD, (swp_perm hi' hbl).trans HP.out, HC3.out.trans y2.out (fun _ _ h => h)⟩
              case measure =>
                have hbs := (bestTo_is l' i t).resolve_left hbi.out
                obtain ⟨z1, s, z2, z3⟩ := hbs
                have := HP.out.length_eq
                simp [intOf]; omega
end Go.Proofs.Ytnehdpjaioljcaa
