/- The walk of the law DeadApart: it returns true and changes nothing that was there. No condition. -/
import Derived.Test.YtoocjfolhghjoaaMeetMem
namespace Go.Proofs.Ytoocjfolhghjoaa
open Go.ChangeShapes Go.WideShapes Go.ChangeAt Go.RowKit
set_option linter.unusedVariables false
/-- What is so, so many ticks later: of all, and of the one that is looked at. -/
def AI (l : List Use) (who m : Nat) (ts : List DT) (g : Nat) : Prop := BInv l m ts ∧ (∃ x, ts[who]? = some x ∧ Giv m g x) ∧ g ≤ m
theorem ai_new {l : List Use} (hok : ∀ u ∈ l, u.ok) (hl : l.length ≤ 16) {who : Nat} (hw : who < l.length) : AI l who 0 (addTs l l.length) 0 :=
  ⟨binv_new hok hl, ⟨_, addTs_get l _ who hw, giv_new (pe_ok hok who).1⟩, Nat.le_refl _⟩
theorem BInv.numbered {l : List Use} {m : Nat} {ts : List DT} (h : BInv l m ts) {i : Nat} {x : DT} (hx : ts[i]? = some x) (t : Int) (ht : t = (i : Int) + 1) : Numbered ts i x t := by
  refine ⟨hx, by rw [h.num hx]; omega, fun j y hj hy => ?_⟩
  have := h.num hy
  omega
theorem ai_set {l : List Use} {who m : Nat} {ts : List DT} {g i : Nat} {y : DT} (h : AI l who m ts g) (hi : i ≠ who) (hb : BInv l m (ts.set i y)) : AI l who m (ts.set i y) g := by
  obtain ⟨h1, ⟨x, h2, h3⟩, h4⟩ := h
  exact ⟨hb, ⟨x, by rw [List.getElem?_set_ne hi]; exact h2, h3⟩, h4⟩
theorem ai_tick {l : List Use} {who m : Nat} {ts : List DT} {g : Nat} {b : Option Nat} (hf : fit l 1) (h : AI l who m ts g) (hb : IsFirst ts ts.length b) : AI l who (m + 1) (tickTs m ts b) (g + if b = some who then 1 else 0) := by
  obtain ⟨h1, ⟨x, h2, h3⟩, h4⟩ := h
  refine ⟨h1.tick hb, ⟨_, tick_at h2, h1.giv hf hb h2 h3⟩, ?_⟩
  split <;> omega
theorem ai_check {l : List Use} {who m : Nat} {ts : List DT} {g : Nat} (h : AI l who m ts g) (hok : ∀ u ∈ l, u.ok) (hk : who < l.length) (h0 : m % l[who].p = 0) : g = m / l[who].p * l[who].c := by
  obtain ⟨h1, ⟨x, hx, h2⟩, _⟩ := h
  obtain ⟨_, e1, e2⟩ := h1.at_ who _ hx
  rw [co_at l who hk] at e1
  rw [pe_at l who hk] at e2
  have hp := (hok l[who] (List.getElem_mem hk))
  have := h2.done (by rw [e2]; unfold Use.ok at hp; omega) (by rw [e2]; exact h0)
  rwa [e1, e2] at this
theorem num_who {l : List Use} {m who : Nat} {ts : List DT} {b : Option Nat} (h : BInv l m ts) (hb : IsFirst ts ts.length b) : numOf ts b = who + 1 ↔ b = some who := by
  cases b with
  | none => simp [numOf]
  | some j =>
    obtain ⟨y, _, hy, _⟩ := hb
    have := h.num hy
    simp only [numOf, hy, Option.map_some, Option.getD_some, this, Option.some.injEq]
    omega
/-- A row of rows of numbers, that is read. -/
theorem IsRows.row {k : IntKind} {w w' : World} {a : Option Addr} {len cap : Nat} {zs : List (List Int)} (h : IsRows k w a len cap zs) (hb : Below w.heap.size w w') (i : Nat) (hi : i < len) :
    ∃ g off a' n' c', a = some ⟨g, off, none⟩ ∧ w'.cell? ⟨g, off + i, none⟩ = some (.slice a' n' c') ∧ ∃ z, Rd w (Upto w.heap.size) 1 a' n' c' (ints k z) ∧ n' ≤ c' ∧ c' ≤ 9223372036854775807 ∧ z.length = n' := by
  obtain ⟨xs, h1, h2, h3⟩ := h
  obtain ⟨g, off, r1, r2, r3, r4⟩ := h1.cellAt (by omega)
  obtain ⟨a', n', c', e1, e2⟩ := h3 i (by omega)
  refine ⟨g, off, a', n', c', r1, ?_, _, e2.1, e2.1.1, e2.1.2.1, e2.1.ilen⟩
  rw [hb.cell (p := ⟨g, off + i, none⟩) r2, r4 i hi, e1]
set_option maxRecDepth 100000 in
set_option maxHeartbeats 4000000 in
theorem deadApart_walk (a0 : Option Addr) (len0 cap0 : Nat) (z0 : List Int) (a1 : Int) (a2 : Option Addr) (len2 cap2 : Nat) (z2 : List (List Int)) (w : World) (w0 : IsRow .i64 w a0 len0 cap0 z0) (w1 : (Lit.int .i64 a1).wf = true) (w2 : IsRows .i64 w a2 len2 cap2 z2) :
    Calls Try.prog 10 #[.slice a0 len0 cap0, .int .i64 a1, .slice a2 len2 cap2] w fun e w' => e = .returned (.bool true) ∧ Below w.heap.size w w' := by
  have W0 := hid w0.1
  have W2 := hid w2
  have hl2 : len2 ≤ 9223372036854775807 := by
    obtain ⟨xs, h1, _⟩ := w2
    exact Nat.le_trans h1.1 h1.2.1
  clear w0 w2
  go_enter Try.func10, Try.ntmps10
  go_wp2_with fail
  refine (dbegun_ok _).mono ?_
  rintro e w1 ⟨rfl, c1⟩
  replace W0 := hid (W0.out.chg c1 (fun _ _ _ h => h))
  have C1 := hid c1
  clear c1
  go_wp2_with fail
  refine (begun_ok _).mono ?_
  rintro e w2 ⟨rfl, c2⟩
  replace W0 := hid (W0.out.chg c2 (fun _ _ _ h => h))
  replace C1 := hid (C1.out.trans c2 (fun _ _ h => h))
  clear c2
  go_wp2_with fail
  refine (sets_ok _ _ _ _ z0 _ W0.out).mono ?_
  rintro e w3 ⟨a, n, c, rfl, l, G, rfl, i2, i3, i4, i5, i6⟩
  replace C1 := hid (C1.out.trans i5 (fun _ _ h => h))
  clear i5 i6 W0
  have hok := i3.ok
  have hfit := i3.2
  have HOK := hid hok
  have HFIT := hid hfit
  have hrd : Rd w3 (Upto w3.heap.size) 2 a l.length c (l.flatMap useCells) := by
    obtain ⟨q1, q2, q3, q4⟩ := i4.rd
    refine ⟨q1, q2, q3, fun hn => ?_⟩
    obtain ⟨g, off, r1, r2, r3, r4⟩ := q4 hn
    exact ⟨g, off, r1, r2, r2, r4⟩
  have HR := hid hrd
  have hl16 : l.length ≤ 16 := by omega
  clear hok hfit hrd i3 i4
  by_cases h0 : l = []
  · subst h0
    go_wp2
    go_ret
    exact ⟨rfl, Chg.below C1.out (fun i hi h => h) (Nat.le_refl _)⟩
  have hpos : 0 < l.length := List.length_pos_iff.2 h0
  have hp0 : ((l.length : Int) == 0) = false := by rw [beq_eq_false_iff_ne]; omega
  clear h0
  go_wp2_with fail
  refine (rest_nat _ (l.length : Int) _ (by omega) (by omega)).mono ?_
  rintro e w4 ⟨who, hwho, rfl, rfl⟩
  go_wp2_with fail
  refine (dnew_ok _).mono ?_
  rintro e w4 ⟨F, p, rfl, h4, c4, g4⟩
  have hI : DMem w3.heap.size w3 F p 0 (addTs l 0) w4 := ⟨h4, fun k hk => by
    rcases g4 k hk with h | h
    · exact h.elim
    · exact h, (Chg.below c4 (fun i hi h => h) (Nat.le_refl _))⟩
  replace hI := hid hI
  clear h4 c4 g4
  obtain ⟨B, hB⟩ : ∃ B, B = w3.heap.size := ⟨_, rfl⟩
  rw [← hB] at hI
  replace hB := hid hB
  go_wp2
  go_loopw [35] (fun s35 wr => ∃ (k : Nat) (F : Nat → Prop), k ≤ l.length ∧ s35 = .int .i64 k ∧ Hid (DMem B w3 F p 0 (addTs l k) wr)) (fun s35 _ => l.length - (intOf s35).toNat)
  case atStart => exact ⟨0, F, by omega, rfl, hI⟩
  case round =>
    obtain ⟨k, F, hk, rfl, hJ⟩ := hrel
    clear hI
    have hBw : B ≤ wr.heap.size := by rw [hB.out]; exact hJ.out.size
    by_cases hlt : k < l.length
    · obtain ⟨g, off, rfl, hg1, hg2, hc⟩ := (HR.out.below hJ.out.bel (fun g hg => by rw [hB.out]; exact hg)).elem use_len rfl (by omega)
      have e0 := hc k hlt 0 (by omega)
      have e1 := hc k hlt 1 (by omega)
      clear hc
      simp only [useCells, List.getElem?_cons_succ, List.getElem?_cons_zero, Nat.add_zero] at e0 e1
      obtain ⟨o1, o2, o3⟩ := HOK.out l[k] (List.getElem_mem hlt)
      have hJ' := hid (hJ.out.alloc hBw (.cells #[.int .i64 l[k].c, .int .i64 l[k].p] 35))
      have HN := hid (addTs_new l k)
      have HL := hid (addTs_len l k)
      have HS := hid (addTs_succ l k hlt)
      go_wp2_with fail
      refine (dadd_ok _ F p 0 (addTs l k) (k + 1) l[k].c l[k].p hJ'.out.dead (by rw [HL.out]; omega) (by omega) (by omega) (by omega) o1 o2 o3 HN.out).mono ?_
      rintro e w5 ⟨F', rfl, h5, c5, g5⟩
      rw [← HS.out] at h5
      replace h5 := hid h5
      replace c5 := hid c5
      replace g5 := hid g5
      go_wp2
      go_roundw
      case rel => exact ⟨k + 1, F', by omega, by go_num, hJ'.out.step h5.out c5.out g5.out (by simp; omega)⟩
      case measure => simp [intOf]; omega
    · obtain rfl : k = l.length := by omega
      have hM := hid (ai_new HOK.out hl16 (who := who) (by omega))
      go_wp2
      go_loopw [11, 12] (fun s11 s12 wr => ∃ (m nw g : Nat) (F : Nat → Prop) (ts : List DT), nw ≤ m + 1 ∧ m + 1 ≤ nw ∧ nw ≤ 151 ∧ g ≤ m ∧ s11 = .int .i64 g ∧ s12 = .int .i64 nw ∧ Hid (AI l who m ts g) ∧ Hid (DMem B w3 F p m ts wr)) (fun _ s12 _ => 200 - (intOf s12).toNat)
      case atStart => exact ⟨0, 1, 0, F, _, by omega, by omega, by omega, by omega, rfl, rfl, hM, hJ⟩
      case round =>
        clear hM hJ
        obtain ⟨m, nw, g, F, ts, hn1, hn2, hn3, hgm, rfl, rfl, hM, hG⟩ := hrel
        obtain ⟨wo, hwo⟩ : ∃ wo : World, wo = wr := ⟨_, rfl⟩
        subst hwo
        have hBel : Below w.heap.size w wo := by
          have h1 := hG.out.bel
          rw [hB.out] at h1
          exact (Chg.below C1.out (fun i hi h => h) (Nat.le_refl _)).trans (h1.mono C1.out.size)
        have HBL := hid hBel
        clear hBel
        by_cases hlt : nw ≤ 150 ∧ nw ≤ len2
        · obtain ⟨hlt1, hlt2⟩ := hlt
          obtain ⟨gp, offp, a', n', c', rfl, hcr, z, hz, hz1, hz2, hz3⟩ := W2.out.row HBL.out (nw - 1) (by omega)
          have hin : ((nw : Int) - 1).toNat = nw - 1 := by omega
          have hi0 : (0 : Int) ≤ (nw : Int) - 1 := by omega
          have hi1 : (nw : Int) - 1 < (len2 : Int) := by omega
          have hw1 := IntWalk.i64_in ((nw : Int) - 1) (by omega)
          have HZ := hid hz
          have HZ3 := hid hz3
          clear hz hz3
          go_upto_region 16 with (fail)
          go_cut [54] (fun s54 wx => wx = wo ∧ s54 = .bool true)
          case first =>
            go_wp2
            · go_meet
              exact ⟨rfl, by simp; omega⟩
            · go_meet
              exact ⟨rfl, by simp⟩
          case rest =>
            obtain ⟨rfl, rfl⟩ := hcut
            obtain ⟨wv, rfl⟩ : ∃ wv : World, wv = wc := ⟨_, rfl⟩
            go_upto_region 18 with (fail)
            go_cut [69, 70, 71] (fun s69 s70 s71 wx => (∃ q, wx = wv.drewN q) ∧ ∃ N : Nat, N ≤ 4 ∧ N ≤ n' ∧ s69 = .slice a' N c' ∧ s70 = .int .i64 N ∧ s71 = .int .i64 0)
            case first =>
              have n4 : n' ≤ 4 ∨ 4 < n' := by omega
              rcases n4 with h4 | h4
              · have t1 : decide ((n' : Int) ≤ 4) = true := by simp; omega
                have t2 : decide (4 < (n' : Int)) = false := by simp; omega
                go_quiet (fail)
                go_wp2
                go_meet
                exact ⟨⟨_, rfl⟩, n', by omega, by omega, rfl, rfl, rfl⟩
              · have t1 : decide ((n' : Int) ≤ 4) = false := by simp; omega
                have t2 : decide (4 < (n' : Int)) = true := by simp; omega
                go_quiet (fail)
                go_wp2
                go_meet
                exact ⟨⟨_, rfl⟩, 4, by omega, by omega, rfl, rfl, rfl⟩
            case rest =>
              obtain ⟨⟨q, rfl⟩, N, hN1, hN2, rfl, rfl, rfl⟩ := hcut
              have hG1 := hid (hG.out.drewN q)
              clear hG hcr
              have hnm : Hid (nw = m + 1) := by exact Nat.le_antisymm hn1 hn2
              go_wp2
              go_loopw [71] (fun s71 wr => ∃ (k : Nat) (ts : List DT), k ≤ N ∧ s71 = .int .i64 k ∧ Hid (AI l who m ts g) ∧ Hid (DMem B w3 F p m ts wr)) (fun s71 _ => N - (intOf s71).toNat)
              case atStart => exact ⟨0, ts, by omega, rfl, hM, hG1⟩
              case round =>
                clear hM hG1
                obtain ⟨k, ts, hk, rfl, hM, hG⟩ := hrel
                have HTS : Hid (ts.length = l.length) := hM.out.1.len
                have htl : ts.length ≤ 1000 := by have := HTS.out; omega
                have hBw : B ≤ wr.heap.size := by rw [hB.out]; exact hG.out.size
                by_cases hlt3 : k < N
                · have hzk : k < z.length := by have := HZ3.out; omega
                  have hbel2 : Below w.heap.size w wr := by
                    have h1 := hG.out.bel
                    rw [hB.out] at h1
                    exact (Chg.below C1.out (fun i hi h => h) (Nat.le_refl _)).trans (h1.mono C1.out.size)
                  obtain ⟨gz, offz, rfl, gz1, gz2, hc⟩ := (HZ.out.below hbel2 (fun _ h => h)).at hzk
                  have hck := hc k hzk
                  clear hc hbel2
                  generalize z[k] = v at hck
                  go_wp2_with fail
                  refine (rest_nat _ (l.length : Int) _ (by omega) (by omega)).mono ?_
                  rintro e w7 ⟨i, hi, rfl, rfl⟩
                  by_cases hiw : i = who
                  · have hb : ((i : Int) != (who : Int)) = false := by rw [bne_eq_false_iff_eq]; omega
                    replace hiw := hid hiw
                    go_wp2
                    go_roundw
                    case rel => exact ⟨k + 1, ts, by omega, by go_num, hM, hG⟩
                    case measure => simp [intOf]; omega
                  · have hb : ((i : Int) != (who : Int)) = true := by rw [bne_iff_ne]; omega
                    have hil : i < ts.length := by have := HTS.out; omega
                    have hx := List.getElem?_eq_getElem hil
                    generalize ts[i] = x at hx
                    have hnum := hid (hM.out.1.numbered hx ((i : Int) + 1) rfl)
                    have HX := hid hx
                    clear hx
                    have HIW := hid hiw
                    clear hiw
                    have hox := hid (hM.out.1.ok x (List.mem_of_getElem? HX.out))
                    go_wp2_with fail
                    refine (rest_nat _ 2 _ (by omega) (by omega)).mono ?_
                    rintro e w7 ⟨q2, hq2, rfl, rfl⟩
                    by_cases hq0 : q2 = 0
                    · subst hq0
                      go_wp2_with fail
                      refine (dblock_ok _ F p m ts i x _ hG.out.dead htl hnum.out).mono ?_
                      rintro e w8 ⟨rfl, h8, c8⟩
                      replace h8 := hid h8
                      replace c8 := hid c8
                      go_wp2
                      go_roundw
                      case rel => exact ⟨k + 1, _, by omega, by go_num, ai_set hM.out HIW.out (hM.out.1.block HX.out), hG.out.step h8.out c8.out (Grew.refl _ _) hBw⟩
                      case measure => simp [intOf]; omega
                    · have hb2 : ((q2 : Int) == 0) = false := by rw [beq_eq_false_iff_ne]; omega
                      go_wp2_with fail
                      refine (dwake_ok _ F p m ts i x _ hG.out.dead htl (by omega) hox.out hnum.out).mono ?_
                      rintro e w8 ⟨rfl, h8, c8⟩
                      replace h8 := hid h8
                      replace c8 := hid c8
                      go_wp2
                      go_roundw
                      case rel => exact ⟨k + 1, _, by omega, by go_num, ai_set hM.out HIW.out (hM.out.1.wake HX.out), hG.out.step h8.out c8.out (Grew.refl _ _) hBw⟩
                      case measure => simp [intOf]; omega
                · go_wp2_with fail
                  refine (dtick_ok _ F p m ts hG.out.dead htl (by omega) hM.out.1.ok).mono ?_
                  rintro e w6 ⟨b, hb, rfl, h6, c6⟩
                  have hM2 := hid (ai_tick HFIT.out hM.out hb)
                  have hG2 := hid (hG.out.step h6 c6 (Grew.refl _ _) hBw)
                  have hB2 : B ≤ w6.heap.size := Nat.le_trans hBw c6.size
                  have HNW := hid (num_who (who := who) hM.out.1 hb)
                  clear h6 c6
                  obtain ⟨t, ht⟩ : ∃ t, t = numOf ts b := ⟨_, rfl⟩
                  rw [← ht] at HNW ⊢
                  replace hb := hid hb
                  replace ht := hid ht
                  clear hM hG
                  obtain ⟨gl, off, rfl, hg1, hg2, hc⟩ := (HR.out.below hG2.out.bel (fun g hg => by rw [hB.out]; exact hg)).elem use_len rfl (by omega)
                  have hwl : who < l.length := by omega
                  have e0 := hc who hwl 0 (by omega)
                  have e1 := hc who hwl 1 (by omega)
                  clear hc
                  simp only [useCells, List.getElem?_cons_succ, List.getElem?_cons_zero, Nat.add_zero] at e0 e1
                  obtain ⟨o1, o2, o3⟩ := HOK.out l[who] (List.getElem_mem hwl)
                  have hq1 : l[who].p ≠ 0 := by omega
                  have hq3 : (l[who].p : Int) ≠ 0 := by omega
                  obtain ⟨g', hg'⟩ : ∃ g' : Nat, g' = g + if b = some who then 1 else 0 := ⟨_, rfl⟩
                  rw [← hg'] at hM2
                  have hg'm : g' ≤ m + 1 := hM2.out.2.2
                  replace hg' := hid hg'
                  go_upto_if 99 with (fail)
                  go_cut [11] (fun s11 wx => wx = w6 ∧ s11 = .int .i64 g')
                  case first =>
                    by_cases htw : t = who + 1
                    · have hbw := HNW.out.1 htw
                      have hb3 : ((t : Int) == (who : Int) + 1) = true := by rw [beq_iff_eq]; omega
                      have hgg : g' = g + 1 := by rw [hg'.out, hbw]; simp
                      replace hbw := hid hbw
                      replace htw := hid htw
                      replace hgg := hid hgg
                      go_wp2
                      go_meet
                      exact ⟨rfl, by rw [hgg.out]; go_num⟩
                    · have hbw : ¬ b = some who := fun hh => htw (HNW.out.2 hh)
                      have hb3 : ((t : Int) == (who : Int) + 1) = false := by rw [beq_eq_false_iff_ne]; omega
                      have hgg : g' = g := by rw [hg'.out, if_neg hbw]; simp
                      replace hbw := hid hbw
                      replace htw := hid htw
                      replace hgg := hid hgg
                      go_wp2
                      go_meet
                      exact ⟨rfl, by rw [hgg.out]⟩
                  case rest =>
                    obtain ⟨rfl, rfl⟩ := hcut
                    by_cases h0 : nw % l[who].p = 0
                    · have hb : (((nw : Int) % (l[who].p : Int)) == 0) = true := by rw [← Int.natCast_emod, h0]; rfl
                      have hfin := ai_check hM2.out HOK.out hwl (by rw [← hnm.out]; exact h0)
                      rw [← hnm.out] at hfin
                      have hW := hid (mul_quo nw l[who].p l[who].c (by omega) (by omega) o2)
                      have hne : ((g' : Int) != wrap64 (wrap64 ((nw : Int) / (l[who].p : Int)) * (l[who].c : Int))) = false := by rw [hW.out, bne_eq_false_iff_eq, hfin]
                      replace hfin := hid hfin
                      replace h0 := hid h0
                      go_wp2
                      go_quiet (fail)
                      go_wp2
                      go_roundw
                      case rel => exact ⟨m + 1, nw + 1, g', F, _, by omega, by omega, by omega, by omega, rfl, by go_num, hM2, (hG2.out.alloc hB2 _).drewN _⟩
                      case measure => simp [intOf]; omega
                    · have hb : (((nw : Int) % (l[who].p : Int)) == 0) = false := by rw [← Int.natCast_emod, beq_eq_false_iff_ne]; omega
                      go_wp2
                      go_quiet (fail)
                      go_wp2
                      go_roundw
                      case rel => exact ⟨m + 1, nw + 1, g', F, _, by omega, by omega, by omega, by omega, rfl, by go_num, hM2, (hG2.out.alloc hB2 _).drewN _⟩
                      case measure => simp [intOf]; omega
        · go_wp2
          all_goals
            go_ret
            exact ⟨rfl, HBL.out⟩
end Go.Proofs.Ytoocjfolhghjoaa
