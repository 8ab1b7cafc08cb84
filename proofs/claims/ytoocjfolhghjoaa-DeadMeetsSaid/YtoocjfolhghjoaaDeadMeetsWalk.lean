/- The walk of the law DeadMeets: it returns true and changes nothing that was there. No condition. -/
import Derived.Test.YtoocjfolhghjoaaMeetMem
namespace Go.Proofs.Ytoocjfolhghjoaa
open Go.ChangeShapes Go.WideShapes Go.ChangeAt Go.RowKit
set_option linter.unusedVariables false
/-- What is so, so many ticks later. -/
def MI (l : List Use) (m : Nat) (ts : List DT) (g : Nat → Nat) : Prop := BInv l m ts ∧ (∀ (i : Nat) x, ts[i]? = some x → Giv m (g i) x) ∧ ∀ i, g i ≤ m
theorem mi_tick {l : List Use} {m : Nat} {ts : List DT} {g : Nat → Nat} {b : Option Nat} (hf : fit l 1) (h : MI l m ts g) (hb : IsFirst ts ts.length b) : MI l (m + 1) (tickTs m ts b) (fun i => g i + if b = some i then 1 else 0) := by
  obtain ⟨h1, h2, h3⟩ := h
  refine ⟨h1.tick hb, fun i x hx => ?_, fun i => ?_⟩
  · have hi : i < ts.length := by
      have := (List.getElem?_eq_some_iff.1 hx).1
      rwa [tickTs_eq, List.length_map, ranTs_len] at this
    rw [tick_at (List.getElem?_eq_getElem hi)] at hx
    injection hx with hx
    rw [← hx]
    exact h1.giv hf hb (List.getElem?_eq_getElem hi) (h2 i _ (List.getElem?_eq_getElem hi))
  · have := h3 i
    dsimp only
    split <;> omega
theorem mi_new {l : List Use} (hok : ∀ u ∈ l, u.ok) (hl : l.length ≤ 16) : MI l 0 (addTs l l.length) (fun _ => 0) := by
  refine ⟨binv_new hok hl, fun i x h => ?_, fun _ => Nat.le_refl _⟩
  have hi : i < l.length := by have := (List.getElem?_eq_some_iff.1 h).1; rwa [addTs_len] at this
  rw [addTs_get l _ i hi] at h
  injection h with h
  subst h
  exact giv_new (pe_ok hok i).1
theorem mi_check {l : List Use} {m : Nat} {ts : List DT} {g : Nat → Nat} (h : MI l m ts g) (hok : ∀ u ∈ l, u.ok) (k : Nat) (hk : k < l.length) (h0 : m % l[k].p = 0) : g k = m / l[k].p * l[k].c := by
  obtain ⟨h1, h2, _⟩ := h
  have hk' : k < ts.length := by rw [h1.len]; exact hk
  have hx := List.getElem?_eq_getElem hk'
  obtain ⟨_, e1, e2⟩ := h1.at_ k _ hx
  rw [co_at l k hk] at e1
  rw [pe_at l k hk] at e2
  have hp := (hok l[k] (List.getElem_mem hk))
  have := (h2 k _ hx).done (by rw [e2]; unfold Use.ok at hp; omega) (by rw [e2]; exact h0)
  rwa [e1, e2] at this
set_option maxRecDepth 100000 in
set_option maxHeartbeats 2000000 in
theorem deadMeets_walk (a0 : Option Addr) (len0 cap0 : Nat) (z0 : List Int) (a1 : Int) (w : World) (w0 : IsRow .i64 w a0 len0 cap0 z0) (w1 : (Lit.int .i64 a1).wf = true) :
    Calls Try.prog 9 #[.slice a0 len0 cap0, .int .i64 a1] w fun e w' => e = .returned (.bool true) ∧ Below w.heap.size w w' := by
  have W0 := hid w0.1
  clear w0
  go_enter Try.func9, Try.ntmps9
  go_wp2_with fail
  refine (dbegun_ok _).mono ?_
  rintro e w1 ⟨rfl, c1⟩
  replace W0 := hid (W0.out.chg c1 (fun _ _ _ h => h))
  have C1 := hid c1
  clear c1
  go_wp2_with fail
  refine (begun_ok _).mono ?_
  rintro e w2 ⟨rfl, c2⟩
  replace W0 := hid (W0.out.chg c2 (fun _ _ _ h => h))
  replace C1 := hid (C1.out.trans c2 (fun _ _ h => h))
  clear c2
  go_wp2_with fail
  refine (sets_ok _ _ _ _ z0 _ W0.out).mono ?_
  rintro e w3 ⟨a, n, c, rfl, l, G, rfl, i2, i3, i4, i5, i6⟩
  replace C1 := hid (C1.out.trans i5 (fun _ _ h => h))
  clear i5 i6 W0
  have hok := i3.ok
  have hfit := i3.2
  have HOK := hid hok
  have HFIT := hid hfit
  have hrd : Rd w3 (Upto w3.heap.size) 2 a l.length c (l.flatMap useCells) := by
    obtain ⟨q1, q2, q3, q4⟩ := i4.rd
    refine ⟨q1, q2, q3, fun hn => ?_⟩
    obtain ⟨g, off, r1, r2, r3, r4⟩ := q4 hn
    exact ⟨g, off, r1, r2, r2, r4⟩
  have HR := hid hrd
  have hl16 : l.length ≤ 16 := by omega
  clear hok hfit hrd i3 i4
  go_wp2_with fail
  refine (dnew_ok _).mono ?_
  rintro e w4 ⟨F, p, rfl, h4, c4, g4⟩
  have hI : DMem w3.heap.size w3 F p 0 (addTs l 0) w4 := ⟨h4, fun k hk => by
    rcases g4 k hk with h | h
    · exact h.elim
    · exact h, (Chg.below c4 (fun i hi h => h) (Nat.le_refl _))⟩
  replace hI := hid hI
  clear h4 c4 g4
  obtain ⟨B, hB⟩ : ∃ B, B = w3.heap.size := ⟨_, rfl⟩
  rw [← hB] at hI
  replace hB := hid hB
  go_wp2
  go_loopw [25] (fun s25 wr => ∃ (k : Nat) (F : Nat → Prop), k ≤ l.length ∧ s25 = .int .i64 k ∧ Hid (DMem B w3 F p 0 (addTs l k) wr)) (fun s25 _ => l.length - (intOf s25).toNat)
  case atStart => exact ⟨0, F, by omega, rfl, hI⟩
  case round =>
    obtain ⟨k, F, hk, rfl, hJ⟩ := hrel
    clear hI
    have hBw : B ≤ wr.heap.size := by rw [hB.out]; exact hJ.out.size
    by_cases hlt : k < l.length
    · obtain ⟨g, off, rfl, hg1, hg2, hc⟩ := (HR.out.below hJ.out.bel (fun g hg => by rw [hB.out]; exact hg)).elem use_len rfl (by omega)
      have e0 := hc k hlt 0 (by omega)
      have e1 := hc k hlt 1 (by omega)
      clear hc
      simp only [useCells, List.getElem?_cons_succ, List.getElem?_cons_zero, Nat.add_zero] at e0 e1
      obtain ⟨o1, o2, o3⟩ := HOK.out l[k] (List.getElem_mem hlt)
      have hJ' := hid (hJ.out.alloc hBw (.cells #[.int .i64 l[k].c, .int .i64 l[k].p] 35))
      have HN := hid (addTs_new l k)
      have HL := hid (addTs_len l k)
      have HS := hid (addTs_succ l k hlt)
      go_wp2_with fail
      refine (dadd_ok _ F p 0 (addTs l k) (k + 1) l[k].c l[k].p hJ'.out.dead (by rw [HL.out]; omega) (by omega) (by omega) (by omega) o1 o2 o3 HN.out).mono ?_
      rintro e w5 ⟨F', rfl, h5, c5, g5⟩
      rw [← HS.out] at h5
      replace h5 := hid h5
      replace c5 := hid c5
      replace g5 := hid g5
      go_wp2
      go_roundw
      case rel => exact ⟨k + 1, F', by omega, by go_num, hJ'.out.step h5.out c5.out g5.out (by simp; omega)⟩
      case measure => simp [intOf]; omega
    · obtain rfl : k = l.length := by omega
      have hmk := run_make1 (P := Try.prog) (t := 22) (e := 3) (z := .int .i64 0) (bytes := 8) Try.underlying22 (by kernel_rfl) rfl (by omega) l.length (by omega)
      have hG : GMem B w3 F p 0 (addTs l l.length) wr.heap.size l.length (fun _ => 0) (wr.alloc (.cells (List.replicate l.length (.int .i64 0)).toArray 3)) := by
        refine ⟨hJ.out.alloc hBw _, ?_, hBw, fun hh => ?_, by simp; omega⟩
        · rw [cellsN_zero]; exact Blk.new wr _ _
        · have := hJ.out.dead.lt _ hh; omega
      replace hG := hid hG
      have hM := hid (mi_new HOK.out hl16)
      obtain ⟨gl, hgl⟩ : ∃ gl, gl = wr.heap.size := ⟨_, rfl⟩
      go_wp2
      rw [← hgl] at hG ⊢
      replace hgl := hid hgl
      clear hmk
      go_loopw [10] (fun s10 wr => ∃ (m nw : Nat) (F : Nat → Prop) (ts : List DT) (f : Nat → Nat), nw ≤ m + 1 ∧ m + 1 ≤ nw ∧ nw ≤ 150 ∧ s10 = .int .i64 nw ∧ Hid (MI l m ts f) ∧ Hid (GMem B w3 F p m ts gl l.length f wr)) (fun s10 _ => 200 - (intOf s10).toNat)
      case atStart => exact ⟨0, 1, F, _, _, by omega, by omega, by omega, rfl, hM, hG⟩
      case round =>
        clear hM hG
        obtain ⟨m, nw, F, ts, f, hn1, hn2, hn3, rfl, hM, hG⟩ := hrel
        have r1 := rest_nonneg a1 150 (by omega)
        have r2 := rest_lt a1 150 (by omega)
        by_cases hlt : (nw : Int) ≤ rest a1 150
        · have hts : ts.length = l.length := hM.out.1.len
          have HTS := hid hts
          have htl : ts.length ≤ 1000 := by omega
          clear hts
          go_wp2_with fail
          refine (rest_any _ _ _ (by omega) (by omega)).mono ?_
          rintro e w6 ⟨rfl, rfl⟩
          go_wp2_with fail
          refine (dtick_ok _ F p m ts hG.out.d.dead htl (by omega) hM.out.1.ok).mono ?_
          rintro e w6 ⟨b, hb, rfl, h6, c6⟩
          have hM2 := hid (mi_tick HFIT.out hM.out hb)
          have hG2 := hid (hG.out.step h6 c6 (Grew.refl _ _))
          clear h6 c6
          obtain ⟨t, ht⟩ : ∃ t, t = numOf ts b := ⟨_, rfl⟩
          have htl' : t ≤ l.length := by
            rw [ht]
            cases b with
            | none => simp [numOf]
            | some j =>
              obtain ⟨y, hj, hy, _⟩ := hb
              have := hM.out.1.num hy
              have h9 := HTS.out
              simp only [numOf, hy, Option.map_some, Option.getD_some, this]
              omega
          have HTJ : Hid (b = none ∧ t = 0 ∨ ∃ j, j < l.length ∧ b = some j ∧ t = j + 1) := by
            cases b with
            | none => exact .inl ⟨rfl, ht⟩
            | some j =>
              obtain ⟨y, hj, hy, _⟩ := hb
              have := hM.out.1.num hy
              refine .inr ⟨j, by have := HTS.out; omega, rfl, ?_⟩
              rw [ht]
              simp only [numOf, hy, Option.map_some, Option.getD_some, this]
          rw [← ht]
          replace hb := hid hb
          replace ht := hid ht
          have HM1 := hid hM.out.2.2
          clear hM hG
          obtain ⟨f', hf'⟩ : ∃ f' : Nat → Nat, f' = fun i => f i + if b = some i then 1 else 0 := ⟨_, rfl⟩
          rw [← hf'] at hM2
          replace hf' := hid hf'
          obtain ⟨ts', hts'⟩ : ∃ ts', ts' = tickTs m ts b := ⟨_, rfl⟩
          rw [← hts'] at hM2 hG2
          clear hts'
          go_upto_if 60 with (fail)
          go_cut [60] (fun _ wx => Hid (GMem B w3 F p (m + 1) ts' gl l.length f' wx))
          case first =>
            rcases HTJ.out with ⟨hb0, rfl⟩ | ⟨j, hj, hb0, rfl⟩
            · go_wp2
              go_meet
              have : f' = f := by rw [hf'.out, hb0]; funext i; simp
              rw [this]
              exact hG2
            · have hx := hG2.out.row.cell j
              rw [cellsN_get _ _ _ hj] at hx
              have hfz := hG2.out.row.frozen j
              have hfm := HM1.out j
              have hj2 : (j : Int) < (l.length : Int) := by omega
              have hFN : ∀ i, i ≠ j → f' i = f i := fun i hi => by rw [hf'.out, hb0]; simp; omega
              have hFJ : f' j = f j + 1 := by rw [hf'.out, hb0]; simp
              replace hFN := hid hFN
              replace hFJ := hid hFJ
              replace hb0 := hid hb0
              go_wp2
              go_meet
              exact hG2.out.put j _ (by rw [hFJ.out]; omega) hFN.out
          case rest =>
            have hG3 := hcut
            clear hcut hG2 HTJ HM1 hf'
            have hnm : Hid (nw = m + 1) := by exact Nat.le_antisymm hn1 hn2
            go_wp2
            go_loopw [70] (fun s70 wr => ∃ (k : Nat), k ≤ l.length ∧ s70 = .int .i64 k ∧ Hid (GMem B w3 F p (m + 1) ts' gl l.length f' wr)) (fun s70 _ => l.length - (intOf s70).toNat)
            case atStart => exact ⟨0, by omega, rfl, hG3⟩
            case round =>
              clear hG3
              obtain ⟨k, hk, rfl, hG⟩ := hrel
              by_cases hlt2 : k < l.length
              · obtain ⟨g, off, rfl, hg1, hg2, hc⟩ := (HR.out.below hG.out.d.bel (fun g hg => by rw [hB.out]; exact hg)).elem use_len rfl (by omega)
                have e0 := hc k hlt2 0 (by omega)
                have e1 := hc k hlt2 1 (by omega)
                clear hc
                simp only [useCells, List.getElem?_cons_succ, List.getElem?_cons_zero, Nat.add_zero] at e0 e1
                obtain ⟨o1, o2, o3⟩ := HOK.out l[k] (List.getElem_mem hlt2)
                have hx := hG.out.row.cell k
                rw [cellsN_get _ _ _ hlt2] at hx
                have hsz := hG.out.row.lt
                have hkn : (k : Int) < (l.length : Int) := by omega
                have hq1 : l[k].p ≠ 0 := by omega
                have hq3 : (l[k].p : Int) ≠ 0 := by omega
                by_cases h0 : nw % l[k].p = 0
                · have hb : (((nw : Int) % (l[k].p : Int)) == 0) = true := by rw [← Int.natCast_emod, h0]; rfl
                  have hfin := mi_check hM2.out HOK.out k hlt2 (by rw [← hnm.out]; exact h0)
                  rw [← hnm.out] at hfin
                  have hW := hid (mul_quo nw l[k].p l[k].c (by omega) (by omega) o2)
                  have hne : (((f' k : Nat) : Int) != wrap64 (wrap64 ((nw : Int) / (l[k].p : Int)) * (l[k].c : Int))) = false := by rw [hW.out, bne_eq_false_iff_eq, hfin]
                  replace hfin := hid hfin
                  replace h0 := hid h0
                  go_wp2
                  go_quiet (fail)
                  go_wp2
                  go_roundw
                  case rel => exact ⟨k + 1, by omega, by go_num, (hG.out.alloc _).drewN _⟩
                  case measure => simp [intOf]; omega
                · have hb : (((nw : Int) % (l[k].p : Int)) == 0) = false := by rw [← Int.natCast_emod, beq_eq_false_iff_ne]; omega
                  go_wp2
                  go_quiet (fail)
                  go_wp2
                  go_roundw
                  case rel => exact ⟨k + 1, by omega, by go_num, (hG.out.alloc _).drewN _⟩
                  case measure => simp [intOf]; omega
              · go_wp2
                go_roundw
                case rel => exact ⟨m + 1, nw + 1, F, ts', f', by omega, by omega, by omega, by go_num, hM2, hG⟩
                case measure => simp [intOf]; omega
        · go_wp2_with fail
          refine (rest_any _ _ _ (by omega) (by omega)).mono ?_
          rintro e w6 ⟨rfl, rfl⟩
          go_wp2
          go_ret
          refine ⟨rfl, ?_⟩
          have h1 := hG.out.d.bel
          rw [hB.out] at h1
          exact (Chg.below C1.out (fun i hi h => h) (Nat.le_refl _)).trans (h1.mono C1.out.size)
end Go.Proofs.Ytoocjfolhghjoaa
