/- The walk of the law SpreadDead: it returns true and changes nothing that was there. No condition. -/
import Derived.Test.YthcgeigijnbpkaaSrtU
import Derived.Test.YthcgeigijnbpkaaSdM
import Derived.Test.YthcgeigijnbpkaaSpr13
import Derived.Deep.DeepCutAuto
import Derived.Deep.CutBlock
import Derived.Deep.QuietTactic
import Derived.BigQuiet
namespace Go.Proofs.Ythcgeigijnbpkaa
open Go.ChangeShapes Go.WideShapes Go.ChangeAt Go.RowKit
set_option linter.unusedVariables false
/-- Reading what lies below. -/
theorem Rd.below {B : Nat} {w0 w : World} {R : Nat → Prop} {s n c : Nat} {a : Option Addr} {xs : List Value} (h : Rd w0 R s a n c xs) (hb : Below B w0 w) (hR : ∀ g, R g → g < B) : Rd w R s a n c xs := by
  obtain ⟨h1, h2, h3, h4⟩ := h
  refine ⟨h1, h2, h3, fun hn => ?_⟩
  obtain ⟨g, off, r1, r2, r3, r4⟩ := h4 hn
  exact ⟨g, off, r1, Nat.lt_of_lt_of_le r2 hb.size, r3, fun j hj => (hb.cell (p := ⟨g, off + j, none⟩) (hR g r3)).trans (r4 j hj)⟩
/-- The run and the row of counts. -/
def SMem (w0 : World) (gl p n : Nat) (s : SR) (f : Nat → Nat) (w : World) : Prop := RunX w0 [gl] p s w ∧ Blk w gl 3 (cellsN n f)
section
variable {w0 w w' : World} {gl p n : Nat} {s s' : SR} {f f' : Nat → Nat}
theorem SMem.drewN (h : SMem w0 gl p n s f w) (q : Nat) : SMem w0 gl p n s f (w.drewN q) := ⟨h.1.drewN q, h.2.drewN q⟩
theorem SMem.alloc (h : SMem w0 gl p n s f w) (o : Obj) : SMem w0 gl p n s f (w.alloc o) := ⟨(h.1.alloc o).less (fun g hg => List.mem_cons_of_mem _ hg), h.2.alloc o⟩
theorem SMem.put (h : SMem w0 gl p n s f w) (k : Nat) (v : Int) (hv : v = (f' k : Int)) (ho : ∀ i, i ≠ k → f' i = f i) : SMem w0 gl p n s f' (w.setCell ⟨gl, k, none⟩ (.int .i64 v)) := by
  refine ⟨h.1.put (List.mem_singleton.2 rfl) _, ?_⟩
  have := h.2.set k (.int .i64 v)
  rwa [cellsN_set n f f' k v hv ho] at this
theorem SMem.next (h : SMem w0 gl p n s f w) (h1 : RunX w0 [gl] p s' w') (h2 : KeepB [gl] w w') : SMem w0 gl p n s' f w' := ⟨h1, h2 gl (List.mem_singleton.2 rfl) _ _ h.2⟩
end
set_option maxRecDepth 100000 in
set_option maxHeartbeats 2000000 in
theorem spreadDead_walk (a0 : Option Addr) (len0 cap0 : Nat) (z0 : List Int) (a1 a2 : Int) (w : World) (w0 : IsRow .i64 w a0 len0 cap0 z0) (w1 : (Lit.int .i64 a1).wf = true) (w2 : (Lit.int .i64 a2).wf = true) :
    Calls Try.prog 10 #[.slice a0 len0 cap0, .int .i64 a1, .int .i64 a2] w fun e w' => e = .returned (.bool true) ∧ Below w.heap.size w w' := by
  have W0 := hid w0.1
  clear w0
  go_enter Try.func10, Try.ntmps10
  go_wp2_with fail
  refine (sbegun_ok _).mono ?_
  rintro e w1 ⟨rfl, c1⟩
  replace W0 := hid (W0.out.chg c1 (fun _ _ _ h => h))
  have C1 := hid c1
  clear c1
  go_wp2_with fail
  refine (begun_ok _).mono ?_
  rintro e w2 ⟨rfl, c2⟩
  replace W0 := hid (W0.out.chg c2 (fun _ _ _ h => h))
  replace C1 := hid (C1.out.trans c2 (fun _ _ h => h))
  clear c2
  go_wp2_with fail
  refine (sets_ok _ _ _ _ z0 _ W0.out).mono ?_
  rintro e w3 ⟨a, n, c, rfl, l0, G, rfl, i2, i3, i4, i5, i6⟩
  have hl8 : l0.length ≤ 8 := i2
  have SO := hid (sortU_ok w3 a l0.length c l0 G i4 rfl (by omega) i3.ok)
  have GOOD := hid i3
  have HZ2 := hid C1.out.size
  replace C1 := hid (C1.out.trans i5 (fun _ _ h => h))
  have G6 := hid i6
  clear i2 i3 i4 i5 i6 W0
  go_wp2_with fail
  refine SO.out.mono ?_
  rintro e w4 ⟨rfl, l, p1, p2, p3, p4⟩
  have hll : l0.length = l.length := p1.length_eq.symm
  have HG : Hid (∀ u ∈ l, u.ok ∧ u.p ∣ 120) := hid (fun u hu => GOOD.out.1 u (p1.mem_iff.1 hu))
  have HF : Hid (fit l 1) := hid (by
    refine fit_part (l := l0) GOOD.out.1 GOOD.out.2 (fun u hu => (HG.out u hu).2) ?_
    unfold dem
    rw [(p1.map _).sum_nat]
    exact Nat.le_refl _)
  have HOK : Hid (∀ u ∈ l, u.ok) := hid (fun u hu => (HG.out u hu).1)
  have HS := hid p2
  replace C1 := hid (C1.out.trans p4 (fun i hi hG => by have := G6.out i hG; have := HZ2.out; omega))
  have HR : Hid (Rd w4 (Upto w4.heap.size) 2 a l.length c (l.flatMap useCells)) := hid (by
    have h := p3.rd
    rw [hll] at h
    obtain ⟨q1, q2, q3, q4⟩ := h
    refine ⟨q1, q2, q3, fun hn => ?_⟩
    obtain ⟨g, off, r1, r2, r3, r4⟩ := q4 hn
    exact ⟨g, off, r1, r2, r2, r4⟩)
  rw [hll] at hl8 ⊢
  clear p1 p2 p3 p4 SO GOOD G6 hll
  have NW := hid (rx_new (Below.refl w4.heap.size w4) 1 (by omega) (by omega))
  go_wp2_with fail
  refine NW.out.mono ?_
  rintro e w5 ⟨p, rfl, h5, _⟩
  replace h5 := hid h5
  have A0 := hid (a1_new l)
  clear NW
  go_wp2
  go_loopw [37] (fun s37 wr => ∃ (k : Nat) (s : SR), k ≤ l.length ∧ s37 = .int .i64 k ∧ Hid (A1 l k s) ∧ Hid (RunX w4 [] p s wr)) (fun s37 _ => l.length - (intOf s37).toNat)
  case atStart => exact ⟨0, _, by omega, rfl, A0, h5⟩
  case round =>
    clear A0 h5
    obtain ⟨k, s, hk, rfl, hA, hX⟩ := hrel
    by_cases hlt : k < l.length
    · obtain ⟨g, off, rfl, hg1, hg2, hc⟩ := (HR.out.below hX.out.bel (fun g hg => hg)).elem use_len rfl (by omega)
      have e0 := hc k hlt 0 (by omega)
      have e1 := hc k hlt 1 (by omega)
      clear hc
      simp only [useCells, List.getElem?_cons_succ, List.getElem?_cons_zero, Nat.add_zero] at e0 e1
      obtain ⟨o1, o2, o3⟩ := HOK.out l[k] (List.getElem_mem hlt)
      obtain ⟨b1, b2, b3⟩ := hA.out.add hlt hl8 HG.out HF.out
      have hX' := hid ((hX.out.alloc (.cells #[.int .i64 l[k].c, .int .i64 l[k].p] 55)).less (hs := []) (fun g hg => by cases hg))
      have DD := rx_dead hX'.out hA.out.ok (by omega) hA.out.bud ((k + 1 : Nat) : Int) l[k].c l[k].p (by omega) (by omega) o1 o2 o3 (fun _ => by rw [hA.out.len]; omega)
      rw [b2] at DD
      rw [show (((k + 1 : Nat)) : Int) = (k : Int) + 1 by omega] at DD b3
      replace DD := hid DD
      replace b3 := hid b3
      clear b1 b2
      go_wp2_with fail
      refine DD.out.mono ?_
      rintro e w6 ⟨rfl, h6, _⟩
      replace h6 := hid h6
      go_wp2
      go_roundw
      case rel => exact ⟨k + 1, _, by omega, by go_num, b3, h6⟩
      case measure => simp [intOf]; omega
    · obtain rfl : k = l.length := by omega
      have hB := hid hA.out.two
      clear hA
      obtain ⟨N, hN1, hN2⟩ : ∃ N : Nat, (N : Int) = rest a1 8 ∧ N < 8 := by
        have r1 := rest_nonneg a1 8 (by omega)
        have r2 := rest_lt a1 8 (by omega)
        exact ⟨(rest a1 8).toNat, by omega, by omega⟩
      have RN := rest_any a1 8 wr (by omega) (by omega)
      rw [← hN1] at RN
      replace RN := hid RN
      clear hN1
      go_wp2_with fail
      refine RN.out.mono ?_
      rintro e w6 ⟨rfl, rfl⟩
      go_wp2
      go_loopw [54] (fun s54 wr => ∃ (k : Nat) (s : SR), k ≤ N ∧ s54 = .int .i64 k ∧ Hid (A2 l k s) ∧ Hid (RunX w4 [] p s wr)) (fun s54 _ => N - (intOf s54).toNat)
      case atStart => exact ⟨0, _, by omega, rfl, hB, hX⟩
      case round =>
        clear hB hX RN
        obtain ⟨k, s, hk2, rfl, hA, hX⟩ := hrel
        by_cases hlt : k < N
        · have hcl : (1 + (k : Int) % 2) = 1 ∨ (1 + (k : Int) % 2) = 2 := by omega
          obtain ⟨b1, b2⟩ := hA.out.add hl8 (by omega) hcl
          have DD := rx_add hX.out hA.out.ok (by omega) (by rw [hA.out.len]; omega) (9 + (k : Int)) (1 + (k : Int) % 2) 7 (by omega) (by omega) (by rcases hcl with h | h <;> rw [h] <;> rfl)
          rw [b1] at DD
          replace DD := hid DD
          replace b2 := hid b2
          clear b1 hcl
          go_wp2_with fail
          refine DD.out.mono ?_
          rintro e w6 ⟨rfl, h6, _⟩
          replace h6 := hid h6
          go_wp2
          go_roundw
          case rel => exact ⟨k + 1, _, by omega, by go_num, b2, h6⟩
          case measure => simp [intOf]; omega
        · obtain rfl : k = N := by omega
          have hmk := run_make1 (P := Try.prog) (t := 22) (e := 3) (z := .int .i64 0) (bytes := 8) Try.underlying22 (by kernel_rfl) rfl (by omega) l.length (by omega)
          have hM : Hid (SMem w4 wr.heap.size p l.length s (fun _ => 0) (wr.alloc (.cells (List.replicate l.length (.int .i64 0)).toArray 3))) := hid ⟨hX.out.alloc _, by rw [cellsN_zero]; exact Blk.new wr _ _⟩
          have hI := hid (hA.out.si hl8 (by omega) HOK.out HS.out)
          obtain ⟨run, hrun⟩ : ∃ run, run = runOf s.ts.length := ⟨_, rfl⟩
          rw [← hrun] at hI
          obtain ⟨gl, hgl⟩ : ∃ gl, gl = wr.heap.size := ⟨_, rfl⟩
          clear hA hX hrun
          go_wp2
          rw [← hgl] at hM ⊢
          replace hgl := hid hgl
          clear hmk
          go_loopw [14] (fun s14 wr => ∃ (m nw : Nat) (s : SR) (f : Nat → Nat) (run : Option Nat) (ds : List DT), nw ≤ m + 1 ∧ m + 1 ≤ nw ∧ nw ≤ 150 ∧ s14 = .int .i64 nw ∧ Hid (SI l m s f run ds) ∧ Hid (SMem w4 gl p l.length s f wr)) (fun s14 _ => 200 - (intOf s14).toNat)
          case atStart => exact ⟨0, 1, s, _, run, _, by omega, by omega, by omega, rfl, hI, hM⟩
          case round =>
            clear hI hM
            obtain ⟨m, nw, s, f, run, ds, hn1, hn2, hn3, rfl, hI, hM⟩ := hrel
            have r1 := rest_nonneg a2 150 (by omega)
            have r2 := rest_lt a2 150 (by omega)
            by_cases hlt : (nw : Int) ≤ rest a2 150
            · obtain ⟨T, E, cc, j, t1, t2⟩ := hI.out.told
              have PK := rx_pick hM.out.1 hI.out.ok 0 (by rw [hI.out.di.nn]; omega)
              rw [show ((0 : Nat) : Int) = 0 from rfl, t1] at PK
              replace PK := hid PK
              replace t2 := hid t2
              clear t1
              go_wp2_with fail
              refine (rest_any _ _ _ (by omega) (by omega)).mono ?_
              rintro e w6 ⟨rfl, rfl⟩
              go_wp2_with fail
              refine PK.out.mono ?_
              rintro e w7 ⟨rfl, hw7⟩
              subst hw7
              clear PK
              go_upto_region 25 with (fail)
              go_cut [91] (fun s91 wx => wx = w7 ∧ s91 = .bool cc)
              case first =>
                rcases t2.out with ⟨rfl, rfl, rfl, _⟩ | ⟨rfl, rfl, hj, rfl, _⟩ | ⟨rfl, h9, rfl, _⟩
                · go_wp2
                  go_meet
                  exact ⟨rfl, rfl⟩
                · have hj2 : (j : Int) + 1 ≤ (l.length : Int) := by omega
                  have hj3 : 1 ≤ (j : Int) + 1 := by omega
                  go_wp2
                  go_meet
                  exact ⟨rfl, rfl⟩
                · have hj2 : ¬ T ≤ (l.length : Int) := by omega
                  have hj3 : 1 ≤ T := by omega
                  go_wp2
                  go_meet
                  exact ⟨rfl, rfl⟩
              case rest =>
                obtain ⟨rfl, rfl⟩ := hcut
                have hI2 := hid (hI.out.tick HF.out)
                have HI0 := hid (And.intro hI.out.ok hI.out.di.nn)
                have HMI := hid hI.out.mi.2.2
                obtain ⟨f', hf'⟩ : ∃ f', f' = giv1 l.length run f := ⟨_, rfl⟩
                rw [← hf'] at hI2
                replace hf' := hid hf'
                clear hI
                go_upto_if 91 with (fail)
                go_cut [91] (fun _ wx => Hid (SMem w4 gl p l.length s f' wx))
                case first =>
                  rcases t2.out with ⟨rfl, rfl, rfl, hd⟩ | ⟨rfl, rfl, hj, rfl, hd⟩ | ⟨rfl, h9, rfl, hd⟩
                  · have : f' = f := by rw [hf'.out]; unfold giv1; rw [hd]; funext i; simp
                    have HE := hid this
                    clear this
                    go_wp2
                    go_meet
                    rw [HE.out]
                    exact hM
                  · have hx := hM.out.2.cell j
                    rw [cellsN_get _ _ _ hj] at hx
                    have hfz := hM.out.2.frozen j
                    have hfm := HMI.out j
                    have hj2 : (j : Int) < (l.length : Int) := by omega
                    have hFN : ∀ i, i ≠ j → f' i = f i := fun i hi => by rw [hf'.out]; unfold giv1; rw [hd]; simp; omega
                    have hFJ : f' j = f j + 1 := by rw [hf'.out]; unfold giv1; rw [hd]; simp
                    replace hFN := hid hFN
                    replace hFJ := hid hFJ
                    replace hd := hid hd
                    go_wp2
                    go_meet
                    exact hM.out.put j _ (by rw [hFJ.out]; omega) hFN.out
                  · have : f' = f := by rw [hf'.out]; unfold giv1; rw [hd]; funext i; simp
                    have HE := hid this
                    clear this
                    go_wp2
                    go_meet
                    rw [HE.out]
                    exact hM
                case rest =>
                  clear hM t2 hf' HMI
                  have hM := hcut
                  clear hcut
                  have TK := rx_tick hM.out.1 HI0.out.1 (by omega) 0 (by rw [HI0.out.2]; omega)
                  rw [show ((0 : Nat) : Int) = 0 from rfl] at TK
                  replace TK := hid TK
                  go_wp2_with fail
                  refine TK.out.mono ?_
                  rintro e w8 ⟨rfl, h8, k8⟩
                  have hM2 := hid (hM.out.next h8 k8)
                  obtain ⟨run', ds', hI3⟩ := hI2.out
                  replace hI3 := hid hI3
                  obtain ⟨s', hs'⟩ : ∃ s', s' = s.tick 0 := ⟨_, rfl⟩
                  rw [← hs'] at hM2 hI3
                  clear h8 k8 hM TK hI2 HI0 hs'
                  have hnm : Hid (nw = m + 1) := by exact Nat.le_antisymm hn1 hn2
                  go_wp2
                  go_loopw [104] (fun s104 wr => ∃ (k : Nat), k ≤ l.length ∧ s104 = .int .i64 k ∧ Hid (SMem w4 gl p l.length s' f' wr)) (fun s104 _ => l.length - (intOf s104).toNat)
                  case atStart => exact ⟨0, by omega, rfl, hM2⟩
                  case round =>
                    clear hM2
                    obtain ⟨k, hk3, rfl, hM⟩ := hrel
                    by_cases hlt2 : k < l.length
                    · obtain ⟨g, off, rfl, hg1, hg2, hc⟩ := (HR.out.below hM.out.1.bel (fun g hg => hg)).elem use_len rfl (by omega)
                      have e0 := hc k hlt2 0 (by omega)
                      have e1 := hc k hlt2 1 (by omega)
                      clear hc
                      simp only [useCells, List.getElem?_cons_succ, List.getElem?_cons_zero, Nat.add_zero] at e0 e1
                      obtain ⟨o1, o2, o3⟩ := HOK.out l[k] (List.getElem_mem hlt2)
                      have hx := hM.out.2.cell k
                      rw [cellsN_get _ _ _ hlt2] at hx
                      have hsz := hM.out.2.lt
                      have hkn : (k : Int) < (l.length : Int) := by omega
                      have hq1 : l[k].p ≠ 0 := by omega
                      have hq3 : (l[k].p : Int) ≠ 0 := by omega
                      by_cases h0 : nw % l[k].p = 0
                      · have hb : (((nw : Int) % (l[k].p : Int)) == 0) = true := by rw [← Int.natCast_emod, h0]; rfl
                        have hfin := mi_check hI3.out.mi HOK.out k hlt2 (by rw [← hnm.out]; exact h0)
                        rw [← hnm.out] at hfin
                        have hW := hid (mul_quo nw l[k].p l[k].c (by omega) (by omega) o2)
                        have hne : (((f' k : Nat) : Int) != wrap64 (wrap64 ((nw : Int) / (l[k].p : Int)) * (l[k].c : Int))) = false := by rw [hW.out, bne_eq_false_iff_eq, hfin]
                        replace hfin := hid hfin
                        replace h0 := hid h0
                        go_wp2
                        go_quiet (fail)
                        go_wp2
                        go_roundw
                        case rel => exact ⟨k + 1, by omega, by go_num, (hM.out.alloc _).drewN _⟩
                        case measure => simp [intOf]; omega
                      · have hb : (((nw : Int) % (l[k].p : Int)) == 0) = false := by rw [← Int.natCast_emod, beq_eq_false_iff_ne]; omega
                        go_wp2
                        go_quiet (fail)
                        go_wp2
                        go_roundw
                        case rel => exact ⟨k + 1, by omega, by go_num, (hM.out.alloc _).drewN _⟩
                        case measure => simp [intOf]; omega
                    · go_wp2
                      go_roundw
                      case rel => exact ⟨m + 1, nw + 1, s', f', run', ds', by omega, by omega, by omega, by go_num, hI3, hM⟩
                      case measure => simp [intOf]; omega
            · go_wp2_with fail
              refine (rest_any _ _ _ (by omega) (by omega)).mono ?_
              rintro e w6 ⟨rfl, rfl⟩
              go_wp2
              go_ret
              refine ⟨rfl, ?_⟩
              exact (Chg.below C1.out (fun i hi h => h) (Nat.le_refl _)).trans (hM.out.1.bel.mono C1.out.size)
end Go.Proofs.Ythcgeigijnbpkaa
