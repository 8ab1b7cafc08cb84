/- The contract of admit.Late: how often somebody is late; never, if all fit; if never, by a common period, all fit. Conditions: at most 16 uses, each a right one; at most 2000 ticks. -/
import Derived.Test.YtoocjfolhghjoaaAdmit
import Derived.Test.YtoocjfolhghjoaaMem2
import Derived.Test.YtoocjfolhghjoaaLateP
namespace Go.Proofs.Ytoocjfolhghjoaa
open Go.ChangeShapes Go.WideShapes Go.ChangeAt Go.RowKit
set_option linter.unusedVariables false
def PLate (l : List Use) (t : Nat) (w : World) (e : Ending) (w' : World) : Prop := ∃ n : Nat, n ≤ 40000 ∧ e = .returned (.tuple #[.int .i64 n, .int .i64 0]) ∧ LateOk l t n ∧ Chg Nil w w'
/-- What stands in memory. -/
def LMem (n gl : Nat) (w1 : World) (f : Nat → Nat) (wr : World) : Prop := Blk wr gl 3 (cellsN n f) ∧ Chg (One gl) w1 wr
theorem LMem.alloc {n gl : Nat} {w1 wr : World} {f : Nat → Nat} (h : LMem n gl w1 f wr) (o : Obj) : LMem n gl w1 f (wr.alloc o) := ⟨h.1.alloc o, h.2.alloc o⟩
theorem LMem.drewN {n gl : Nat} {w1 wr : World} {f : Nat → Nat} (h : LMem n gl w1 f wr) (k : Nat) : LMem n gl w1 f (wr.drewN k) := ⟨h.1.drewN k, h.2.drewN k⟩
theorem LMem.put {n gl : Nat} {w1 wr : World} {f g : Nat → Nat} (h : LMem n gl w1 f wr) (k : Nat) (v : Int) (hv : v = (g k : Int)) (ho : ∀ i, i ≠ k → g i = f i) : LMem n gl w1 g (wr.setCell ⟨gl, k, none⟩ (.int .i64 v)) := by
  refine ⟨?_, h.2.setCell (.inl (show One gl gl from rfl)) _⟩
  have := h.1.set k (.int .i64 v)
  rwa [cellsN_set n f g k v hv ho] at this
/-- How often one was late, with the first k of those that begin anew. -/
def LateK (l : List Use) (now : Nat) (f : Nat → Nat) (late k late' : Nat) : Prop := late' = 0 ↔ late = 0 ∧ ∀ i, i < k → now % pe l i = 0 → f i = 0
/-- Who is first, of the first k. -/
def BestK (l : List Use) (now : Nat) (f : Nat → Nat) (k : Nat) (b : Int) : Prop := (b = -1 ∧ ∀ i, i < k → f i = 0) ∨ ∃ j : Nat, b = (j : Int) ∧ j < k ∧ 0 < f j ∧ ∀ i, i < k → 0 < f i → dl (pe l j) now ≤ dl (pe l i) now
theorem lateK_skip {l : List Use} {now : Nat} {f : Nat → Nat} {late k late' : Nat} (h : LateK l now f late k late') (h0 : now % pe l k ≠ 0) : LateK l now f late (k + 1) late' := by
  unfold LateK at *
  rw [h]
  refine and_congr_right fun _ => ⟨fun H i hi hm => ?_, fun H i hi hm => H i (by omega) hm⟩
  by_cases hik : i = k
  · subst hik; exact absurd hm h0
  · exact H i (by omega) hm
theorem lateK_ok {l : List Use} {now : Nat} {f : Nat → Nat} {late k late' : Nat} (h : LateK l now f late k late') (h0 : f k = 0) : LateK l now f late (k + 1) late' := by
  unfold LateK at *
  rw [h]
  refine and_congr_right fun _ => ⟨fun H i hi hm => ?_, fun H i hi hm => H i (by omega) hm⟩
  by_cases hik : i = k
  · subst hik; exact h0
  · exact H i (by omega) hm
theorem lateK_hit {l : List Use} {now : Nat} {f : Nat → Nat} {late k late' : Nat} (h0 : now % pe l k = 0) (hf : 0 < f k) : LateK l now f late (k + 1) (late' + 1) := by
  unfold LateK
  refine ⟨fun h => by omega, fun h => ?_⟩
  have := h.2 k (by omega) h0
  omega
theorem repK_skip {l : List Use} {now : Nat} {f : Nat → Nat} {k : Nat} (h0 : now % pe l k ≠ 0) : repK l now f k = repK l now f (k + 1) := by
  funext i
  unfold repK
  by_cases hik : i = k
  · subst hik; simp [h0]
  · have : (i < k + 1) ↔ (i < k) := by omega
    simp only [this]
theorem repK_other {l : List Use} {now : Nat} {f : Nat → Nat} {k : Nat} (i : Nat) (h : i ≠ k) : repK l now f (k + 1) i = repK l now f k i := by
  unfold repK
  have : (i < k + 1) ↔ (i < k) := by omega
  simp only [this]
theorem repK_self {l : List Use} {now : Nat} {f : Nat → Nat} {k : Nat} (h0 : now % pe l k = 0) : repK l now f (k + 1) k = co l k := by simp [repK, h0]
theorem dl_wrap (now p : Nat) (h1 : now ≤ 3000) (h2 : 1 ≤ p) (h3 : p ≤ 30) : wrap64 (wrap64 (wrap64 ((now : Int) / (p : Int)) + 1) * (p : Int)) = (dl p now : Int) := by
  have hd : now / p ≤ now := Nat.div_le_self _ _
  have hl := dl_le p now h2
  unfold dl at *
  rw [← Int.natCast_ediv, wrap64_nat _ (by omega), show ((now / p : Nat) : Int) + 1 = ((now / p + 1 : Nat) : Int) by omega, wrap64_nat _ (by omega), ← Int.natCast_mul, wrap64_nat _ (by omega)]
theorem bestK_first {l : List Use} {now : Nat} {f : Nat → Nat} {k : Nat} (h : ∀ i, i < k → f i = 0) (hf : 0 < f k) : BestK l now f (k + 1) (k : Int) := by
  refine .inr ⟨k, rfl, by omega, hf, fun i hi h0 => ?_⟩
  by_cases hik : i = k
  · subst hik; exact Nat.le_refl _
  · have := h i (by omega); omega
theorem bestK_skip {l : List Use} {now : Nat} {f : Nat → Nat} {k : Nat} {b : Int} (h : BestK l now f k b) (hf : f k = 0) : BestK l now f (k + 1) b := by
  rcases h with ⟨h1, h2⟩ | ⟨j, h1, h2, h3, h4⟩
  · refine .inl ⟨h1, fun i hi => ?_⟩
    by_cases hik : i = k
    · subst hik; exact hf
    · exact h2 i (by omega)
  · refine .inr ⟨j, h1, by omega, h3, fun i hi h0 => ?_⟩
    by_cases hik : i = k
    · subst hik; omega
    · exact h4 i (by omega) h0
theorem bestK_less {l : List Use} {now : Nat} {f : Nat → Nat} {k j : Nat} (h4 : ∀ i, i < k → 0 < f i → dl (pe l j) now ≤ dl (pe l i) now) (hf : 0 < f k) (hd : dl (pe l k) now < dl (pe l j) now) : BestK l now f (k + 1) (k : Int) := by
  refine .inr ⟨k, rfl, by omega, hf, fun i hi h0 => ?_⟩
  by_cases hik : i = k
  · subst hik; exact Nat.le_refl _
  · have := h4 i (by omega) h0; omega
theorem bestK_more {l : List Use} {now : Nat} {f : Nat → Nat} {k j : Nat} (hj : j < k) (hfj : 0 < f j) (h4 : ∀ i, i < k → 0 < f i → dl (pe l j) now ≤ dl (pe l i) now) (hd : dl (pe l j) now ≤ dl (pe l k) now) : BestK l now f (k + 1) (j : Int) := by
  refine .inr ⟨j, rfl, by omega, hfj, fun i hi h0 => ?_⟩
  by_cases hik : i = k
  · subst hik; exact hd
  · exact h4 i (by omega) h0
set_option maxRecDepth 100000 in
set_option maxHeartbeats 2000000 in
theorem late_ok (R : Nat → Prop) (a : Option Addr) (c : Nat) (l : List Use) (t : Nat) (w : World) (h : Rd w R 2 a l.length c (l.flatMap useCells)) (hl : l.length ≤ 16) (hok : ∀ u ∈ l, u.ok) (ht : t ≤ 2000) :
    Calls Try.prog 19 #[.slice a l.length c, .int .i64 t] w (PLate l t w) := by
  have H := hid h
  have HO := hid hok
  clear h hok
  have hmk := run_make1 (P := Try.prog) (t := 22) (e := 3) (z := .int .i64 0) (bytes := 8) Try.underlying22 (by kernel_rfl) rfl (by omega) l.length (by omega)
  go_enter Try.func19, Try.ntmps19
  go_wp2_with fail
  refine (check_ok R _ _ l _ H.out hl HO.out).mono ?_
  rintro e w1 ⟨rfl, c1⟩
  have H1 := hid (H.out.chg c1 (fun _ _ _ h => h))
  replace c1 := hid c1
  clear H
  go_wp2
  have hM : LMem l.length w1.heap.size w1 (fun _ => 0) (w1.alloc (.cells (List.replicate l.length (.int .i64 0)).toArray 3)) := by
    have := Blk.new w1 3 (List.replicate l.length (.int .i64 0))
    rw [← cellsN_zero] at this
    exact ⟨by rw [← cellsN_zero]; exact this, (Chg.refl _ _).alloc _⟩
  replace hM := hid hM
  go_loopw [8, 31] (fun s8 s31 wr => ∃ (now late : Nat) (f : Nat → Nat), now ≤ t + 1 ∧ late ≤ 16 * now ∧ s8 = .int .i64 late ∧ s31 = .int .i64 now ∧ Hid (LI l now f late) ∧ Hid (LMem l.length w1.heap.size w1 f wr)) (fun _ s31 _ => t + 1 - (intOf s31).toNat)
  case atStart => exact ⟨0, 0, _, by omega, by omega, rfl, rfl, li_zero HO.out, hM⟩
  case round =>
    obtain ⟨now, late, f, hn, hla, rfl, rfl, hL, hJ⟩ := hrel
    clear hM hmk
    obtain ⟨wo, rfl⟩ : ∃ wo : World, wo = wr := ⟨_, rfl⟩
    by_cases hlt : now < t + 1
    · go_wp2
      go_loopw [8, 36] (fun s8 s36 wr => ∃ (k late' : Nat), k ≤ l.length ∧ late' ≤ late + k ∧ s8 = .int .i64 late' ∧ s36 = .int .i64 k ∧ Hid (LateK l now f late k late') ∧ Hid (LMem l.length w1.heap.size w1 (repK l now f k) wr)) (fun _ s36 _ => l.length - (intOf s36).toNat)
      case atStart =>
        refine ⟨0, late, by omega, by omega, rfl, rfl, ?_, ?_⟩
        · exact ⟨fun h => ⟨h, fun i hi => absurd hi (by omega)⟩, fun h => h.1⟩
        · have : repK l now f 0 = f := by funext i; simp [repK]
          rw [this]
          exact hJ
      case round =>
        obtain ⟨k, late', hk, hla', rfl, rfl, hK, hJ'⟩ := hrel
        by_cases hlt2 : k < l.length
        · obtain ⟨g, off, rfl, hg1, hg2, hc⟩ := (H1.out.elem use_len rfl (by omega))
          have hne : g ≠ w1.heap.size := by omega
          have e0 := (hJ'.out.2.cell (a := ⟨g, off + k * 2 + 0, none⟩) hg1 (fun h => hne h)).trans (hc k hlt2 0 (by omega))
          have e1 := (hJ'.out.2.cell (a := ⟨g, off + k * 2 + 1, none⟩) hg1 (fun h => hne h)).trans (hc k hlt2 1 (by omega))
          clear hc
          simp only [useCells, List.getElem?_cons_succ, List.getElem?_cons_zero, Nat.add_zero] at e0 e1
          obtain ⟨o1, o2, o3⟩ := HO.out l[k] (List.getElem_mem hlt2)
          have hx := hJ'.out.1.cell k
          rw [cellsN_get _ _ _ hlt2, show repK l now f k k = f k by simp [repK]] at hx
          have hfz := hJ'.out.1.frozen k
          have hsz := hJ'.out.1.lt
          have hsm := hL.out.small k
          have hp1 : pe l k = l[k].p := pe_at l k hlt2
          have hco := co_at l k hlt2
          have HP := hid hp1
          have HC := hid hco
          clear hp1 hco
          have hkn : (k : Int) < (l.length : Int) := by omega
          by_cases h0 : now % l[k].p = 0
          · have hb : (((now : Int) % (l[k].p : Int)) == 0) = true := by rw [← Int.natCast_emod, h0]; rfl
            by_cases hf : 0 < f k
            · go_wp2
              go_roundw
              case rel =>
                exact ⟨k + 1, late' + 1, by omega, by omega, by go_num, by go_num, lateK_hit (by rw [HP.out]; exact h0) hf, (hJ'.out.put k _ (by rw [repK_self (by rw [HP.out]; exact h0), HC.out]) (fun i hi => repK_other i hi)).alloc _⟩
              case measure => simp [intOf]; omega
            · go_wp2
              go_roundw
              case rel =>
                exact ⟨k + 1, late', by omega, by omega, rfl, by go_num, lateK_ok hK.out (by omega), (hJ'.out.put k _ (by rw [repK_self (by rw [HP.out]; exact h0), HC.out]) (fun i hi => repK_other i hi)).alloc _⟩
              case measure => simp [intOf]; omega
          · have hb : (((now : Int) % (l[k].p : Int)) == 0) = false := by rw [← Int.natCast_emod, beq_eq_false_iff_ne]; omega
            go_wp2
            go_roundw
            case rel =>
              refine ⟨k + 1, late', by omega, by omega, rfl, by go_num, ?_, ?_⟩
              · exact lateK_skip hK.out (by rw [HP.out]; exact h0)
              · rw [← repK_skip (by rw [HP.out]; exact h0)]
                exact hJ'.out.alloc _
            case measure => simp [intOf]; omega
        · obtain rfl : k = l.length := by omega
          obtain ⟨F, hF⟩ : ∃ F, F = repK l now f l.length := ⟨_, rfl⟩
          have hFs : ∀ i, F i ≤ 30 := by rw [hF]; exact repK_small HO.out hL.out.small
          rw [← hF] at hJ'
          replace hF := hid hF
          have HFS := hid hFs
          clear hFs hJ
          obtain ⟨wi, hwi⟩ : ∃ wi : World, wi = wr := ⟨_, rfl⟩
          subst hwi
          go_wp2
          go_loopw [12, 61] (fun s12 s61 wr => ∃ (k : Nat) (b : Int), k ≤ l.length ∧ -1 ≤ b ∧ b < l.length ∧ s12 = .int .i64 b ∧ s61 = .int .i64 k ∧ Hid (BestK l now F k b) ∧ Hid (LMem l.length w1.heap.size w1 F wr)) (fun _ s61 _ => l.length - (intOf s61).toNat)
          case atStart => exact ⟨0, -1, by omega, by omega, by omega, rfl, rfl, .inl ⟨rfl, fun i hi => absurd hi (by omega)⟩, hJ'⟩
          case round =>
            obtain ⟨k, b, hk2, hb1, hb2, rfl, rfl, hB, hJ⟩ := hrel
            by_cases hlt3 : k < l.length
            · obtain ⟨g, off, rfl, hg1, hg2, hc⟩ := (H1.out.elem use_len rfl (by omega))
              have hne : g ≠ w1.heap.size := by omega
              have e0 := (hJ.out.2.cell (a := ⟨g, off + k * 2 + 0, none⟩) hg1 (fun h => hne h)).trans (hc k hlt3 0 (by omega))
              have e1 := (hJ.out.2.cell (a := ⟨g, off + k * 2 + 1, none⟩) hg1 (fun h => hne h)).trans (hc k hlt3 1 (by omega))
              simp only [useCells, List.getElem?_cons_succ, List.getElem?_cons_zero, Nat.add_zero] at e0 e1
              obtain ⟨o1, o2, o3⟩ := HO.out l[k] (List.getElem_mem hlt3)
              have hx := hJ.out.1.cell k
              rw [cellsN_get _ _ _ hlt3] at hx
              have hsz := hJ.out.1.lt
              have hsm := HFS.out k
              have HP := hid (pe_at l k hlt3)
              have hkn : (k : Int) < (l.length : Int) := by omega
              by_cases hf : 0 < F k
              · rcases hB.out with ⟨rfl, hB1⟩ | ⟨j, rfl, hj, hfj, hmin⟩
                · clear hc
                  replace hB1 := hid hB1
                  go_wp2
                  go_quiet (fail)
                  go_wp2
                  go_roundw
                  case rel => exact ⟨k + 1, (k : Int), by omega, by omega, by omega, rfl, by go_num, bestK_first hB1.out hf, (hJ.out.alloc _).drewN _⟩
                  case measure => simp [intOf]; omega
                · have hjl : j < l.length := by omega
                  have e2 := (hJ.out.2.cell (a := ⟨g, off + j * 2 + 1, none⟩) hg1 (fun h => hne h)).trans (hc j hjl 1 (by omega))
                  simp only [useCells, List.getElem?_cons_succ, List.getElem?_cons_zero] at e2
                  have hjd : decide ((j : Int) < 0) = false := by simp
                  have hji : (j : Int) < (l.length : Int) := by omega
                  obtain ⟨o4, o5, o6⟩ := HO.out l[j] (List.getElem_mem hjl)
                  clear hc
                  have hgw : g < wr.heap.size := Nat.lt_of_lt_of_le hg1 hJ.out.2.size
                  have hq1 : l[k].p ≠ 0 := by omega
                  have hq2 : l[j].p ≠ 0 := by omega
                  have hq3 : (l[k].p : Int) ≠ 0 := by omega
                  have hq4 : (l[j].p : Int) ≠ 0 := by omega
                  have HPj := hid (pe_at l j hjl)
                  replace hmin := hid hmin
                  have w1' := hid (dl_wrap now l[k].p (by omega) (by omega) (by omega))
                  have w2' := hid (dl_wrap now l[j].p (by omega) (by omega) (by omega))
                  go_wp2
                  go_quiet (fail)
                  go_wp2
                  · have hh : wrap64 (wrap64 (wrap64 ((now : Int) / (l[k].p : Int)) + 1) * (l[k].p : Int)) < wrap64 (wrap64 (wrap64 ((now : Int) / (l[j].p : Int)) + 1) * (l[j].p : Int)) := by assumption
                    rw [w1'.out, w2'.out] at hh
                    go_roundw
                    case rel => exact ⟨k + 1, (k : Int), by omega, by omega, by omega, rfl, by go_num, bestK_less hmin.out hf (by rw [HP.out, HPj.out]; omega), (hJ.out.alloc _).drewN _⟩
                    case measure => simp [intOf]; omega
                  · have hh : wrap64 (wrap64 (wrap64 ((now : Int) / (l[j].p : Int)) + 1) * (l[j].p : Int)) ≤ wrap64 (wrap64 (wrap64 ((now : Int) / (l[k].p : Int)) + 1) * (l[k].p : Int)) := by assumption
                    rw [w1'.out, w2'.out] at hh
                    go_roundw
                    case rel => exact ⟨k + 1, (j : Int), by omega, by omega, by omega, rfl, by go_num, bestK_more hj hfj hmin.out (by rw [HP.out, HPj.out]; omega), (hJ.out.alloc _).drewN _⟩
                    case measure => simp [intOf]; omega
              · have hfd : decide (0 < (F k : Int)) = false := by simp; omega
                clear hc
                go_wp2
                go_quiet (fail)
                go_wp2
                go_roundw
                case rel => exact ⟨k + 1, b, by omega, hb1, hb2, rfl, by go_num, bestK_skip hB.out (by omega), (hJ.out.alloc _).drewN _⟩
                case measure => simp [intOf]; omega
            · obtain rfl : k = l.length := by omega
              rcases hB.out with ⟨rfl, hB1⟩ | ⟨j, rfl, hj, hfj, hmin⟩
              · replace hB1 := hid hB1
                go_wp2
                go_roundw
                case rel =>
                  refine ⟨now + 1, late', F, by omega, by omega, rfl, by go_num, li_step HO.out hL.out hK.out (.inl ⟨fun i hi => ?_, hF.out⟩), hJ⟩
                  rw [← hF.out]; exact hB1.out i hi
                case measure => simp [intOf]; omega
              · have hx := hJ.out.1.cell j
                rw [cellsN_get _ _ _ hj] at hx
                have hfz := hJ.out.1.frozen j
                have hsz := hJ.out.1.lt
                have hsm := HFS.out j
                have hji : (j : Int) < (l.length : Int) := by omega
                replace hmin := hid hmin
                go_wp2
                go_roundw
                case rel =>
                  refine ⟨now + 1, late', fun i => if i = j then F j - 1 else F i, by omega, by omega, rfl, by go_num, li_step HO.out hL.out hK.out (.inr ⟨j, hj, ?_, fun i hi h0 => ?_, fun i hi => ?_, ?_⟩), hJ.out.put j _ ?_ (fun i hi => ?_)⟩
                  · rw [← hF.out]; exact hfj
                  · rw [← hF.out] at h0; exact hmin.out i hi h0
                  · rw [← hF.out]; simp [hi]
                  · rw [← hF.out]; simp; omega
                  · simp; omega
                  · simp [hi]
                case measure => simp [intOf]; omega
    · go_wp2
      go_ret2
      obtain rfl : now = t + 1 := by omega
      exact ⟨late, by omega, rfl, li_end hL.out, c1.out.trans hJ.out.2 (fun i hi h => by have := c1.out.size; have : i = w1.heap.size := h; omega)⟩
end Go.Proofs.Ytoocjfolhghjoaa
