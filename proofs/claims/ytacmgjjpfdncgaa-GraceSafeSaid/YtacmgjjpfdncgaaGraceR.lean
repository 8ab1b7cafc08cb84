/- The closure 'run' of the law GraceSafe. -/
import Derived.Test.YtacmgjjpfdncgaaGraceV
namespace Go.Proofs.Ytacmgjjpfdncgaa
open Go.ChangeShapes Go.WideShapes Go.ChangeAt Go.RowKit
set_option linter.unusedVariables false
def dnK (next : Nat) (ids outs : List Int) : Int → Option Value := fun i => if 0 ≤ i ∧ i < next ∧ (i ∉ ids ∨ i ∈ outs) then some (.bool true) else none
theorem zeroArr (w : World) : (zeroValue 59).run Try.prog w = .ok (arrV (fun _ => 0)) w := by kernel_rfl
theorem zeroBool (w : World) : (zeroValue 4).run Try.prog w = .ok (.bool false) w := by kernel_rfl
theorem wfN (i : Nat) (h : i ≤ 1000000) : (Lit.int .i64 (i : Int)).wf = true := wf_key (by omega) (by omega)
theorem dnK_put (next : Nat) (ids outs : List Int) (k i : Nat) (hk : k < outs.length) (he : outs[k] = (i : Int)) (hi : i < next) : updM (dnK next ids (outs.take k)) (i : Int) (some (.bool true)) = dnK next ids (outs.take (k + 1)) := by
  funext j
  unfold updM dnK
  rw [List.take_succ_eq_append_getElem hk, he]
  by_cases hj : j = (i : Int)
  · subst hj
    rw [if_pos rfl, if_pos ⟨by omega, by omega, .inr (by simp)⟩]
  · rw [if_neg hj]
    have : (j ∈ outs.take k ++ [(i : Int)]) ↔ j ∈ outs.take k := by simp [hj]
    simp only [this]
theorem done_left_len (dp tn : Nat → Int) (l : List GCall) : (doneIds dp tn l).length + (leftOf dp tn l).length = l.length := by
  unfold doneIds leftOf
  rw [List.length_map]
  induction l with
  | nil => rfl
  | cons x l ih =>
    simp only [List.filter_cons, List.length_cons]
    cases ovr dp tn x <;> simp <;> omega
def frTo (dp tn : Nat → Int) (x : GCall) : Nat → Bool
  | 0 => true
  | j + 1 => frTo dp tn x j && !blk1 dp tn x j
theorem frTo_four (dp tn : Nat → Int) (x : GCall) : frTo dp tn x 4 = ovr dp tn x := by
  simp only [frTo, ovr]
  cases blk1 dp tn x 0 <;> cases blk1 dp tn x 1 <;> cases blk1 dp tn x 2 <;> cases blk1 dp tn x 3 <;> rfl
theorem done_ovr {next : Nat} {dp tn : Nat → Int} {l : List GCall} {wt : Nat → Nat → Int} (h : GS next dp tn l wt) {i : Nat} (hi : i < next) : (dnK next (l.map GCall.id) (doneIds dp tn l) (i : Int)).getD (.bool false) = .bool (ovr dp tn ⟨(i : Int), wt i⟩) := by
  unfold dnK
  by_cases hin : (i : Int) ∈ l.map GCall.id
  · obtain ⟨x, hx, hx2⟩ := List.mem_map.1 hin
    obtain ⟨k, hk, rfl⟩ := h.ids x hx
    have : k = i := by have : (k : Int) = i := hx2; omega
    subst this
    cases ho : ovr dp tn ⟨(k : Int), wt k⟩ with
    | true => rw [if_pos ⟨by omega, by omega, .inr (List.mem_map.2 ⟨_, List.mem_filter.2 ⟨hx, ho⟩, rfl⟩)⟩]; rfl
    | false =>
      rw [if_neg]
      · rfl
      · rintro ⟨_, _, h1 | h1⟩
        · exact h1 hin
        · obtain ⟨y, hy, hy2⟩ := List.mem_map.1 h1
          obtain ⟨hyl, hyo⟩ := List.mem_filter.1 hy
          obtain ⟨m, hm, rfl⟩ := h.ids y hyl
          have : m = k := by have : (m : Int) = k := hy2; omega
          subst this
          rw [ho] at hyo; cases hyo
  · rw [if_pos ⟨by omega, by omega, .inl hin⟩, h.over i hi hin]; rfl
set_option maxHeartbeats 2000000 in
set_option maxRecDepth 100000 in
theorem grun_ok (w0 w : World) (F : Nat → Prop) (p next : Nat) (dp tn : Nat → Int) (l : List GCall) (wt : Nat → Nat → Int) (gb sb db ab tb ms md ns nd : Nat) (h : GV w0 F p dp tn l gb sb db ab tb ms md ns nd (sawF next wt) (dnK next (l.map GCall.id) []) w) (hg : GS next dp tn l wt) (hl : l.length ≤ 256) (hnx : next ≤ 1000) (hns : ns ≤ 1000) (hnd : nd + l.length ≤ 1000) :
    Calls Try.prog 36 #[.pointer (some ⟨gb, 0, none⟩), .pointer (some ⟨sb, 0, none⟩), .pointer (some ⟨db, 0, none⟩), .pointer (some ⟨ab, 0, none⟩), .pointer (some ⟨tb, 0, none⟩)] w fun e w' => e = .returned (.bool true) ∧ ∃ F' nd', nd' + (leftOf dp tn l).length ≤ nd + l.length ∧ GV w0 F' p dp tn (leftOf dp tn l) gb sb db ab tb ms md ns nd' (sawF next wt) (dnK next (l.map GCall.id) (doneIds dp tn l)) w' := by
  have c0 := h.bg.cell 0
  simp only [List.getElem?_cons_zero] at c0
  have HR := hid (run_any w F p dp tn l h.g hl)
  have hmd := h.mpd.lt
  have H := hid h
  have HG := hid hg
  clear h hg
  go_enter Try.func36, Try.ntmps36
  go_wp2_with fail
  refine HR.out.mono ?_
  rintro e w1 ⟨F1, ao, co, Go, rfl, s1, g1, ch1, gr1, n1⟩
  have H1 := hid (H.out.step g1 ch1 gr1 rfl rfl)
  have S1 := hid s1
  have N1 := hid n1
  have hdl : (doneIds dp tn l).length ≤ l.length := by unfold doneIds; rw [List.length_map]; exact List.length_filter_le _ _
  obtain ⟨D, hD⟩ : ∃ D, D = (doneIds dp tn l).length := ⟨_, rfl⟩
  rw [← hD] at S1 hdl ⊢
  have HD := hid hD
  clear s1 g1 ch1 gr1 n1 HR H hD c0
  go_wp2
  go_loopw [18] (fun s18 wr => ∃ k nd' : Nat, k ≤ D ∧ nd' ≤ nd + k ∧ s18 = .int .i64 k ∧ Hid (GV w0 F1 p dp tn (leftOf dp tn l) gb sb db ab tb ms md ns nd' (sawF next wt) (dnK next (l.map GCall.id) ((doneIds dp tn l).take k)) wr) ∧ Hid (Sl wr 3 1 ao D co (ints .i64 (doneIds dp tn l)) Go)) (fun s18 _ => D - (intOf s18).toNat)
  case atStart => exact ⟨0, nd, by omega, by omega, rfl, H1, S1⟩
  case round =>
    clear H1 S1
    obtain ⟨k, nd', hk, hnd', rfl, H1, S1⟩ := hrel
    by_cases hlt : k < D
    · have hkl : k < (doneIds dp tn l).length := by have := HD.out; omega
      obtain ⟨g, off, rfl, _, _, hc⟩ := S1.out.rd.at hkl
      have hck := hc k hkl
      clear hc
      obtain ⟨i, hi, hik, hio, hnot⟩ : ∃ i : Nat, i < next ∧ (doneIds dp tn l)[k] = (i : Int) ∧ ovr dp tn ⟨(i : Int), wt i⟩ = true ∧ (i : Int) ∉ (doneIds dp tn l).take k ∧ (i : Int) ∈ l.map GCall.id := by
        have hm := List.getElem_mem hkl
        obtain ⟨x, hx, hx2⟩ := List.mem_map.1 (show (doneIds dp tn l)[k] ∈ (l.filter (ovr dp tn)).map GCall.id from hm)
        obtain ⟨hxl, hxo⟩ := List.mem_filter.1 hx
        obtain ⟨i, hi, rfl⟩ := HG.out.ids x hxl
        have hnd2 : (doneIds dp tn l).Nodup := HG.out.nodup.sublist (List.filter_sublist.map _)
        refine ⟨i, hi, hx2.symm, hxo, fun hh => ?_, List.mem_map.2 ⟨_, hxl, rfl⟩⟩
        obtain ⟨j, hj, hj2⟩ := List.mem_iff_getElem.1 hh
        rw [List.getElem_take] at hj2
        rw [List.length_take] at hj
        have : j = k := (List.getElem_inj hnd2).1 (hj2.trans hx2)
        omega
      rw [hik] at hck
      have c1 := H1.out.bs.cell 0
      have c2 : ∀ o, (wr.alloc o).cell? ⟨db, 0, none⟩ = some (.map (some md)) := fun o => (H1.out.bd.alloc o).cell 0
      simp only [List.getElem?_cons_zero] at c1
      have L1 := H1.out.mps.look_ok Try.underlying3 Try.underlying60 (zeroArr _) (i : Int) (wfN i (by omega))
      have L2 := fun o => (H1.out.mpd.alloc o).look Try.underlying3 Try.underlying61 (zeroBool _) (i : Int) (wfN i (by omega))
      have ef : sawF next wt (i : Int) = some (arrV (wt i)) := by unfold sawF; rw [if_pos ⟨by omega, by omega⟩]; simp
      have ed : dnK next (l.map GCall.id) ((doneIds dp tn l).take k) (i : Int) = none := by unfold dnK; rw [if_neg]; rintro ⟨_, _, h1 | h1⟩; exact h1 hnot.2; exact hnot.1 h1
      rw [ef] at L1
      rw [ed] at L2
      simp only [Option.getD_some, Option.isSome_some, Option.getD_none] at L1 L2
      unfold arrV at L1
      have hlt2 : (k : Int) < D := by omega
      have HIO := hid hio
      have HNOT := hid hnot
      have HIK := hid hik
      clear hio hnot hik ef ed
      go_wp2
      obtain ⟨wa, hwa⟩ : ∃ wa, wa = wr.alloc (.cells #[.int .i64 (wt i 0), .int .i64 (wt i 1), .int .i64 (wt i 2), .int .i64 (wt i 3)] 59) := ⟨_, rfl⟩
      rw [← hwa]
      have HA : Hid (Chg Nil wr wa) := hid (by rw [hwa]; exact (Chg.refl _ _).alloc _)
      have HBA : Hid (Blk wa wr.heap.size 59 (arr4 (wt i))) := hid (by rw [hwa]; exact Blk.new wr _ (arr4 (wt i)))
      have H2 := hid (H1.out.nil HA.out)
      have S2 := hid (S1.out.chg HA.out (fun _ _ h => h))
      obtain ⟨wv, rfl⟩ : ∃ wv : World, wv = wr := ⟨_, rfl⟩
      clear hwa c1 c2 L1 L2 hck H1 S1
      go_loopw [35] (fun s35 wr => ∃ j : Nat, j ≤ 4 ∧ s35 = .int .i64 j ∧ Hid (Chg Nil wa wr)) (fun s35 _ => 4 - (intOf s35).toNat)
      case atStart => exact ⟨0, by omega, rfl, Chg.refl _ _⟩
      case round =>
        obtain ⟨j, hj, rfl, hC⟩ := hrel
        have H3 := hid (H2.out.nil hC.out)
        by_cases hj4 : j < 4
        · have e1 := (HBA.out.chg hC.out (fun h => h)).cell j
          have e2 := H3.out.ba.cell j
          have e3 := H3.out.bt.cell j
          rw [arr4_get _ hj4] at e1 e2 e3
          have hj8 : (j : Int) < 4 := by omega
          have hb := (ovr_iff.1 HIO.out) j hj4
          rw [blk1_false] at hb
          have hb2 : ¬ (0 < wt i j ∧ 0 < dp j ∧ tn j = wt i j) := hb
          have hbd := H3.out.g.bd j hj4
          clear hb
          by_cases b1 : 0 < wt i j
          · by_cases b2 : 0 < dp j
            · have b3 : (tn j == wt i j) = false := by rw [beq_eq_false_iff_ne]; exact fun hh => hb2 ⟨b1, b2, hh⟩
              clear hb2
              go_wp2
              go_quiet ((fail))
              go_wp2
              go_roundw
              case rel => exact ⟨j + 1, by omega, by go_num, hC.out.drewN nq⟩
              case measure => simp [intOf]; omega
            · have b3 : decide (0 < dp j) = false := decide_eq_false b2
              have b4 : dp j ≤ 0 := by omega
              clear hb2
              go_wp2
              go_quiet ((fail))
              go_wp2
              go_roundw
              case rel => exact ⟨j + 1, by omega, by go_num, hC.out.drewN nq⟩
              case measure => simp [intOf]; omega
          · have b3 : decide (0 < wt i j) = false := decide_eq_false b1
            have b4 : wt i j ≤ 0 := by omega
            clear hb2
            go_wp2
            go_quiet ((fail))
            go_wp2
            go_roundw
            case rel => exact ⟨j + 1, by omega, by go_num, hC.out.drewN nq⟩
            case measure => simp [intOf]; omega
        · have c2 := H3.out.bd.cell 0
          simp only [List.getElem?_cons_zero] at c2
          have HM := hid H3.out.mpd
          have S3 := hid (S2.out.chg hC.out (fun _ _ h => h))
          go_wp2_with (refine wpList_store _ rfl _ _ _ 61 rfl Try.underlying3 Try.underlying61 md nd' _ rfl HM.out (by omega) (i : Int) (.bool true) rfl rfl (wfN i (by omega)) ?_; intro w9 y1 y2; replace y1 := hid y1; replace y2 := hid y2)
          refine ⟨⟨k + 1, nd' + 1, by omega, by omega, by go_num, ?_, ?_⟩, by simp [intOf]; omega⟩
          · have h9 := H3.out.putD y1.out y2.out
            rw [dnK_put next _ _ k i hkl HIK.out hi] at h9
            exact h9
          · exact S3.out.chg y2.out (fun q hq hh => by have := (N1.out q hq).1; rw [show q = md from hh] at this; omega)
    · have hkD : k = D := by omega
      have htk : (doneIds dp tn l).take k = doneIds dp tn l := List.take_of_length_le (by have := HD.out; omega)
      rw [htk] at H1
      clear htk hkD S1
      obtain ⟨wv, rfl⟩ : ∃ wv : World, wv = wr := ⟨_, rfl⟩
      have c1 := H1.out.bs.cell 0
      simp only [List.getElem?_cons_zero] at c1
      have HM := hid H1.out.mps
      have hrl : wv.heap.size ∉ [gb, sb, db, ab, tb, ms, md] := fun hh => by have := H1.out.lts _ hh; omega
      have hrF : ¬ F1 wv.heap.size := fun hh => by have := H1.out.g.lt _ hh; omega
      have hrB : w0.heap.size ≤ wv.heap.size := H1.out.bel.size
      go_wp2_with (at_range; refine wpList_range_mp _ rfl _ 60 rfl 3 59 Try.underlying3 Try.underlying60 ms ns _ rfl HM.out ?_; intro w2 cnt2 r1 r2 r3; replace r1 := hid r1; replace r2 := hid r2)
      go_frame
      have H2 := hid (H1.out.nil r2.out)
      clear r2 c1 HM H1
      go_loopw [63] (fun s63 wr => ∃ (left : Int → Bool) (cnt : Nat), Hid (MpRg wr Try.prog 3 ms wv.heap.size ns (sawF next wt) left cnt) ∧ Hid (GV w0 F1 p dp tn (leftOf dp tn l) gb sb db ab tb ms md ns nd' (sawF next wt) (dnK next (l.map GCall.id) (doneIds dp tn l)) wr)) (fun _ wr => wr.rangeLeft ms wv.heap.size)
      case atStart => exact ⟨_, cnt2, r1, H2⟩
      case round =>
        clear r1 H2
        obtain ⟨left, cnt, hR, H2⟩ := hrel
        go_wp2_with (at_next; refine wpList_next_mp _ rfl _ rfl 3 Try.underlying3 ms wv.heap.size ns _ left cnt rfl hR.out ?_ ?_)
        · intro _
          go_wp2
          go_ret
          exact ⟨rfl, F1, nd', by have := HD.out; have := done_left_len dp tn l; omega, H2.out⟩
        · intro i v w3 cnt3 hleft hfv hfs hR3 hcnt hC3 hsz3 hen
          replace hR3 := hid hR3
          have H3 := hid (H2.out.far hC3 hrl hrF hrB)
          obtain ⟨i', hi', rfl⟩ : ∃ i' : Nat, i' < next ∧ i = (i' : Int) := by
            unfold sawF at hfs
            split at hfs
            · rename_i hh; exact ⟨i.toNat, by omega, by omega⟩
            · cases hfs
          have hv : v = arrV (wt i') := by
            refine (hfv (arrV (wt i')) ?_).symm
            unfold sawF; rw [if_pos ⟨by omega, by omega⟩]; simp
          subst hv
          unfold arrV at hen ⊢
          clear hsz3
          go_wp2
          obtain ⟨wa, hwa⟩ : ∃ wa, wa = w3.alloc (.cells #[.int .i64 (wt i' 0), .int .i64 (wt i' 1), .int .i64 (wt i' 2), .int .i64 (wt i' 3)] 59) := ⟨_, rfl⟩
          rw [← hwa]
          have HA : Hid (Chg Nil w3 wa) := hid (by rw [hwa]; exact (Chg.refl _ _).alloc _)
          have HBA : Hid (Blk wa w3.heap.size 59 (arr4 (wt i'))) := hid (by rw [hwa]; exact Blk.new w3 _ (arr4 (wt i')))
          have H4 := hid (H3.out.nil HA.out)
          have HR4 := hid (hR3.out.chg HA.out (fun h => h) (fun h => h))
          obtain ⟨wu, rfl⟩ : ∃ wu : World, wu = wr := ⟨_, rfl⟩
          have HCN : Hid (cnt3 < wu.rangeLeft ms wv.heap.size) := hid (by rw [hR.out.cnt_eq]; exact hcnt)
          have HLF := hid hfs
          clear hwa H3 hR3 hen hfv hfs hcnt hleft
          go_loopw [13, 68] (fun s13 s68 wr => ∃ j : Nat, j ≤ 4 ∧ s68 = .int .i64 j ∧ s13 = .bool (frTo dp tn ⟨(i' : Int), wt i'⟩ j) ∧ Hid (Chg Nil wa wr)) (fun _ s68 _ => 4 - (intOf s68).toNat)
          case atStart => exact ⟨0, by omega, rfl, rfl, Chg.refl _ _⟩
          case round =>
            obtain ⟨j, hj, rfl, rfl, hC⟩ := hrel
            have H5 := hid (H4.out.nil hC.out)
            by_cases hj4 : j < 4
            · have e1 := (HBA.out.chg hC.out (fun h => h)).cell j
              have e2 := H5.out.ba.cell j
              have e3 := H5.out.bt.cell j
              rw [arr4_get _ hj4] at e1 e2 e3
              have hj8 : (j : Int) < 4 := by omega
              have hstep : frTo dp tn ⟨(i' : Int), wt i'⟩ (j + 1) = (frTo dp tn ⟨(i' : Int), wt i'⟩ j && !(decide (0 < wt i' j) && decide (0 < dp j) && (tn j == wt i' j))) := rfl
              cases hfr : frTo dp tn ⟨(i' : Int), wt i'⟩ j with
              | false =>
                rw [hfr, Bool.false_and] at hstep
                have HST := hid hstep
                clear hstep hfr
                go_wp2
                go_quiet ((fail))
                go_wp2
                go_roundw
                case rel => exact ⟨j + 1, by omega, by go_num, by rw [HST.out], hC.out.drewN nq⟩
                case measure => simp [intOf]; omega
              | true =>
                rw [hfr, Bool.true_and] at hstep
                by_cases b1 : 0 < wt i' j
                · by_cases b2 : 0 < dp j
                  · cases b3 : (tn j == wt i' j) with
                    | true =>
                      rw [b3, decide_eq_true b1, decide_eq_true b2] at hstep
                      have HST := hid hstep
                      clear hstep hfr
                      go_wp2
                      go_quiet ((fail))
                      go_wp2
                      go_roundw
                      case rel => exact ⟨j + 1, by omega, by go_num, by rw [HST.out]; rfl, hC.out.drewN nq⟩
                      case measure => simp [intOf]; omega
                    | false =>
                      rw [b3, decide_eq_true b1, decide_eq_true b2] at hstep
                      have HST := hid hstep
                      clear hstep hfr
                      go_wp2
                      go_quiet ((fail))
                      go_wp2
                      go_roundw
                      case rel => exact ⟨j + 1, by omega, by go_num, by rw [HST.out]; rfl, hC.out.drewN nq⟩
                      case measure => simp [intOf]; omega
                  · have b3 : decide (0 < dp j) = false := decide_eq_false b2
                    have b4 : dp j ≤ 0 := by omega
                    rw [b3, Bool.and_false, Bool.false_and] at hstep
                    have HST := hid hstep
                    clear hstep hfr
                    go_wp2
                    go_quiet ((fail))
                    go_wp2
                    go_roundw
                    case rel => exact ⟨j + 1, by omega, by go_num, by rw [HST.out]; rfl, hC.out.drewN nq⟩
                    case measure => simp [intOf]; omega
                · have b3 : decide (0 < wt i' j) = false := decide_eq_false b1
                  have b4 : wt i' j ≤ 0 := by omega
                  rw [b3, Bool.false_and, Bool.false_and] at hstep
                  have HST := hid hstep
                  clear hstep hfr
                  go_wp2
                  go_quiet ((fail))
                  go_wp2
                  go_roundw
                  case rel => exact ⟨j + 1, by omega, by go_num, by rw [HST.out]; rfl, hC.out.drewN nq⟩
                  case measure => simp [intOf]; omega
            · have hj44 : frTo dp tn ⟨(i' : Int), wt i'⟩ j = ovr dp tn ⟨(i' : Int), wt i'⟩ := by rw [show j = 4 by omega, frTo_four]
              have c2 := H5.out.bd.cell 0
              simp only [List.getElem?_cons_zero] at c2
              have L2 := H5.out.mpd.look Try.underlying3 Try.underlying61 (zeroBool _) (i' : Int) (wfN i' (by omega))
              rw [done_ovr HG.out hi'] at L2
              rw [hj44]
              clear hj44
              generalize ovr dp tn ⟨(i' : Int), wt i'⟩ = ob at L2
              have HR5 := hid (HR4.out.chg hC.out (fun h => h) (fun h => h))
              go_wp2
              go_roundw
              case rel => exact ⟨_, cnt3, HR5, H5⟩
              case measure => rw [HR5.out.cnt_eq]; exact HCN.out
end Go.Proofs.Ytacmgjjpfdncgaa
