/- Contracts of package pick: a tick of a task of a fixed priority. Conditions: nobody with a deadline is there; somebody of a fixed priority is. -/
import Derived.Test.YtipmjfpoglkiaaaPk2
import Derived.RegionTactic
import Derived.BigRegion
import Derived.Deep.RegionLaw
import Derived.Deep.CutBlock
namespace Go.Proofs.Ytipmjfpoglkiaaa
open Go.ChangeShapes Go.WideShapes Go.ChangeAt Go.RowKit
set_option linter.unusedVariables false
theorem zeroIntQ (w : World) : (zeroValue 3).run Try.prog w = .ok (.int .i64 0) w := by kernel_rfl
theorem first_nil0 {b : Option Nat} (h : IsFirst [] ([] : List DT).length b) : b = none := by
  cases b with
  | none => rfl
  | some j =>
    obtain ⟨y, _, hy, _⟩ := h
    simp at hy
theorem pkbest_prio {w0 : Env} {w : World} {p n : Nat} {s : PKS} (h : PkM w0 p n s w) (hd : s.ds = []) (hb : s.b < 256) (h0 : s.b ≠ 0) (t : Int) (r : List Int) (hq : s.q (topB s.b) = t :: r) :
    Calls Try.prog 25 #[.pointer (some ⟨p, 0, none⟩)] w fun e w' => e = .returned (.int .i64 t) ∧ ∃ k, w' = w.drewN k := by
  obtain ⟨y, h, _⟩ := h
  have d2 := h.cell 2
  simp only [pkCells, List.getElem?_cons_succ, List.getElem?_cons_zero] at d2
  have DP := dpick_ok w y.Fd y.pd s.nw s.ds h.de (by rw [hd]; simp)
  have H := hid h
  have HQ := hid hq
  rw [hd] at DP
  replace DP := hid DP
  clear h hd hq
  go_enter Try.func25, Try.ntmps25
  go_wp2_with fail
  refine DP.out.mono ?_
  rintro e w1 ⟨b, hbn, rfl, k, rfl⟩
  have hbn2 := first_nil0 hbn
  subst hbn2
  have H1 := H.out.nil ((Chg.refl Nil w).drewN k)
  have d1 := H1.cell 1
  simp only [pkCells, List.getElem?_cons_succ, List.getElem?_cons_zero] at d1
  have PF := hid (pfirst_ok (w.drewN k) y.Fp y.pp s.b (topB s.b) s.q H1.pr hb h0 rfl t r HQ.out)
  clear H1 DP hbn
  simp only [Option.isSome_none, Bool.false_eq_true, if_false]
  go_wp2_with fail
  refine PF.out.mono ?_
  rintro e w2 ⟨rfl, hw⟩
  subst hw
  go_wp2
  go_ret
  exact ⟨rfl, k, rfl⟩
theorem MpAt.lookV {w : World} {b n : Nat} {f : Int → Option Value} (h : MpAt w Try.prog 3 b n f) (i : Int) (h1 : 0 ≤ i) (h2 : i ≤ 1000) {v : Value} (hu : f i = some v) (q : Nat) : (Instr.lookup 47 (.map (some b)) (.int .i64 i) false).run Try.prog (w.drewN q) = .ok v (w.drewN q) := by
  have h3 := (h.drewN q).look (t := 47) (e := 3) Try.underlying3 Try.underlying47 (zeroIntQ _) i (wf_key (by omega) (by omega))
  rw [hu] at h3
  exact h3
/-- What a tick of one of fixed priority makes. -/
def pkU (s : PKS) (t : Int) : Int := (if t = s.now then s.used else 0) + 1
def pkQ (s : PKS) (t : Int) (v : Nat) (r : List Int) : Nat → List Int := if pkU s t % 3 = 0 then upF s.q v (r ++ [t]) else s.q
def pkTick (s : PKS) (t : Int) (v : Nat) (r : List Int) : PKS := { s with now := t, used := pkU s t, q := pkQ s t v r, nw := s.nw + 1, ds := [] }
set_option maxHeartbeats 4000000 in
theorem pktick_prio {w0 : Env} {w : World} {p n : Nat} {s : PKS} (h : PkM w0 p n s w) (hd : s.ds = []) (hb : s.b < 256) (h0 : s.b ≠ 0) (t : Int) (t1 : 1 ≤ t) (t2 : t ≤ 16) (v : Nat) (hv : v < 8) (hvb : topB s.b = v) (r : List Int) (hq : s.q v = t :: r) (hl : (s.q v).length ≤ 999) (hcl : s.cl t = some (.int .i64 2)) (hva : s.va t = some (.int .i64 (v : Int))) (u1 : 0 ≤ s.used) (u2 : s.used ≤ 1000000) (hnw : s.nw ≤ 1000000) :
    Calls Try.prog 10 #[.pointer (some ⟨p, 0, none⟩)] w fun e w' => e = .returned (.int .i64 t) ∧ PkM w0 p n (pkTick s t v r) w' := by
  have BE := hid (pkbest_prio h hd hb h0 t r (by rw [hvb]; exact hq))
  obtain ⟨y, h, hn⟩ := h
  have H := hid h
  have HN := hid hn
  have HQ := hid hq
  have HD := hid hd
  clear h hn hq hd hvb
  obtain ⟨u, hu⟩ : ∃ u, u = pkU s t := ⟨_, rfl⟩
  have HU := hid hu
  clear hu
  go_enter Try.func10, Try.ntmps10
  go_wp2_with fail
  refine BE.out.mono ?_
  rintro e w1 ⟨rfl, k, rfl⟩
  have H1 := H.out.nil ((Chg.refl Nil w).drewN k)
  have d6 := H1.cell 6
  have d7 := H1.cell 7
  have f6 := H1.blk.frozen 6
  have f7 := H1.blk.frozen 7
  simp only [pkCells, List.getElem?_cons_succ, List.getElem?_cons_zero] at d6 d7
  replace H1 := hid H1
  clear BE H
  generalize World.drewN w k = W at H1 d6 d7 f6 f7 ⊢
  go_upto_if 11 with (fail)
  go_cut [11] (fun _ wx => Hid (PkA w0 wx p y { s with now := t, used := u - 1 }))
  case first =>
    by_cases ht : t = s.now
    · have hb1 : (t == s.now) = true := by rw [beq_iff_eq]; exact ht
      have hb2 : (s.now == t) = true := by rw [beq_iff_eq]; exact ht.symm
      have K := hid (show PkA w0 W p y { s with now := t, used := u - 1 } by
        have e : ({ s with now := t, used := u - 1 } : PKS) = s := by rw [HU.out]; unfold pkU; rw [if_pos ht, ht]; simp
        rw [e]; exact H1.out)
      clear ht
      go_wp2
      go_meet
      exact K
    · have hb1 : (t == s.now) = false := by rw [beq_eq_false_iff_ne]; exact ht
      have hb2 : (s.now == t) = false := by rw [beq_eq_false_iff_ne]; exact fun hh => ht hh.symm
      have K := hid (show PkA w0 ((W.setCell ⟨p, 6, none⟩ (.int .i64 t)).setCell ⟨p, 7, none⟩ (.int .i64 0)) p y { s with now := t, used := u - 1 } from by
        have hc : Chg (One p) W ((W.setCell ⟨p, 6, none⟩ (.int .i64 t)).setCell ⟨p, 7, none⟩ (.int .i64 0)) := ((Chg.refl (One p) W).setCell (p := ⟨p, 6, none⟩) (.inl (show One p p from rfl)) _).setCell (p := ⟨p, 7, none⟩) (.inl (show One p p from rfl)) _
        refine H1.out.self (s' := { s with now := t, used := u - 1 }) ?_ hc rfl rfl rfl rfl rfl rfl rfl rfl
        have e0 : u - 1 = 0 := by rw [HU.out]; unfold pkU; rw [if_neg ht]; omega
        rw [e0]
        exact (H1.out.blk.set 6 (.int .i64 t)).set 7 (.int .i64 0))
      clear ht
      go_wp2
      go_meet
      exact K
  case rest =>
    have hu1 : 1 ≤ u := by rw [HU.out]; unfold pkU; split <;> omega
    have hu2 : u ≤ 1000001 := by rw [HU.out]; unfold pkU; split <;> omega
    clear d6 d7 f6 f7 H1
    have c7 := hcut.out.cell 7
    have g7 := hcut.out.blk.frozen 7
    simp only [pkCells, List.getElem?_cons_succ, List.getElem?_cons_zero] at c7
    have hc : Chg (One p) wc (wc.setCell ⟨p, 7, none⟩ (.int .i64 u)) := (Chg.refl (One p) wc).setCell (p := ⟨p, 7, none⟩) (.inl (show One p p from rfl)) _
    have K2 : PkA w0 (wc.setCell ⟨p, 7, none⟩ (.int .i64 u)) p y { s with now := t, used := u } := hcut.out.self (s' := { s with now := t, used := u }) (hcut.out.blk.set 7 (.int .i64 u)) hc rfl rfl rfl rfl rfl rfl rfl rfl
    replace K2 := hid K2
    clear hc hcut
    obtain ⟨wo, hwo⟩ : ∃ wo : World, wo = wc := ⟨_, rfl⟩
    subst hwo
    go_upto_region 5 with fail
    clear c7 g7
    generalize World.setCell wo _ _ = X at K2 ⊢
    have c3 := K2.out.cell 3
    have c7 := K2.out.cell 7
    have c1 := K2.out.cell 1
    have c4 := K2.out.cell 4
    have c2 := K2.out.cell 2
    simp only [pkCells, List.getElem?_cons_succ, List.getElem?_cons_zero] at c3 c7 c1 c4 c2
    have lk : (Instr.lookup 47 (.map (some y.mc)) (.int .i64 t) false).run Try.prog X = .ok (.int .i64 2) X := K2.out.mc.lookV t (by omega) (by omega) hcl 0
    have lv := fun q => K2.out.mv.lookV t (by omega) (by omega) hva q
    have hv8 : (v : Int) < 8 := by omega
    by_cases hm : u % 3 = 0
    · have hmb : (u % 3 == 0) = true := by rw [beq_iff_eq]; exact hm
      have PT := hid (pturn_ok X.drew y.Fp y.pp s.b s.q t r v (K2.out.nil ((Chg.refl Nil X).drew)).pr hl hv HQ.out)
      have lv1 : (Instr.lookup 47 (.map (some y.mv)) (.int .i64 t) false).run Try.prog X.drew = .ok (.int .i64 (v : Int)) X.drew := lv 1
      have EQ : Hid (pkTick s t v r = { s with now := t, used := u, q := upF s.q v (r ++ [t]), nw := s.nw + 1, ds := [] }) := hid (by
        unfold pkTick pkQ
        rw [← HU.out, if_pos hm])
      clear hm
      go_upto_region 11 with fail
      clear lk c3 c7
      go_region_law (go_simp; go_at_call 27; refine PT.out.mono ?_; rintro e w5 ⟨F', rfl, z1, z2, z3⟩; replace z1 := hid z1; replace z2 := hid z2; replace z3 := hid z3)
      all_goals
        have K3 := (K2.out.nil ((Chg.refl Nil X).drew)).prio z1.out z2.out z3.out
        have b2 := K3.cell 2
        simp only [pkCells, List.getElem?_cons_succ, List.getElem?_cons_zero] at b2
        have DPA := dpass_ok w5 y.Fd y.pd s.nw s.ds K3.de (by rw [HD.out]; simp) (by omega) (by rw [HD.out]; intro x hx; cases hx)
        rw [HD.out] at DPA
        replace DPA := hid DPA
        replace K3 := hid K3
        clear c1 c4 c2 lv lv1 PT
        go_wp2_with fail
        refine DPA.out.mono ?_
        rintro e w6 ⟨rfl, x1, x2⟩
        have K4 := hid (K3.out.dead x1 x2 (Grew.refl _ _) x1.lt)
        clear x1 x2 DPA b2
        go_wp2
        go_ret
        exact ⟨rfl, by rw [EQ.out]; exact ⟨_, K4.out, HN.out⟩⟩
    · have hmb : (u % 3 == 0) = false := by rw [beq_eq_false_iff_ne]; exact hm
      have EQ : Hid (pkTick s t v r = { s with now := t, used := u, nw := s.nw + 1, ds := [] }) := hid (by
        unfold pkTick pkQ
        rw [← HU.out, if_neg hm])
      have DPA := dpass_ok X y.Fd y.pd s.nw s.ds K2.out.de (by rw [HD.out]; simp) (by omega) (by rw [HD.out]; intro x hx; cases hx)
      rw [HD.out] at DPA
      replace DPA := hid DPA
      clear hm c1 c4 lv
      go_wp2_with fail
      refine DPA.out.mono ?_
      rintro e w6 ⟨rfl, x1, x2⟩
      have K4 := hid (K2.out.dead x1 x2 (Grew.refl _ _) x1.lt)
      clear x1 x2 DPA c2
      go_wp2
      go_ret
      exact ⟨rfl, by rw [EQ.out]; exact ⟨_, K4.out, HN.out⟩⟩
end Go.Proofs.Ytipmjfpoglkiaaa
