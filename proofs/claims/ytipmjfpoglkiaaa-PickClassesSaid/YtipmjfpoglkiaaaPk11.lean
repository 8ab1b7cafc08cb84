/- Contracts of package pick, whatever is there: Best and Tick. Conditions: the numbers and times are few. -/
import Derived.Test.YtipmjfpoglkiaaaPk7
namespace Go.Proofs.Ytipmjfpoglkiaaa
open Go.ChangeShapes Go.WideShapes Go.ChangeAt Go.RowKit Go.ChangeMaps
set_option linter.unusedVariables false
/-- Who is the best. -/
def BestIs (s : PKS) (t : Nat) : Prop :=
  (∃ j x, IsFirst s.ds s.ds.length (some j) ∧ s.ds[j]? = some x ∧ t = x.t) ∨
  (IsFirst s.ds s.ds.length none ∧ s.b ≠ 0 ∧ ∃ r, s.q (topB s.b) = (t : Int) :: r) ∨
  (IsFirst s.ds s.ds.length none ∧ s.b = 0 ∧ ∃ b, FFirst s.ts s.ts.length b ∧ t = numF s.ts b)
set_option maxHeartbeats 1000000 in
theorem pkbest_gen {w0 : Env} {w : World} {p n : Nat} {s : PKS} (h : PkM w0 p n s w) (hd : s.ds.length ≤ 1000) (hb : s.b < 256) (hq : s.b ≠ 0 → ∃ (t : Nat) (r : List Int), s.q (topB s.b) = (t : Int) :: r) (hl : s.ts.length ≤ 1000) (hg : ∀ y ∈ s.ts, y.g = 0) :
    Calls Try.prog 25 #[.pointer (some ⟨p, 0, none⟩)] w fun e w' => ∃ t : Nat, BestIs s t ∧ e = .returned (.int .i64 (t : Int)) ∧ ∃ k, w' = w.drewN k := by
  obtain ⟨y, h, _⟩ := h
  have d2 := h.cell 2
  simp only [pkCells, List.getElem?_cons_succ, List.getElem?_cons_zero] at d2
  have DP := hid (dpick_ok w y.Fd y.pd s.nw s.ds h.de hd)
  have H := hid h
  have HG := hid hg
  have HQ := hid hq
  clear h hg hq
  go_enter Try.func25, Try.ntmps25
  go_wp2_with fail
  refine DP.out.mono ?_
  rintro e w1 ⟨b, hbn, rfl, k, rfl⟩
  have H1 := H.out.nil ((Chg.refl Nil w).drewN k)
  cases b with
  | some j =>
    obtain ⟨x, hj, hx, _⟩ := id hbn
    have hnm : numOf s.ds (some j) = x.t := by simp [numOf, hx]
    rw [hnm]
    replace hbn := hid hbn
    replace hx := hid hx
    clear hnm H1 DP
    simp only [Option.isSome_some, if_true]
    go_wp2
    go_ret
    exact ⟨x.t, .inl ⟨j, x, hbn.out, hx.out, rfl⟩, rfl, k, rfl⟩
  | none =>
    replace hbn := hid hbn
    have d1 := H1.cell 1
    have d0 := H1.cell 0
    simp only [pkCells, List.getElem?_cons_succ, List.getElem?_cons_zero] at d1 d0
    simp only [Option.isSome_none, Bool.false_eq_true, if_false]
    by_cases h0 : s.b = 0
    · have hpr := H1.pr
      rw [h0] at hpr
      have PF := hid (pfirst_none (w.drewN k) y.Fp y.pp s.q hpr)
      have FP := hid (fpick_ok (w.drewN k) y.Ff y.pf s.ts H1.fa hl HG.out)
      replace h0 := hid h0
      clear H1 DP hpr
      go_wp2_with fail
      refine PF.out.mono ?_
      rintro e w2 ⟨rfl, hw⟩
      subst hw
      go_wp2_with fail
      refine FP.out.mono ?_
      rintro e w3 ⟨b, hb, rfl, k2, rfl⟩
      replace hb := hid hb
      generalize (if b.isSome then (0 : Int) else 4) = E
      generalize hnm : numF s.ts b = m
      replace hnm := hid hnm
      go_wp2
      go_ret
      exact ⟨m, .inr (.inr ⟨hbn.out, h0.out, b, hb.out, hnm.out.symm⟩), rfl, k + k2, rfl⟩
    · obtain ⟨t, r, hr⟩ := HQ.out h0
      have PF := hid (pfirst_ok (w.drewN k) y.Fp y.pp s.b (topB s.b) s.q H1.pr hb h0 rfl t r hr)
      replace h0 := hid h0
      replace hr := hid hr
      clear H1 DP d0
      go_wp2_with fail
      refine PF.out.mono ?_
      rintro e w2 ⟨rfl, hw⟩
      subst hw
      go_wp2
      go_ret
      exact ⟨t, .inr (.inl ⟨hbn.out, h0.out, r, hr.out⟩), rfl, k, rfl⟩
/-- What a tick makes: t goes. -/
def TickTo (s s' : PKS) (t : Nat) : Prop :=
  s'.now = (t : Int) ∧ s'.used = pkU s t ∧ s'.nw = s.nw + 1 ∧ s'.cl = s.cl ∧ s'.va = s.va ∧ s'.of = s.of ∧ s'.b = s.b ∧
  (s'.ts = s.ts ∨ ∃ b', FFirst s.ts s.ts.length b' ∧ s'.ts = tickF s.ts b') ∧
  (s'.ds = s.ds.map (passT (s.nw + 1)) ∨ ∃ b', IsFirst s.ds s.ds.length b' ∧ s'.ds = tickTs s.nw s.ds b') ∧
  (s'.q = s.q ∨ ∃ (v : Nat) (r : List Int), v < 8 ∧ s.q v = (t : Int) :: r ∧ s'.q = upF s.q v (r ++ [(t : Int)]))
/-- The class of who goes, and how he lies. -/
def ClsIs (s : PKS) (t : Nat) : Prop :=
  (t = 0 ∧ s.cl 0 = none) ∨ s.cl (t : Int) = some (.int .i64 1) ∨ s.cl (t : Int) = some (.int .i64 3) ∨
  (s.cl (t : Int) = some (.int .i64 2) ∧ ∃ (v : Nat) (r : List Int), v < 8 ∧ s.va (t : Int) = some (.int .i64 (v : Int)) ∧ s.q v = (t : Int) :: r ∧ (s.q v).length ≤ 999)
set_option maxHeartbeats 4000000 in
theorem pktick_gen {w0 : Env} {w : World} {p n V : Nat} {s : PKS} (h : PkM w0 p n s w) (hd : s.ds.length ≤ 1000) (hb : s.b < 256) (hq : s.b ≠ 0 → ∃ (t : Nat) (r : List Int), s.q (topB s.b) = (t : Int) :: r) (hl : s.ts.length ≤ 1000) (hV : V ≤ 1000000000000000) (hok : ∀ x ∈ s.ts, FOk V x) (hdk : ∀ x ∈ s.ds, DOk s.nw x) (hcl : ∀ t, BestIs s t → t ≤ 16 ∧ ClsIs s t) (u1 : 0 ≤ s.used) (u2 : s.used ≤ 1000000) (hnw : s.nw ≤ 1000000) :
    Calls Try.prog 10 #[.pointer (some ⟨p, 0, none⟩)] w fun e w' => ∃ (t : Nat) (s' : PKS), BestIs s t ∧ e = .returned (.int .i64 (t : Int)) ∧ TickTo s s' t ∧ PkM w0 p n s' w' := by
  have BE := hid (pkbest_gen h hd hb hq hl (fun y hy => (hok y hy).g0))
  obtain ⟨y, h, hn⟩ := h
  have H := hid h
  have HN := hid hn
  have HOK := hid hok
  have HDK := hid hdk
  have HCL := hid hcl
  clear h hn hok hq hdk hcl
  go_enter Try.func10, Try.ntmps10
  go_wp2_with fail
  refine BE.out.mono ?_
  rintro e w1 ⟨t, hbest, rfl, k, rfl⟩
  obtain ⟨t16, hcls⟩ := HCL.out t hbest
  replace hbest := hid hbest
  replace hcls := hid hcls
  clear BE HCL
  obtain ⟨u, hu⟩ : ∃ u, u = pkU s t := ⟨_, rfl⟩
  have HU := hid hu
  clear hu
  have H1 := H.out.nil ((Chg.refl Nil w).drewN k)
  have d6 := H1.cell 6
  have d7 := H1.cell 7
  have f6 := H1.blk.frozen 6
  have f7 := H1.blk.frozen 7
  simp only [pkCells, List.getElem?_cons_succ, List.getElem?_cons_zero] at d6 d7
  replace H1 := hid H1
  clear H
  generalize World.drewN w k = W at H1 d6 d7 f6 f7 ⊢
  go_upto_if 11 with (fail)
  go_cut [11] (fun _ wx => Hid (PkA w0 wx p y { s with now := t, used := u - 1 }))
  case first =>
    by_cases ht : (t : Int) = s.now
    · have hb1 : ((t : Int) == s.now) = true := by rw [beq_iff_eq]; exact ht
      have hb2 : (s.now == (t : Int)) = true := by rw [beq_iff_eq]; exact ht.symm
      have K := hid (show PkA w0 W p y { s with now := t, used := u - 1 } by
        have e : ({ s with now := t, used := u - 1 } : PKS) = s := by rw [HU.out]; unfold pkU; rw [if_pos ht, ht]; simp
        rw [e]; exact H1.out)
      clear ht
      go_wp2
      go_meet
      exact K
    · have hb1 : ((t : Int) == s.now) = false := by rw [beq_eq_false_iff_ne]; exact ht
      have hb2 : (s.now == (t : Int)) = false := by rw [beq_eq_false_iff_ne]; exact fun hh => ht hh.symm
      have K := hid (show PkA w0 ((W.setCell ⟨p, 6, none⟩ (.int .i64 t)).setCell ⟨p, 7, none⟩ (.int .i64 0)) p y { s with now := t, used := u - 1 } from by
        have hc : Chg (One p) W ((W.setCell ⟨p, 6, none⟩ (.int .i64 t)).setCell ⟨p, 7, none⟩ (.int .i64 0)) := ((Chg.refl (One p) W).setCell (p := ⟨p, 6, none⟩) (.inl (show One p p from rfl)) _).setCell (p := ⟨p, 7, none⟩) (.inl (show One p p from rfl)) _
        refine H1.out.self (s' := { s with now := t, used := u - 1 }) ?_ hc rfl rfl rfl rfl rfl rfl rfl rfl
        have e0 : u - 1 = 0 := by rw [HU.out]; unfold pkU; rw [if_neg ht]; omega
        rw [e0]
        exact (H1.out.blk.set 6 (.int .i64 t)).set 7 (.int .i64 0))
      clear ht
      go_wp2
      go_meet
      exact K
  case rest =>
    have hu1 : 1 ≤ u := by rw [HU.out]; unfold pkU; split <;> omega
    have hu2 : u ≤ 1000001 := by rw [HU.out]; unfold pkU; split <;> omega
    clear d6 d7 f6 f7 H1
    have c7 := hcut.out.cell 7
    have g7 := hcut.out.blk.frozen 7
    simp only [pkCells, List.getElem?_cons_succ, List.getElem?_cons_zero] at c7
    have hc : Chg (One p) wc (wc.setCell ⟨p, 7, none⟩ (.int .i64 u)) := (Chg.refl (One p) wc).setCell (p := ⟨p, 7, none⟩) (.inl (show One p p from rfl)) _
    have K2 : PkA w0 (wc.setCell ⟨p, 7, none⟩ (.int .i64 u)) p y { s with now := t, used := u } := hcut.out.self (s' := { s with now := t, used := u }) (hcut.out.blk.set 7 (.int .i64 u)) hc rfl rfl rfl rfl rfl rfl rfl rfl
    replace K2 := hid K2
    clear hc hcut
    obtain ⟨wo, hwo⟩ : ∃ wo : World, wo = wc := ⟨_, rfl⟩
    subst hwo
    go_upto_region 5 with fail
    clear c7 g7
    generalize World.setCell wo _ _ = X at K2 ⊢
    have c3 := K2.out.cell 3
    have c7 := K2.out.cell 7
    have c1 := K2.out.cell 1
    have c4 := K2.out.cell 4
    have c0 := K2.out.cell 0
    have c2 := K2.out.cell 2
    simp only [pkCells, List.getElem?_cons_succ, List.getElem?_cons_zero] at c3 c7 c1 c4 c0 c2
    rcases hcls.out with ⟨ht0, hcl⟩ | hcl | hcl | ⟨hcl, v, r, hv, hva, hqv, hql⟩
    · have lk : (Instr.lookup 47 (.map (some y.mc)) (.int .i64 t) false).run Try.prog X = .ok (.int .i64 0) X := K2.out.mc.lookN (t : Int) (by omega) (by omega) (by rw [ht0]; exact hcl)
      have DPA := hid (dpass_ok X y.Fd y.pd s.nw s.ds K2.out.de hd (by omega) HDK.out)
      clear c0 c1 c4 c7 ht0 hcl hcls
      go_wp2_with fail
      refine DPA.out.mono ?_
      rintro e w6 ⟨rfl, x1, x2⟩
      have K4 := hid (K2.out.dead x1 x2 (Grew.refl _ _) x1.lt)
      clear x1 x2 DPA c2
      go_wp2
      go_ret
      refine ⟨t, _, hbest.out, rfl, ?_, _, K4.out, HN.out⟩
      exact ⟨rfl, HU.out, rfl, rfl, rfl, rfl, rfl, .inl rfl, .inl rfl, .inl rfl⟩
    · have lk : (Instr.lookup 47 (.map (some y.mc)) (.int .i64 t) false).run Try.prog X = .ok (.int .i64 1) X := K2.out.mc.lookV (t : Int) (by omega) (by omega) hcl 0
      have FT := hid (ftick_ok X y.Ff y.pf V s.ts K2.out.fa hl hV HOK.out)
      clear hcl hcls c1 c4 c7
      go_wp2_with fail
      refine FT.out.mono ?_
      rintro e w5 ⟨b', hb', rfl, z1, z2⟩
      have K3 := K2.out.fair z1 z2 (Grew.refl _ _) z1.lt
      have b2 := K3.cell 2
      simp only [pkCells, List.getElem?_cons_succ, List.getElem?_cons_zero] at b2
      have DPA := hid (dpass_ok w5 y.Fd y.pd s.nw s.ds K3.de hd (by omega) HDK.out)
      replace K3 := hid K3
      replace hb' := hid hb'
      clear z1 z2 FT c0 c2
      generalize (if b'.isSome then (0 : Int) else 4) = E
      go_wp2_with fail
      refine DPA.out.mono ?_
      rintro e w6 ⟨rfl, x1, x2⟩
      have K4 := hid (K3.out.dead x1 x2 (Grew.refl _ _) x1.lt)
      clear x1 x2 DPA b2
      go_wp2
      go_ret
      refine ⟨t, _, hbest.out, rfl, ?_, _, K4.out, HN.out⟩
      exact ⟨rfl, HU.out, rfl, rfl, rfl, rfl, rfl, .inr ⟨b', hb'.out, rfl⟩, .inl rfl, .inl rfl⟩
    · have lk : (Instr.lookup 47 (.map (some y.mc)) (.int .i64 t) false).run Try.prog X = .ok (.int .i64 3) X := K2.out.mc.lookV (t : Int) (by omega) (by omega) hcl 0
      have DT := hid (dtick_ok X y.Fd y.pd s.nw s.ds K2.out.de hd (by omega) HDK.out)
      clear hcl hcls c0 c1 c4 c7
      go_wp2_with fail
      refine DT.out.mono ?_
      rintro e w5 ⟨b', hb', rfl, z1, z2⟩
      have K4 := hid (K2.out.dead z1 z2 (Grew.refl _ _) z1.lt)
      replace hb' := hid hb'
      clear z1 z2 DT c2
      generalize numOf s.ds b' = m
      go_wp2
      go_ret
      refine ⟨t, _, hbest.out, rfl, ?_, _, K4.out, HN.out⟩
      exact ⟨rfl, HU.out, rfl, rfl, rfl, rfl, rfl, .inl rfl, .inr ⟨b', hb'.out, rfl⟩, .inl rfl⟩
    · have lk : (Instr.lookup 47 (.map (some y.mc)) (.int .i64 t) false).run Try.prog X = .ok (.int .i64 2) X := K2.out.mc.lookV (t : Int) (by omega) (by omega) hcl 0
      have lv := fun q => K2.out.mv.lookV (t : Int) (by omega) (by omega) hva q
      have hv8 : (v : Int) < 8 := by omega
      have HQ := hid hqv
      have HQL := hid hql
      clear hcl hcls hqv hva c0 hql
      by_cases hm : u % 3 = 0
      · have hmb : (u % 3 == 0) = true := by rw [beq_iff_eq]; exact hm
        have PT := hid (pturn_ok X.drew y.Fp y.pp s.b s.q t r v (K2.out.nil ((Chg.refl Nil X).drew)).pr HQL.out hv HQ.out)
        have lv1 : (Instr.lookup 47 (.map (some y.mv)) (.int .i64 t) false).run Try.prog X.drew = .ok (.int .i64 (v : Int)) X.drew := lv 1
        clear hm
        go_upto_region 11 with fail
        clear lk c3 c7
        go_region_law (go_simp; go_at_call 27; refine PT.out.mono ?_; rintro e w5 ⟨F', rfl, z1, z2, z3⟩; replace z1 := hid z1; replace z2 := hid z2; replace z3 := hid z3)
        all_goals
          have K3 := (K2.out.nil ((Chg.refl Nil X).drew)).prio z1.out z2.out z3.out
          have b2 := K3.cell 2
          simp only [pkCells, List.getElem?_cons_succ, List.getElem?_cons_zero] at b2
          have DPA := hid (dpass_ok w5 y.Fd y.pd s.nw s.ds K3.de hd (by omega) HDK.out)
          replace K3 := hid K3
          clear c1 c4 c2 lv lv1 PT
          go_wp2_with fail
          refine DPA.out.mono ?_
          rintro e w6 ⟨rfl, x1, x2⟩
          have K4 := hid (K3.out.dead x1 x2 (Grew.refl _ _) x1.lt)
          clear x1 x2 DPA b2
          go_wp2
          go_ret
          refine ⟨t, _, hbest.out, rfl, ?_, _, K4.out, HN.out⟩
          exact ⟨rfl, HU.out, rfl, rfl, rfl, rfl, rfl, .inl rfl, .inl rfl, .inr ⟨v, r, hv, HQ.out, rfl⟩⟩
      · have hmb : (u % 3 == 0) = false := by rw [beq_eq_false_iff_ne]; exact hm
        have DPA := hid (dpass_ok X y.Fd y.pd s.nw s.ds K2.out.de hd (by omega) HDK.out)
        clear hm c1 c4 lv
        go_wp2_with fail
        refine DPA.out.mono ?_
        rintro e w6 ⟨rfl, x1, x2⟩
        have K4 := hid (K2.out.dead x1 x2 (Grew.refl _ _) x1.lt)
        clear x1 x2 DPA c2
        go_wp2
        go_ret
        refine ⟨t, _, hbest.out, rfl, ?_, _, K4.out, HN.out⟩
        exact ⟨rfl, HU.out, rfl, rfl, rfl, rfl, rfl, .inl rfl, .inl rfl, .inl rfl⟩
end Go.Proofs.Ytipmjfpoglkiaaa
