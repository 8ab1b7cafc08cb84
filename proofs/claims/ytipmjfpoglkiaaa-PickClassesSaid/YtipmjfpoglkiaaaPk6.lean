/- Contracts of package pick where only tasks of fair shares are: Best and Tick. Conditions: their times are few. -/
import Derived.Test.YtipmjfpoglkiaaaPk4
namespace Go.Proofs.Ytipmjfpoglkiaaa
open Go.ChangeShapes Go.WideShapes Go.ChangeAt Go.RowKit
set_option linter.unusedVariables false
def PPickF (ts : List FT) (w : World) (e : Ending) (w' : World) : Prop := ∃ b, FFirst ts ts.length b ∧ e = .returned (.tuple #[.int .i64 (numF ts b : Nat), .int .i64 (if b.isSome then 0 else 4)]) ∧ ∃ k, w' = w.drewN k
theorem fpick_ok (w : World) (F : Nat → Prop) (p : Nat) (ts : List FT) (h : FairAt w F p ts) (hl : ts.length ≤ 1000) (hg : ∀ y ∈ ts, y.g = 0) :
    Calls Try.prog 41 #[.pointer (some ⟨p, 0, none⟩)] w (PPickF ts w) := by
  obtain ⟨a, c, G, mb, h⟩ := h
  have H := hid h
  have HG := hid hg
  clear h hg
  by_cases h0 : ts.length = 0
  · obtain rfl : ts = [] := List.eq_nil_of_length_eq_zero h0
    clear h0
    go_enter Try.func41, Try.ntmps41
    go_wp2_with (go_at_call 36; refine (fnext_nil w F p a c G mb H.out).mono ?_; rintro e w' ⟨rfl, rfl⟩)
    go_ret2
    exact ⟨none, fun i x hi => absurd hi (by simp), rfl, 0, rfl⟩
  · obtain ⟨g, off, rfl, rfl, hg, hne⟩ := H.out.at (by omega)
    go_enter Try.func41, Try.ntmps41
    go_wp2_with fail
    refine (fnext_ok w F p ts g off c _ mb H.out hl HG.out).mono ?_
    rintro e w1 ⟨b, hb, rfl, n, rfl⟩
    replace hb := hid hb
    cases b with
    | none =>
      simp only [bestPtrF]
      go_wp2
      go_ret2
      exact ⟨none, hb.out, rfl, n, rfl⟩
    | some j =>
      obtain ⟨x, hj, hxj, hex, _⟩ := id hb.out
      have x0 := H.out.cell hxj 0 (by omega)
      simp only [ftCells, List.getElem?_cons_zero, Nat.add_zero] at x0
      have HT := hid (show numF ts (some j) = x.t by simp [numF, hxj])
      clear hxj hex
      simp only [bestPtrF]
      go_wp2
      go_ret2
      exact ⟨some j, hb.out, by rw [HT.out]; rfl, n, rfl⟩
/-- Only fair tasks are there. -/
structure OnlyF (s : PKS) : Prop where
  b : s.b = 0
  ds : s.ds = []
theorem pkbest_fair {w0 : Env} {w : World} {p n : Nat} {s : PKS} (h : PkM w0 p n s w) (ho : OnlyF s) (hl : s.ts.length ≤ 1000) (hg : ∀ y ∈ s.ts, y.g = 0) :
    Calls Try.prog 25 #[.pointer (some ⟨p, 0, none⟩)] w fun e w' => ∃ b, FFirst s.ts s.ts.length b ∧ e = .returned (.int .i64 (numF s.ts b : Nat)) ∧ ∃ k, w' = w.drewN k := by
  obtain ⟨y, h, _⟩ := h
  have d2 := h.cell 2
  simp only [pkCells, List.getElem?_cons_succ, List.getElem?_cons_zero] at d2
  have DP := dpick_ok w y.Fd y.pd s.nw s.ds h.de (by rw [ho.ds]; simp)
  have H := hid h
  have HO := hid ho
  have HG := hid hg
  rw [ho.ds] at DP
  replace DP := hid DP
  clear h ho hg
  go_enter Try.func25, Try.ntmps25
  go_wp2_with fail
  refine DP.out.mono ?_
  rintro e w1 ⟨b, hbn, rfl, k, rfl⟩
  have hbn2 := first_nil0 hbn
  subst hbn2
  have H1 := H.out.nil ((Chg.refl Nil w).drewN k)
  have d1 := H1.cell 1
  simp only [pkCells, List.getElem?_cons_succ, List.getElem?_cons_zero] at d1
  have hpr := H1.pr
  rw [HO.out.b] at hpr
  have PF := hid (pfirst_none (w.drewN k) y.Fp y.pp s.q hpr)
  have d0 := H1.cell 0
  simp only [pkCells, List.getElem?_cons_zero] at d0
  have FP := hid (fpick_ok (w.drewN k) y.Ff y.pf s.ts H1.fa hl HG.out)
  clear H1 DP hbn hpr
  simp only [Option.isSome_none, Bool.false_eq_true, if_false]
  go_wp2_with fail
  refine PF.out.mono ?_
  rintro e w2 ⟨rfl, hw⟩
  subst hw
  go_wp2_with fail
  refine FP.out.mono ?_
  rintro e w3 ⟨b, hb, rfl, k2, rfl⟩
  replace hb := hid hb
  generalize (if b.isSome then (0 : Int) else 4) = E
  generalize hnm : numF s.ts b = m
  replace hnm := hid hnm
  go_wp2
  go_ret
  exact ⟨b, hb.out, by rw [hnm.out]; rfl, k + k2, rfl⟩
theorem MpAt.lookN {w : World} {b n : Nat} {f : Int → Option Value} (h : MpAt w Try.prog 3 b n f) (i : Int) (h1 : 0 ≤ i) (h2 : i ≤ 1000) (hu : f i = none) : (Instr.lookup 47 (.map (some b)) (.int .i64 i) false).run Try.prog w = .ok (.int .i64 0) w := by
  have h3 := h.look (t := 47) (e := 3) Try.underlying3 Try.underlying47 (zeroIntQ _) i (wf_key (by omega) (by omega))
  rw [hu] at h3
  exact h3
/-- What a tick of fair tasks alone makes: t went, b' was charged. -/
def pkTickF (s : PKS) (t : Int) (b : Option Nat) : PKS := { s with ts := tickF s.ts b, now := t, used := pkU s t, nw := s.nw + 1, ds := [] }
def PTickPF (w0 : Env) (p n : Nat) (s : PKS) (e : Ending) (w' : World) : Prop := ∃ b b', FFirst s.ts s.ts.length b ∧ FFirst s.ts s.ts.length b' ∧ e = .returned (.int .i64 (numF s.ts b : Nat)) ∧ (b = none → PkM w0 p n { pkTickF s 0 none with ts := s.ts } w') ∧ (b ≠ none → PkM w0 p n (pkTickF s (numF s.ts b : Nat) b') w')
set_option maxHeartbeats 4000000 in
theorem pktick_fair {w0 : Env} {w : World} {p n V : Nat} {s : PKS} (h : PkM w0 p n s w) (ho : OnlyF s) (hl : s.ts.length ≤ 1000) (hV : V ≤ 1000000000000000) (hok : ∀ x ∈ s.ts, FOk V x) (hts : ∀ x ∈ s.ts, x.t ≤ 16 ∧ s.cl (x.t : Int) = some (.int .i64 1)) (hc0 : s.cl 0 = none) (u1 : 0 ≤ s.used) (u2 : s.used ≤ 1000000) (hnw : s.nw ≤ 1000000) :
    Calls Try.prog 10 #[.pointer (some ⟨p, 0, none⟩)] w (PTickPF w0 p n s) := by
  have BE := hid (pkbest_fair h ho hl (fun y hy => (hok y hy).g0))
  obtain ⟨y, h, hn⟩ := h
  have H := hid h
  have HN := hid hn
  have HOK := hid hok
  have HTS := hid hts
  have HD := hid ho.ds
  clear h hn ho hok hts
  go_enter Try.func10, Try.ntmps10
  go_wp2_with fail
  refine BE.out.mono ?_
  rintro e w1 ⟨b, hb, rfl, k, rfl⟩
  have hnb : (b = none ∧ numF s.ts b = 0) ∨ (b ≠ none ∧ numF s.ts b ≤ 16 ∧ s.cl ((numF s.ts b : Nat) : Int) = some (.int .i64 1)) := by
    cases b with
    | none => exact .inl ⟨rfl, rfl⟩
    | some j =>
      obtain ⟨x, hj, hx, _⟩ := id hb
      have e : numF s.ts (some j) = x.t := by simp [numF, hx]
      have := HTS.out x (List.mem_of_getElem? hx)
      exact .inr ⟨by simp, by rw [e]; exact this.1, by rw [e]; exact this.2⟩
  have HB := hid hb
  have HNB := hid hnb
  obtain ⟨t, ht⟩ : ∃ t : Nat, t = numF s.ts b := ⟨_, rfl⟩
  have ht16 : (t : Int) ≤ 16 := by rcases hnb with ⟨_, h⟩ | ⟨_, h, _⟩ <;> omega
  rw [← ht]
  have HT := hid ht
  clear hb hnb ht BE
  obtain ⟨u, hu⟩ : ∃ u, u = pkU s t := ⟨_, rfl⟩
  have HU := hid hu
  clear hu
  have H1 := H.out.nil ((Chg.refl Nil w).drewN k)
  have d6 := H1.cell 6
  have d7 := H1.cell 7
  have f6 := H1.blk.frozen 6
  have f7 := H1.blk.frozen 7
  simp only [pkCells, List.getElem?_cons_succ, List.getElem?_cons_zero] at d6 d7
  replace H1 := hid H1
  clear H
  generalize World.drewN w k = W at H1 d6 d7 f6 f7 ⊢
  go_upto_if 11 with (fail)
  go_cut [11] (fun _ wx => Hid (PkA w0 wx p y { s with now := t, used := u - 1 }))
  case first =>
    by_cases ht : (t : Int) = s.now
    · have hb1 : ((t : Int) == s.now) = true := by rw [beq_iff_eq]; exact ht
      have hb2 : (s.now == (t : Int)) = true := by rw [beq_iff_eq]; exact ht.symm
      have K := hid (show PkA w0 W p y { s with now := t, used := u - 1 } by
        have e : ({ s with now := t, used := u - 1 } : PKS) = s := by rw [HU.out]; unfold pkU; rw [if_pos ht, ht]; simp
        rw [e]; exact H1.out)
      clear ht
      go_wp2
      go_meet
      exact K
    · have hb1 : ((t : Int) == s.now) = false := by rw [beq_eq_false_iff_ne]; exact ht
      have hb2 : (s.now == (t : Int)) = false := by rw [beq_eq_false_iff_ne]; exact fun hh => ht hh.symm
      have K := hid (show PkA w0 ((W.setCell ⟨p, 6, none⟩ (.int .i64 t)).setCell ⟨p, 7, none⟩ (.int .i64 0)) p y { s with now := t, used := u - 1 } from by
        have hc : Chg (One p) W ((W.setCell ⟨p, 6, none⟩ (.int .i64 t)).setCell ⟨p, 7, none⟩ (.int .i64 0)) := ((Chg.refl (One p) W).setCell (p := ⟨p, 6, none⟩) (.inl (show One p p from rfl)) _).setCell (p := ⟨p, 7, none⟩) (.inl (show One p p from rfl)) _
        refine H1.out.self (s' := { s with now := t, used := u - 1 }) ?_ hc rfl rfl rfl rfl rfl rfl rfl rfl
        have e0 : u - 1 = 0 := by rw [HU.out]; unfold pkU; rw [if_neg ht]; omega
        rw [e0]
        exact (H1.out.blk.set 6 (.int .i64 t)).set 7 (.int .i64 0))
      clear ht
      go_wp2
      go_meet
      exact K
  case rest =>
    have hu1 : 1 ≤ u := by rw [HU.out]; unfold pkU; split <;> omega
    have hu2 : u ≤ 1000001 := by rw [HU.out]; unfold pkU; split <;> omega
    clear d6 d7 f6 f7 H1
    have c7 := hcut.out.cell 7
    have g7 := hcut.out.blk.frozen 7
    simp only [pkCells, List.getElem?_cons_succ, List.getElem?_cons_zero] at c7
    have hc : Chg (One p) wc (wc.setCell ⟨p, 7, none⟩ (.int .i64 u)) := (Chg.refl (One p) wc).setCell (p := ⟨p, 7, none⟩) (.inl (show One p p from rfl)) _
    have K2 : PkA w0 (wc.setCell ⟨p, 7, none⟩ (.int .i64 u)) p y { s with now := t, used := u } := hcut.out.self (s' := { s with now := t, used := u }) (hcut.out.blk.set 7 (.int .i64 u)) hc rfl rfl rfl rfl rfl rfl rfl rfl
    replace K2 := hid K2
    clear hc hcut
    obtain ⟨wo, hwo⟩ : ∃ wo : World, wo = wc := ⟨_, rfl⟩
    subst hwo
    go_upto_region 5 with fail
    clear c7 g7
    generalize World.setCell wo _ _ = X at K2 ⊢
    have c3 := K2.out.cell 3
    have c0 := K2.out.cell 0
    have c2 := K2.out.cell 2
    simp only [pkCells, List.getElem?_cons_succ, List.getElem?_cons_zero] at c3 c0 c2
    rcases HNB.out with ⟨hbn, hnm⟩ | ⟨hbn, _, hcl⟩
    · have ht0 : t = 0 := by rw [HT.out, hnm]
      have lk : (Instr.lookup 47 (.map (some y.mc)) (.int .i64 t) false).run Try.prog X = .ok (.int .i64 0) X := K2.out.mc.lookN (t : Int) (by omega) (by omega) (by rw [ht0]; exact hc0)
      have DPA := dpass_ok X y.Fd y.pd s.nw s.ds K2.out.de (by rw [HD.out]; simp) (by omega) (by rw [HD.out]; intro x hx; cases hx)
      rw [HD.out] at DPA
      replace DPA := hid DPA
      replace hbn := hid hbn
      replace ht0 := hid ht0
      clear hnm c0
      go_wp2_with fail
      refine DPA.out.mono ?_
      rintro e w6 ⟨rfl, x1, x2⟩
      have K4 := hid (K2.out.dead x1 x2 (Grew.refl _ _) x1.lt)
      clear x1 x2 DPA c2
      go_wp2
      go_ret
      refine ⟨b, b, HB.out, HB.out, by rw [HT.out]; rfl, fun _ => ?_, fun h => absurd hbn.out h⟩
      have h4 := K4.out
      rw [HU.out, ht0.out] at h4
      exact ⟨_, h4, HN.out⟩
    · have lk : (Instr.lookup 47 (.map (some y.mc)) (.int .i64 t) false).run Try.prog X = .ok (.int .i64 1) X := K2.out.mc.lookV (t : Int) (by omega) (by omega) (by rw [HT.out]; exact hcl) 0
      have FT := hid (ftick_ok X y.Ff y.pf V s.ts K2.out.fa hl hV HOK.out)
      replace hbn := hid hbn
      clear hcl
      go_wp2_with fail
      refine FT.out.mono ?_
      rintro e w5 ⟨b', hb', rfl, z1, z2⟩
      have K3 := K2.out.fair z1 z2 (Grew.refl _ _) z1.lt
      have b2 := K3.cell 2
      simp only [pkCells, List.getElem?_cons_succ, List.getElem?_cons_zero] at b2
      have DPA := dpass_ok w5 y.Fd y.pd s.nw s.ds K3.de (by rw [HD.out]; simp) (by omega) (by rw [HD.out]; intro x hx; cases hx)
      rw [HD.out] at DPA
      replace DPA := hid DPA
      replace K3 := hid K3
      replace hb' := hid hb'
      clear z1 z2 FT c0 c2
      generalize (if b'.isSome then (0 : Int) else 4) = E
      go_wp2_with fail
      refine DPA.out.mono ?_
      rintro e w6 ⟨rfl, x1, x2⟩
      have K4 := hid (K3.out.dead x1 x2 (Grew.refl _ _) x1.lt)
      clear x1 x2 DPA b2
      go_wp2
      go_ret
      refine ⟨b, b', HB.out, hb'.out, by rw [HT.out]; rfl, fun h => absurd h hbn.out, fun _ => ?_⟩
      have h4 := K4.out
      rw [← HT.out]
      rw [HU.out] at h4
      exact ⟨_, h4, HN.out⟩
end Go.Proofs.Ytipmjfpoglkiaaa
