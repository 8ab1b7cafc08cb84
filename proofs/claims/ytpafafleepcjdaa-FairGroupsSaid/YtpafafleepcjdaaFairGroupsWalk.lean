/- The walk of the law FairGroups: it returns true and changes nothing that was there. No condition. -/
import Derived.Test.YtpafafleepcjdaaGrpM
import Derived.Deep.DeepCutAuto
import Derived.Deep.CutBlock
namespace Go.Proofs.Ytpafafleepcjdaa
open Go.ChangeShapes Go.WideShapes Go.ChangeAt Go.RowKit
set_option linter.unusedVariables false
theorem GrM.add {w0 w : World} {F : Nat → Prop} {p m k : Nat} {ts : List FT} {S : GS} (h : GrM w0 F p m ts S w) (ha : FgA k ts) (hk : k ≤ 13) (hv : ∀ g, S.v g = 0) {q : Nat} (hq : S.q 2 = some q) (wt : Nat) (w1 : 1 ≤ wt) (w2 : wt ≤ 100) (I : Int) (hI : I = ((k + 2 : Nat) : Int)) (J : Int) (hJ : J = (wt : Int)) :
    Calls Try.prog 17 #[.pointer (some ⟨p, 0, none⟩), .int .i64 I, .int .i64 J, .int .i64 2] w fun e w' => e = .returned (.int .i64 0) ∧ ∃ F' ts', GrM w0 F' p m ts' S w' ∧ FgA (k + 1) ts' := by
  subst hI; subst hJ
  have hl := ha.len
  refine (gadd_ok w F p ts S m (k + 2) wt 2 q h.at' (by omega) (by omega) (by omega) w1 w2 (by omega) (by omega) hq ha.v0 hv (fun x hx => by have := (ha.ok x hx).2.2.1; omega)).mono ?_
  rintro e w' ⟨F', rfl, k1, k2, k3⟩
  exact ⟨rfl, F', _, h.step k1 k2 k3, ha.add wt w1 w2⟩
set_option maxRecDepth 100000 in
set_option maxHeartbeats 4000000 in
theorem fairGroups_walk (a0 a1 a2 a3 : Int) (w : World) (w0 : (Lit.int .i64 a0).wf = true) (w1 : (Lit.int .i64 a1).wf = true) (w2 : (Lit.int .i64 a2).wf = true) (w3 : (Lit.int .i64 a3).wf = true) :
    Calls Try.prog 6 #[.int .i64 a0, .int .i64 a1, .int .i64 a2, .int .i64 a3] w fun e w' => e = .returned (.bool true) ∧ Below w.heap.size w w' := by
  go_enter Try.func6, Try.ntmps6
  go_wp2_with fail
  refine (fbegun_ok _).mono ?_
  rintro e w1 ⟨rfl, c1⟩
  have C1 := hid (Chg.below c1 (fun i hi h => h) (Nat.le_refl _))
  clear c1
  go_wp2_with fail
  refine (fnew_ok _).mono ?_
  rintro e w2 ⟨F, p, rfl, k1, k2, k3⟩
  have M0 : Hid (GrM w F p 0 [] gs0 w2) := hid ⟨grp_of_fair k1, fun k hk => by
    rcases k3 k hk with h1 | h1
    · exact h1.elim
    · have := C1.out.size; omega, below_nil C1.out k2⟩
  clear k1 k2 k3 C1
  go_wp2_with fail
  refine (rest_nat _ 100 _ (by omega) (by omega)).mono ?_
  rintro e w3 ⟨ra, hra, rfl, rfl⟩
  go_wp2_with fail
  refine (rest_nat _ 100 _ (by omega) (by omega)).mono ?_
  rintro e w3 ⟨rb, hrb, rfl, rfl⟩
  go_wp2_with fail
  refine (rest_nat _ 14 _ (by omega) (by omega)).mono ?_
  rintro e w3 ⟨rn, hrn, rfl, rfl⟩
  obtain ⟨a, ha⟩ : ∃ a : Nat, a = ra + 1 := ⟨_, rfl⟩
  obtain ⟨b, hb⟩ : ∃ b : Nat, b = rb + 1 := ⟨_, rfl⟩
  obtain ⟨N, hN⟩ : ∃ N : Nat, N = rn + 1 := ⟨_, rfl⟩
  have a1 : 1 ≤ a := by omega
  have a2 : a ≤ 100 := by omega
  have b1 : 1 ≤ b := by omega
  have b2 : b ≤ 100 := by omega
  have n1 : 1 ≤ N := by omega
  have n2 : N ≤ 14 := by omega
  have ea : Hid ((1 : Int) + (ra : Int) = (a : Int)) := hid (by omega)
  have eb : Hid ((1 : Int) + (rb : Int) = (b : Int)) := hid (by omega)
  have en : Hid ((1 : Int) + (rn : Int) = (N : Int)) := hid (by omega)
  clear ha hb hN
  go_upto_region 5 with fail
  rw [ea.out, eb.out, en.out]
  clear ea eb en hra hrb hrn
  have G1 := hid (ggroup_ok _ F p [] gs0 0 M0.out.at' (by omega) 1 a (by omega) (by omega) a1 a2 rfl)
  go_wp2_with fail
  refine G1.out.mono ?_
  rintro e w4 ⟨F1, q1, rfl, y1, y2, y3⟩
  have M1 := hid (M0.out.step y1 y2 y3)
  have G2 := hid (ggroup_ok _ F1 p [] (gs0.add 1 q1 a) 1 M1.out.at' (by omega) 2 b (by omega) (by omega) b1 b2 (by simp [GS.add, gs0]))
  clear M0 G1 y1 y2 y3
  go_wp2_with fail
  refine G2.out.mono ?_
  rintro e w5 ⟨F2, q2, rfl, y1, y2, y3⟩
  have M2 := hid (M1.out.step y1 y2 y3)
  clear M1 G2 y1 y2 y3
  obtain ⟨S, hS⟩ : ∃ S, S = (gs0.add 1 q1 a).add 2 q2 b := ⟨_, rfl⟩
  rw [← hS] at M2
  have SV : Hid (∀ g, S.v g = 0) := hid (fun g => by rw [hS]; simp only [GS.add, gs0]; split; rfl; split <;> rfl)
  have SQ1 : Hid (S.q 1 = some q1) := hid (by rw [hS]; simp [GS.add])
  have SQ2 : Hid (S.q 2 = some q2) := hid (by rw [hS]; simp [GS.add])
  replace hS := hid hS
  have G3 := hid (gadd_ok _ F2 p [] S 2 1 50 1 q1 M2.out.at' (by simp) (by omega) (by omega) (by omega) (by omega) (by omega) (by omega) SQ1.out (fun x hx => by cases hx) SV.out (fun x hx => by cases hx))
  go_wp2_with fail
  refine G3.out.mono ?_
  rintro e w6 ⟨F3, rfl, y1, y2, y3⟩
  have I0 : Hid (∃ F ts, GrM w F p 2 ts S w6 ∧ FgA 0 ts) := hid ⟨F3, _, M2.out.step y1 y2 y3, fgA_one⟩
  clear M2 G3 y1 y2 y3 SQ1
  go_wp2
  go_loopw [52] (fun s52 wr => ∃ k : Nat, k ≤ N ∧ s52 = .int .i64 k ∧ Hid (∃ F ts, GrM w F p 2 ts S wr ∧ FgA k ts)) (fun s52 _ => N - (intOf s52).toNat)
  case atStart => exact ⟨0, by omega, rfl, I0⟩
  case round =>
    clear I0
    obtain ⟨k, hk, rfl, hJ⟩ := hrel
    by_cases hlt : k < N
    · go_wp2_with fail
      refine (rest_nat _ 100 _ (by omega) (by omega)).mono ?_
      rintro e w7 ⟨wt, hwt, rfl, rfl⟩
      have A : Hid (Calls Try.prog 17 #[.pointer (some ⟨p, 0, none⟩), .int .i64 (2 + (k : Int)), .int .i64 (1 + (wt : Int)), .int .i64 2] wr fun e w' => e = .returned (.int .i64 0) ∧ ∃ F' ts', GrM w F' p 2 ts' S w' ∧ FgA (k + 1) ts') := by
        obtain ⟨F, ts, j1, j2⟩ := hJ.out
        exact hid (j1.add j2 (by omega) SV.out SQ2.out (wt + 1) (by omega) (by omega) _ (by omega) _ (by omega))
      clear hJ
      go_wp2_with fail
      refine A.out.mono ?_
      rintro e w8 ⟨rfl, y1⟩
      replace y1 := hid y1
      clear A
      go_wp2
      go_roundw
      case rel => exact ⟨k + 1, by omega, by go_num, y1⟩
      case measure => simp [intOf]; omega
    · have hkN : k = N := by omega
      have I1 : Hid (∃ F ts, GrM w F p 2 ts S wr ∧ FgI a b 0 0 0 ts S) := by
        obtain ⟨F, ts, j1, j2⟩ := hJ.out
        rw [hkN] at j2
        exact hid ⟨F, ts, j1, FgI.start j2 (by omega) n2 hS.out a1 a2 b1 b2⟩
      clear hJ hkN hS SV
      obtain ⟨mn, hmn⟩ : ∃ mn, mn = min a b := ⟨_, rfl⟩
      have mn1 : 1 ≤ mn := by omega
      have mn2 : mn ≤ 100 := by omega
      have HMN := hid hmn
      clear hmn
      obtain ⟨wo, rfl⟩ : ∃ wo : World, wo = wr := ⟨_, rfl⟩
      have hcl := cost_le mn
      obtain ⟨cc, hcc⟩ : ∃ cc, cc = cost mn := ⟨_, rfl⟩
      have CO : Hid (∀ I : Int, I = (mn : Int) → Calls Try.prog 13 #[.int .i64 I] wo fun e w' => e = .returned (.tuple #[.int .i64 (cc : Int), .int .i64 0]) ∧ wo = w') := hid (fun I hI => by subst hI; rw [hcc]; exact cost_ok mn wo mn1 mn2)
      rw [← hcc] at hcl
      replace hcc := hid hcc
      go_upto_region 13 with fail
      go_cut [11, 12] (fun s11 s12 wx => wx = wo ∧ s11 = .int .i64 (cc : Int) ∧ s12 = .int .i64 0)
      case first =>
        go_wp2_with (go_at_call 13; refine (CO.out _ (by have := HMN.out; omega)).mono ?_; rintro e w' ⟨rfl, rfl⟩)
        all_goals
          go_meet
          exact ⟨rfl, rfl, rfl⟩
      case rest =>
      obtain ⟨rfl, rfl, rfl⟩ := hcut
      clear CO
      obtain ⟨wo, rfl⟩ : ∃ wo : World, wo = wc := ⟨_, rfl⟩
      have I2 : Hid (∃ F ts S' g0 g1, GrC w F p 2 wo.heap.size ts S' g0 g1 (wo.alloc (.cells #[.int .i64 0, .int .i64 0] 37)) ∧ FgI a b 0 g0 g1 ts S') := by
        obtain ⟨F, ts, j1, j2⟩ := I1.out
        exact hid ⟨F, ts, S, 0, 0, j1.row, j2⟩
      clear I1
      obtain ⟨gb, hgb⟩ : ∃ gb, gb = wo.heap.size := ⟨_, rfl⟩
      rw [← hgb] at I2
      go_upto_region 15 with fail
      rw [← hgb]
      clear hgb
      generalize World.alloc wo _ = wa at I2 ⊢
      go_wp2_with fail
      refine (rest_nat _ 400 _ (by omega) (by omega)).mono ?_
      rintro e w8 ⟨T, hT, rfl, rfl⟩
      go_wp2
      go_loopw [76] (fun s76 wr => ∃ i : Nat, i ≤ T ∧ s76 = .int .i64 i ∧ Hid (∃ F ts S' g0 g1, GrC w F p 2 gb ts S' g0 g1 wr ∧ FgI a b i g0 g1 ts S')) (fun s76 _ => T - (intOf s76).toNat)
      case atStart => exact ⟨0, by omega, rfl, I2⟩
      case round =>
        clear I2
        obtain ⟨i, hi, rfl, hJ⟩ := hrel
        by_cases hlt2 : i < T
        · obtain ⟨F, ts, S', g0, g1, j1, j2⟩ := id hJ.out
          obtain ⟨bv1, bv2⟩ := j2.bd
          have TK := hid (gtick_ok wr F p (i * 1048576) ts S' 2 j1.gm.at' (by have := j2.len; omega) (by omega) j2.two ⟨bv1, bv2⟩ j2.ok)
          have J1 := hid j1
          have J2 := hid j2
          clear j1 j2 bv1 bv2 hJ
          obtain ⟨wo, rfl⟩ : ∃ wo : World, wo = wr := ⟨_, rfl⟩
          go_wp2_with fail
          refine TK.out.mono ?_
          rintro e w5 ⟨j, x, hx, h1, h2, rfl, k1, k2⟩
          obtain ⟨f1, f2⟩ := J2.out.tick a1 b1 hx h1 h2
          have C1 := hid (J1.out.tick k1 k2)
          obtain ⟨P1, P2⟩ := C1.out.put
          have b0 := C1.out.cb.cell 0
          have b1' := C1.out.cb.cell 1
          have fz := C1.out.cb.frozen
          simp only [List.getElem?_cons_succ, List.getElem?_cons_zero] at b0 b1'
          have hg : g0 ≤ 400 ∧ g1 ≤ 400 := by have := J2.out.gi; omega
          obtain ⟨hg0, hg1⟩ := hg
          have HF1 := hid f1
          have HF2 := hid f2
          replace P1 := hid P1
          replace P2 := hid P2
          generalize (ts.set j (runF x)) = ts' at HF1 HF2 P1 P2
          generalize (S'.setV x.g (S'.v x.g + cost (S'.w x.g))) = S2 at HF1 HF2 P1 P2
          clear hx h1 h2 k1 k2 f1 f2 C1 J1 J2 TK
          have FIN : Hid (∃ G0 G1, (x.t = 1 → (G0 = g0 + 1 ∧ G1 = g1)) ∧ (x.t ≠ 1 → G0 = g0 ∧ G1 = g1 + 1) ∧ FgI a b (i + 1) G0 G1 ts' S2) := by
            by_cases ht : x.t = 1
            · exact hid ⟨g0 + 1, g1, fun _ => ⟨rfl, rfl⟩, fun h => absurd ht h, HF1.out ht⟩
            · exact hid ⟨g0, g1 + 1, fun h => absurd h ht, fun _ => ⟨rfl, rfl⟩, HF2.out ht⟩
          obtain ⟨G0, G1, e1, e2, fi⟩ := FIN.out
          have FI := hid fi
          clear FIN HF1 HF2 fi
          go_upto_if 86 with (fail)
          go_cut [86] (fun _ wx => Hid (GrC w F p 2 gb ts' S2 G0 G1 wx))
          case first =>
            by_cases ht : x.t = 1
            · have t1 : ((x.t : Int) == 1) = true := by rw [beq_iff_eq]; omega
              have K : Hid (GrC w F p 2 gb ts' S2 G0 G1 (w5.setCell ⟨gb, 0, none⟩ (.int .i64 ((g0 : Int) + 1)))) := hid (by obtain ⟨u1, u2⟩ := e1 ht; rw [u1, u2]; exact P1.out)
              have fz0 := fz 0
              clear ht e1 e2 P1 P2
              go_wp2
              go_meet
              exact K
            · have t1 : ((x.t : Int) == 1) = false := by rw [beq_eq_false_iff_ne]; omega
              have K : Hid (GrC w F p 2 gb ts' S2 G0 G1 (w5.setCell ⟨gb, 1, none⟩ (.int .i64 ((g1 : Int) + 1)))) := hid (by obtain ⟨u1, u2⟩ := e2 ht; rw [u1, u2]; exact P2.out)
              have fz0 := fz 1
              clear ht e1 e2 P1 P2
              go_wp2
              go_meet
              exact K
          case rest =>
            clear P1 P2 e1 e2 b0 b1' fz
            obtain ⟨wp, rfl⟩ : ∃ wp : World, wp = wc := ⟨_, rfl⟩
            have d0 := hcut.out.cb.cell 0
            have d1 := hcut.out.cb.cell 1
            simp only [List.getElem?_cons_succ, List.getElem?_cons_zero] at d0 d1
            obtain ⟨z1, hz1⟩ := FI.out.two.q1
            obtain ⟨z2, hz2⟩ := FI.out.two.q2
            have A1 := ggat_ok wp F p ts' S2 2 hcut.out.gm.at' 1 z1 (by omega) hz1
            have A2 := ggat_ok wp F p ts' S2 2 hcut.out.gm.at' 2 z2 (by omega) hz2
            obtain ⟨bd1, bd2⟩ := FI.out.bd
            have ev1 := FI.out.v1
            have ev2 := FI.out.v2
            have dd1 := FI.out.d1
            have dd2 := FI.out.d2
            have gg := FI.out.gi
            rw [← HMN.out, ← hcc.out] at dd1 dd2
            have ca := cost_le a
            have cb := cost_le b
            have CA := hid (cost_ok a wp a1 a2)
            have CB := hid (cost_ok b wp b1 b2)
            generalize S2.v 1 = v1 at A1 bd1 ev1 dd1 dd2
            generalize S2.v 2 = v2 at A2 bd2 ev2 dd1 dd2
            generalize cost a = ca' at CA ev1 ca
            generalize cost b = cb' at CB ev2 cb
            have hv1 : v1 ≤ 1000000000 := by clear ev1 ev2; omega
            have hv2 : v2 ≤ 1000000000 := by clear ev1 ev2; omega
            have m1 : wrap64 ((ca' : Int) * (G0 : Int)) = (v1 : Int) := by
              rw [ev1, ← Int.natCast_mul]
              refine IntWalk.wrap64_in _ ⟨by omega, ?_⟩
              rw [← ev1]; omega
            have m2 : wrap64 ((cb' : Int) * (G1 : Int)) = (v2 : Int) := by
              rw [ev2, ← Int.natCast_mul]
              refine IntWalk.wrap64_in _ ⟨by omega, ?_⟩
              rw [← ev2]; omega
            replace ev1 := hid ev1
            replace ev2 := hid ev2
            have l1 : ¬ ((cc : Int) < (v1 : Int) - (v2 : Int)) := by clear m1 m2; omega
            have s1 : wrap64 ((v1 : Int) - (v2 : Int)) = (v1 : Int) - (v2 : Int) := IntWalk.wrap64_in _ ⟨by clear m1 m2; omega, by clear m1 m2; omega⟩
            have s2 : wrap64 ((v2 : Int) - (v1 : Int)) = (v2 : Int) - (v1 : Int) := IntWalk.wrap64_in _ ⟨by clear m1 m2; omega, by clear m1 m2; omega⟩
            have t1 : decide ((cc : Int) < (v1 : Int) - (v2 : Int)) = false := decide_eq_false l1
            have l2 : ¬ ((cc : Int) < (v2 : Int) - (v1 : Int)) := by clear m1 m2; omega
            have t2 : decide ((cc : Int) < (v2 : Int) - (v1 : Int)) = false := decide_eq_false l2
            have Y : Hid (∃ F ts S' g0 g1, GrC w F p 2 gb ts S' g0 g1 wp ∧ FgI a b (i + 1) g0 g1 ts S') := hid ⟨F, ts', S2, G0, G1, hcut.out, FI.out⟩
            replace A1 := hid A1
            replace A2 := hid A2
            clear hz1 hz2 hcut FI bd1 bd2 gg
            go_wp2_with fail
            refine A1.out.mono ?_
            rintro e w9 ⟨rfl, rfl⟩
            go_wp2_with fail
            refine A2.out.mono ?_
            rintro e w9 ⟨rfl, rfl⟩
            go_wp2_with fail
            refine CA.out.mono ?_
            rintro e w9 ⟨rfl, rfl⟩
            go_wp2_with fail
            refine CB.out.mono ?_
            rintro e w9 ⟨rfl, rfl⟩
            clear A1 A2 CA CB ca cb dd1 dd2 hcl hg0 hg1 mn1 mn2
            go_wp2
            go_roundw
            case rel => exact ⟨i + 1, by omega, by go_num, Y⟩
            case measure => simp [intOf]; omega
        · have hb : Hid (Below w.heap.size w wr) := by
            obtain ⟨F, ts, S', g0, g1, j1, j2⟩ := hJ.out
            exact hid j1.gm.bel
          clear hJ
          go_wp2
          go_ret
          exact ⟨rfl, hb.out⟩
end Go.Proofs.Ytpafafleepcjdaa
