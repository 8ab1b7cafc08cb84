/- The walk of the law PickAlone: it returns true and changes nothing that was there. No condition. -/
import Derived.Test.YtipmjfpoglkiaaaPk9
import Derived.Test.YtipmjfpoglkiaaaPk5
import Derived.Test.YtipmjfpoglkiaaaFairRow
import Derived.Deep.DeepCutAuto
import Derived.Deep.CutBlock
namespace Go.Proofs.Ytipmjfpoglkiaaa
open Go.ChangeShapes Go.WideShapes Go.ChangeAt Go.RowKit
set_option linter.unusedVariables false
theorem rd_take {w : World} {R : Nat → Prop} {a : Option Addr} {n c k : Nat} {l : List Int} (h : Rd w R 1 a n c (ints .i64 l)) (hk : k ≤ n) : Rd w R 1 a k c (ints .i64 (l.take k)) := by
  have h1 := h.take_n hk
  rwa [Nat.mul_one, show (ints .i64 l).take k = ints .i64 (l.take k) from (List.map_take ..).symm] at h1
theorem rd_rest {w0 w : World} {a : Option Addr} {n c : Nat} {l : List Int} (h : Rd w0 (Upto w0.heap.size) 1 a n c (ints .i64 l)) (hb : Below w0.heap.size w0 w) : Rd w (Upto w0.heap.size) 1 a n c (ints .i64 l) :=
  h.chg (F := Nil) (Chg.of_below hb _) (fun _ _ _ h => h)
set_option maxRecDepth 100000 in
set_option maxHeartbeats 4000000 in
theorem pickAlone_walk (a0 : Option Addr) (len0 cap0 : Nat) (z0 : List Int) (a1 : Option Addr) (len1 cap1 : Nat) (z1 : List Int) (w : World) (w0 : IsRow .i64 w a0 len0 cap0 z0) (w1 : IsRow .i64 w a1 len1 cap1 z1) :
    Calls Try.prog 4 #[.slice a0 len0 cap0, .slice a1 len1 cap1] w fun e w' => e = .returned (.bool true) ∧ Below w.heap.size w w' := by
  have hl1 := w0.1.1
  have hl2 := w0.1.2.1
  have hm1 := w1.1.1
  have hm2 := w1.1.2.1
  unfold maxLen at hl2 hm2
  have W0 := hid w0.1
  have W1 := hid w1.1
  clear w0 w1
  go_enter Try.func4, Try.ntmps4
  go_wp2_with fail
  refine (pickBegun_ok _).mono ?_
  rintro e w1 ⟨rfl, b1⟩
  go_wp2_with fail
  refine (fbegun_ok _).mono ?_
  rintro e w2 ⟨rfl, c1⟩
  have B2 : Below w.heap.size w w2 := below_nil b1 c1
  have NW := hid (pknew_ok (env_of B2))
  clear b1 c1
  replace B2 := hid B2
  go_wp2_with fail
  refine NW.out.mono ?_
  rintro e w3 ⟨p, rfl, h1⟩
  have B3 := hid h1.belw
  replace h1 := hid h1
  clear NW B2
  go_upto_region 4 with fail
  go_cut [0] (fun s0 wx => wx = w3 ∧ ∃ N : Nat, N ≤ 16 ∧ N ≤ len0 ∧ s0 = .slice a0 N cap0)
  case first =>
    go_wp2
    · go_meet
      exact ⟨rfl, 16, by omega, by omega, rfl⟩
    · go_meet
      exact ⟨rfl, len0, by omega, by omega, by simp⟩
  case rest =>
    obtain ⟨rfl, N, hN1, hN2, rfl⟩ := hcut
    obtain ⟨zs, hzs⟩ : ∃ zs, zs = z0.take N := ⟨_, rfl⟩
    have RZ : Hid (Rd w (Upto w.heap.size) 1 a0 N cap0 (ints .i64 zs)) := hid (by rw [hzs]; exact rd_take W0.out hN2)
    have hzl : zs.length = N := RZ.out.ilen
    clear hzs W0
    have FS := fairs_ok _ _ _ _ zs _ (RZ.out.below B3.out (fun _ h => h)) hN1
    unfold PFairs at FS
    replace FS := hid FS
    replace hzl := hid hzl
    go_wp2_with fail
    refine FS.out.mono ?_
    rintro e w4 ⟨F, pf, rfl, h2⟩
    have hlt4 : ∀ k, (F k ∨ k < w.heap.size) → k < w4.heap.size := fun k hk => by
      rcases hk with hk | hk
      · exact h2.fair.lt k hk
      · have := B3.out.size; have := h2.bel.size; omega
    obtain ⟨E, hE⟩ : ∃ E : Env, E = ⟨w4, fun k => F k ∨ k < w.heap.size, hlt4⟩ := ⟨_, rfl⟩
    have hEw : E.w = w4 := by rw [hE]
    have hEK : E.K = fun k => F k ∨ k < w.heap.size := by rw [hE]
    have P4 : PkM E p 0 pkNew w4 := h1.out.env (H := fun k => wc.heap.size ≤ k) ⟨h2.bel.os, h2.bel.tape, h2.bel.output, h2.bel.size, fun k hk _ => h2.bel.block k hk⟩ (fun k hk => .inr hk) hEw (by
      rw [hEK]
      intro k hk
      rcases hk with hk | hk
      · exact .inr (h2.new k hk)
      · exact .inl hk)
    have B4 : Below w.heap.size w w4 := B3.out.trans (h2.bel.mono B3.out.size)
    have START : Hid (∀ s wr n, PkM E p n s wr → s.ts = mkF zs zs.length → ∃ E', Two w E' p pf n s wr) := fun s wr n hp hts => two_start (F := F) hp hEw (by rw [hts]; exact h2.fair) (fun k hk => by have := h2.new k hk; have := B3.out.size; omega) (fun k hk => by rw [hEK]; exact .inl hk) (fun k hk => by rw [hEK] at hk; exact hk) (fun k hk => by rw [hEK]; exact .inr hk) B4
    have BELO : Hid (∀ s wr n, PkM E p n s wr → Below w.heap.size w wr) := fun s wr n hp => by
      have hb := hp.bel
      rw [hEw] at hb
      exact B4.trans (hb.below (fun k hk hF => hF (by rw [hEK]; exact .inr hk)) B4.size)
    have I0 : Hid (∃ s, PkM E p 0 s w4 ∧ Al0 zs 0 s) := hid ⟨_, P4, al0_new zs⟩
    clear h1 h2 hlt4 hE hEw hEK P4 B4 FS B3
    go_wp2
    go_loopw [36] (fun s36 wr => ∃ k : Nat, k ≤ N ∧ s36 = .int .i64 k ∧ Hid (∃ s, PkM E p k s wr ∧ Al0 zs k s)) (fun s36 _ => N - (intOf s36).toNat)
    case atStart => exact ⟨0, by omega, rfl, I0⟩
    case round =>
      clear I0
      obtain ⟨k, hk, rfl, hJ⟩ := hrel
      by_cases hlt : k < N
      · obtain ⟨s, j1, j2⟩ := id hJ.out
        have hz : k < zs.length := by rw [hzl.out]; exact hlt
        obtain ⟨g, off, rfl, _, _, hc⟩ := (rd_rest RZ.out (BELO.out _ _ _ j1)).at hz
        have hc1 := hc k hz
        clear hc
        have hz2 := wtF_le zs[k]
        have hz3 := rest_nonneg zs[k] 100 (by omega)
        have hz4 := rest_lt zs[k] 100 (by omega)
        have hz1 := wtF_int zs[k]
        have hts := j2.ts
        have A := pkFair_ok j1 (by omega) (k + 1) (wtF zs[k]) (by omega) (by omega) hz2.1 hz2.2 (j2.i.co k (Nat.le_refl _)) (j2.va k (Nat.le_refl _)) (by rw [hts, mkF_len]; omega) j2.i.inv.gz (fun x hx => j2.i.inv.absent (k + 1) (by omega) x hx)
        rw [show ((k + 1 : Nat) : Int) = (k : Int) + 1 by omega] at A
        have ST : Hid (∀ (o : Option Nat) (w5 : World), FLeast s.ts s.ts.length o → PkM E p (k + 1) { s with ts := s.ts ++ [wokenF o (newF (k + 1) (wtF zs[k]))], cl := updM s.cl ((k : Int) + 1) (some (.int .i64 1)), va := updM s.va ((k : Int) + 1) (some (.int .i64 (wtF zs[k] : Nat))) } w5 → ∃ s, PkM E p (k + 1) s w5 ∧ Al0 zs (k + 1) s) := fun o w5 ho hp => ⟨_, hp, by
          have := j2.add hz (by rw [hzl.out]; exact hN1) ho
          rw [show ((k + 1 : Nat) : Int) = (k : Int) + 1 by omega] at this
          exact this⟩
        replace A := hid A
        generalize hzz : zs[k] = z at hc1 hz1 hz2 hz3 hz4 A ST
        clear hzz
        generalize hww : wtF z = wt at hz1 hz2 A ST
        clear j1 j2 hJ hts hww
        go_wp2_with fail
        refine (rest_any _ _ _ (by omega) (by omega)).mono ?_
        rintro e w5 ⟨rfl, rfl⟩
        go_wp2_with fail
        refine A.out.mono ?_
        rintro e w6 ⟨o, rfl, ho, y1⟩
        have Y := hid (ST.out o w6 ho y1)
        clear y1 ho A ST
        go_wp2
        go_roundw
        case rel => exact ⟨k + 1, by omega, by go_num, Y⟩
        case measure => simp [intOf]; omega
      · have hkN : k = N := by omega
        have I1 : Hid (∃ E s, Two w E p pf (N + 0) s wr ∧ AlI N 0 s) := by
          obtain ⟨s, j1, j2⟩ := hJ.out
          rw [hkN] at j1 j2
          obtain ⟨E', hT⟩ := START.out _ _ _ j1 (by rw [j2.ts, hzl.out])
          exact hid ⟨E', s, hT, j2.i⟩
        clear hJ START BELO RZ hzl hkN
        obtain ⟨wo, hwo⟩ : ∃ wo : World, wo = wr := ⟨_, rfl⟩
        subst hwo
        go_upto_region 14 with fail
        go_cut [54, 55, 56] (fun s54 s55 s56 wx => wx = wo ∧ ∃ M : Nat, M ≤ 150 ∧ M ≤ len1 ∧ s54 = .slice a1 M cap1 ∧ s55 = .int .i64 M ∧ s56 = .int .i64 0)
        case first =>
          go_wp2
          · go_meet
            exact ⟨rfl, 150, by omega, by omega, rfl, rfl, rfl⟩
          · go_meet
            exact ⟨rfl, len1, by omega, by omega, by simp, by simp, rfl⟩
        case rest =>
          obtain ⟨rfl, M, hM1, hM2, rfl, rfl, rfl⟩ := hcut
          obtain ⟨Z, hZ⟩ : ∃ Z, Z = z1.take M := ⟨_, rfl⟩
          have RZ : Hid (Rd w (Upto w.heap.size) 1 a1 M cap1 (ints .i64 Z)) := hid (by rw [hZ]; exact rd_take W1.out hM2)
          have ZL := hid RZ.out.ilen
          clear hZ W1
          go_wp2
          go_loopw [56] (fun s56 wr => ∃ m : Nat, m ≤ M ∧ s56 = .int .i64 m ∧ Hid (∃ E s, Two w E p pf (N + m) s wr ∧ AlI N m s)) (fun s56 _ => M - (intOf s56).toNat)
          case atStart => exact ⟨0, by omega, rfl, I1⟩
          case round =>
            clear I1
            obtain ⟨m, hm, rfl, hJ⟩ := hrel
            by_cases hlt2 : m < M
            · obtain ⟨E, s, j1, j2⟩ := id hJ.out
              have hz : m < Z.length := by rw [ZL.out]; exact hlt2
              obtain ⟨g, off, rfl, _, _, hc⟩ := (rd_rest RZ.out j1.bel).at hz
              have hc1 := hc m hz
              clear hc
              generalize Z[m] = v at hc1
              obtain ⟨F, hF⟩ := j1.fa
              have J1 := hid j1
              have J2 := hid j2
              have HF := hid hF
              have i1 : (m : Int) < (M : Int) := by omega
              clear j1 j2 hF hJ
              obtain ⟨wo, hwo⟩ : ∃ wo : World, wo = wr := ⟨_, rfl⟩
              subst hwo
              go_wp2_with fail
              refine (rest_nat _ 16 _ (by omega) (by omega)).mono ?_
              rintro e w5 ⟨i, hi, rfl, rfl⟩
              have hi16 : i < 16 := by omega
              clear hi
              go_wp2_with fail
              refine (rest_nat _ 4 _ (by omega) (by omega)).mono ?_
              rintro e w5 ⟨d, hd, rfl, rfl⟩
              have hT : (1 : Int) + (i : Int) = ((i + 1 : Nat) : Int) := by omega
              rw [hT]
              clear hT
              by_cases h0 : d = 0
              · subst h0
                clear hd
                have A := hid (al_block J1.out.pk J2.out (by omega) i hi16)
                generalize hti : ((i + 1 : Nat) : Int) = ti at A
                replace hti := hid hti
                obtain ⟨r, hr⟩ : ∃ r, r = blkR s.ts i := ⟨_, rfl⟩
                rw [← hr] at A
                replace hr := hid hr
                go_wp2_with fail
                refine A.out.mono ?_
                rintro e w6 ⟨rfl, s', e1, k1, k2⟩
                have B := fb_block (two_fair J1.out k2 HF.out.1 HF.out.2.2.1) J2.out.inv J2.out.n16 i
                rw [hti.out, ← hr.out] at B
                replace B := hid B
                replace e1 := hid e1
                replace k1 := hid k1
                replace k2 := hid k2
                clear A
                go_wp2_with fail
                refine B.out.mono ?_
                rintro e w7 ⟨rfl, f1, f2⟩
                have Y : Hid (∃ E s, Two w E p pf (N + (m + 1)) s w7 ∧ AlI N (m + 1) s) := by
                  obtain ⟨E', hT⟩ := two_both (F' := F) J1.out k2.out HF.out (by rw [e1.out]; exact f1) f2
                  exact hid ⟨E', s', hT, k1.out⟩
                clear f1 f2 B e1 k1 k2
                go_wp2
                go_roundw
                case rel => exact ⟨m + 1, by omega, by go_num, Y⟩
                case measure => simp [intOf]; omega
              · by_cases h1 : d = 1
                · subst h1
                  clear hd h0
                  have A := hid (al_wake J1.out.pk J2.out (by omega) i hi16)
                  generalize hti : ((i + 1 : Nat) : Int) = ti at A
                  replace hti := hid hti
                  obtain ⟨r, hr⟩ : ∃ r, r = wakR s.ts i := ⟨_, rfl⟩
                  rw [← hr] at A
                  replace hr := hid hr
                  go_wp2_with fail
                  refine A.out.mono ?_
                  rintro e w6 ⟨rfl, s', e1, k1, k2⟩
                  have B := fb_wake (two_fair J1.out k2 HF.out.1 HF.out.2.2.1) J2.out.inv J2.out.n16 i
                  rw [hti.out, ← hr.out] at B
                  replace B := hid B
                  replace e1 := hid e1
                  replace k1 := hid k1
                  replace k2 := hid k2
                  clear A
                  go_wp2_with fail
                  refine B.out.mono ?_
                  rintro e w7 ⟨rfl, ts', e2, f1, f2⟩
                  have Y : Hid (∃ E s, Two w E p pf (N + (m + 1)) s w7 ∧ AlI N (m + 1) s) := by
                    obtain ⟨E', hT⟩ := two_both (F' := F) J1.out k2.out HF.out (by rw [wakT_uniq e1.out e2]; exact f1) f2
                    exact hid ⟨E', s', hT, k1.out⟩
                  clear f1 f2 B e1 k1 k2 e2
                  go_wp2
                  go_roundw
                  case rel => exact ⟨m + 1, by omega, by go_num, Y⟩
                  case measure => simp [intOf]; omega
                · have b0 : ((d : Int) == 0) = false := by rw [beq_eq_false_iff_ne]; omega
                  have b1 : ((d : Int) == 1) = false := by rw [beq_eq_false_iff_ne]; omega
                  clear hd h0 h1
                  have B := hid (fb_tick HF.out.1 J2.out.inv J2.out.n16 (by omega))
                  go_wp2_with fail
                  refine B.out.mono ?_
                  rintro e w6 ⟨r, er, ts', rfl, e2, f1, f2⟩
                  have hs6 : E.w.heap.size ≤ w6.heap.size := by rw [J1.out.ew]; exact f2.size
                  have A := al_tick (J1.out.pk.env (E' := E.at w6 hs6) f2 (fun k hk => .inl (HF.out.2.2.1 k hk)) rfl (Grew.refl _ _)) J2.out (by omega)
                  have B6 : Below w.heap.size w w6 := J1.out.bel.trans (f2.below (fun k hk hF => by have := HF.out.2.1 k hF; omega) J1.out.bel.size)
                  have FIN : Hid (∀ (r' : Int) s' w7, TikT s.ts r' s'.ts → AlI N (m + 1) s' → PkM (E.at w6 hs6) p (N + m + 1) s' w7 → r' = r ∧ ∃ E s, Two w E p pf (N + (m + 1)) s w7 ∧ AlI N (m + 1) s) := fun r' s' w7 t1 k1 k2 => by
                    obtain ⟨u1, u2⟩ := tikT_uniq J2.out.inv t1 e2
                    obtain ⟨E', hT⟩ := two_start (F := F) k2 rfl (by rw [u2]; exact f1) HF.out.2.1 HF.out.2.2.1 HF.out.2.2.2 J1.out.ek B6
                    exact ⟨u1, E', s', hT, k1⟩
                  replace A := hid A
                  clear B6 e2 f1 f2 B
                  go_wp2_with fail
                  refine A.out.mono ?_
                  rintro e w7 ⟨r', s', rfl, t1, k1, k2⟩
                  obtain ⟨rfl, Y⟩ := FIN.out _ _ _ t1 k1 k2
                  replace Y := hid Y
                  clear t1 k1 k2 FIN A
                  go_wp2
                  go_roundw
                  case rel => exact ⟨m + 1, by omega, by go_num, Y⟩
                  case measure => simp [intOf]; omega
            · have hb : Hid (Below w.heap.size w wr) := by
                obtain ⟨E, s, j1, j2⟩ := hJ.out
                exact hid j1.bel
              clear hJ
              go_wp2
              go_ret
              exact ⟨rfl, hb.out⟩
end Go.Proofs.Ytipmjfpoglkiaaa
