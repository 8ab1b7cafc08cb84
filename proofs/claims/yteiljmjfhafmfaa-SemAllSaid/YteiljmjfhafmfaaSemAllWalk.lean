/- The walk of the law SemAll: it returns true and changes nothing that was there. No condition. -/
import Derived.Test.YteiljmjfhafmfaaAllQ
namespace Go.Proofs.Yteiljmjfhafmfaa
open Go.ChangeShapes Go.WideShapes Go.ChangeAt Go.RowKit
set_option linter.unusedVariables false
/-- A row of numbers with a block of its own. -/
def SlN (w : World) (N0 : Nat) (a : Option Addr) (n c : Nat) (l : List Int) : Prop := ∃ G, Sl w 3 1 a n c (ints .i64 l) G ∧ ∀ g, G = some g → N0 ≤ g
theorem SlN.store {w w' : World} {N0 mb : Nat} {a : Option Addr} {n c : Nat} {l : List Int} (h : SlN w N0 a n c l) (hm : mb < N0) (hc : Chg (One mb) w w') : SlN w' N0 a n c l := by
  obtain ⟨G, h1, h2⟩ := h
  exact ⟨G, h1.chg hc (fun g hg hk => by have := h2 g hg; have : g = mb := hk; omega), h2⟩
theorem SlN.at {w : World} {N0 : Nat} {a : Option Addr} {n c : Nat} {l : List Int} (h : SlN w N0 a n c l) {i : Nat} (hi : i < l.length) : ∃ g off, a = some ⟨g, off, none⟩ ∧ w.cell? ⟨g, off + i, none⟩ = some (.int .i64 l[i]) := by
  obtain ⟨G, h1, h2⟩ := h
  obtain ⟨g, off, e, _, _, hc⟩ := h1.rd.at hi
  exact ⟨g, off, e, hc i hi⟩
theorem rest_nat (k n : Int) (w : World) (h1 : 1 ≤ n) (h2 : n ≤ 9223372036854775807) :
    Calls Try.prog 7 #[.int .i64 k, .int .i64 n] w fun e w' => ∃ q : Nat, (q : Int) < n ∧ e = .returned (.int .i64 q) ∧ w = w' := by
  obtain ⟨t, h3, h4⟩ := rest_in k n h1 h2
  exact (h4 w).mono fun e w' ⟨a, b⟩ => ⟨t, h3, a, b.symm⟩
def hdH (H : Int → Bool) (out : List Int) (i : Nat) : Int → Bool := fun x => H x || hasI (out.take i) x
theorem hdH_zero (H : Int → Bool) (out : List Int) : hdH H out 0 = H := by
  funext x
  unfold hdH
  rw [List.take_zero, hasI_false (by simp), Bool.or_false]
theorem hdH_step (H : Int → Bool) {out : List Int} {i : Nat} (h : i < out.length) : (fun x => if x = out[i] then true else hdH H out i x) = hdH H out (i + 1) := by
  funext x
  unfold hdH
  rw [hasI_step h]
  by_cases hx : x = out[i]
  · rw [if_pos hx, if_pos hx, Bool.or_true]
  · rw [if_neg hx, if_neg hx]
theorem hdH_all {H : Int → Bool} {out : List Int} : (∀ x, H x = true → hdH H out out.length x = true) ∧ ∀ x ∈ out, hdH H out out.length x = true := by
  refine ⟨fun x hx => by unfold hdH; rw [hx]; rfl, fun x hx => ?_⟩
  unfold hdH
  rw [List.take_length, hasI_true hx, Bool.or_true]
set_option maxRecDepth 100000 in
set_option maxHeartbeats 4000000 in
theorem semAll_walk (a0 : Option Addr) (len0 cap0 : Nat) (z0 : List Int) (w : World) (w0 : IsRow .i64 w a0 len0 cap0 z0) :
    Calls Try.prog 4 #[.slice a0 len0 cap0] w fun e w' => e = .returned (.bool true) ∧ Below w.heap.size w w' := by
  have hl1 := w0.1.1
  have hl2 := w0.1.2.1
  unfold maxLen at hl2
  have W0 := hid w0.1
  clear w0
  have hmm := hid (@run_makeMap Try.prog)
  go_enter Try.func4, Try.ntmps4
  go_wp2_with fail
  refine (manyBegun_ok _).mono ?_
  rintro e w1 ⟨rfl, c1⟩
  have B1 := hid (below_nil (Below.refl _ w) c1)
  clear c1
  go_wp2_with fail
  refine (mx_new B1.out).mono ?_
  rintro e w2 ⟨p, rfl, h1⟩
  have I0 : Hid (AlM w p ⟨[], 0, []⟩ [] none 0 w2) := hid ⟨[], none, h1, Sl.empty _ _ _ _, fun g h => by cases h⟩
  clear h1 B1
  go_upto_region 5 with fail
  obtain ⟨wv, rfl⟩ : ∃ wv : World, wv = w2 := ⟨_, rfl⟩
  go_cut [33, 34, 35] (fun s33 s34 s35 wx => wx = wv ∧ ∃ N : Nat, N ≤ 60 ∧ N ≤ len0 ∧ s33 = .slice a0 N cap0 ∧ s34 = .int .i64 N ∧ s35 = .int .i64 0)
  case first =>
    go_wp2
    go_meet
    exact ⟨rfl, min len0 60, by omega, by omega, by congr 1; omega, by congr 1; omega, rfl⟩
  case rest =>
  obtain ⟨rfl, N, hN1, hN2, rfl, rfl, rfl⟩ := hcut
  have hR := W0.out.take_n (k := N) hN2
  rw [Nat.mul_one, show (ints .i64 z0).take N = ints .i64 (z0.take N) by unfold ints; rw [List.map_take]] at hR
  obtain ⟨z, hz⟩ : ∃ z, z = z0.take N := ⟨_, rfl⟩
  rw [← hz] at hR
  have hzl := hid hR.ilen
  have HZ := hid hR
  clear hR hz W0
  go_wp2
  go_loopw [4, 35] (fun s4 s35 wr => ∃ (k : Nat) (s : MS) (ord : List Int) (ao : Option Addr) (co : Nat), k ≤ N ∧ s35 = .int .i64 k ∧ s4 = .slice ao ord.length co ∧ Hid (CmS s ord ∧ ord.length ≤ k) ∧ Hid (AlM w p s ord ao co wr)) (fun _ s35 _ => N - (intOf s35).toNat)
  case atStart => exact ⟨0, ⟨[], 0, []⟩, [], none, 0, by omega, rfl, rfl, ⟨cm_new, Nat.le_refl _⟩, I0⟩
  case round =>
    clear I0
    obtain ⟨k, s, ord, ao, co, hk, rfl, rfl, hS, hJ⟩ := hrel
    by_cases hlt : k < N
    · have hkz : k < z.length := by rw [hzl.out]; exact hlt
      obtain ⟨g, off, rfl, _, _, hc⟩ := (HZ.out.chg (Chg.of_below hJ.out.bel Nil) (fun _ _ _ h => h)).at hkz
      have x0 := hc k hkz
      clear hc
      generalize z[k] = x at x0
      obtain ⟨wo, rfl⟩ : ∃ wo : World, wo = wr := ⟨_, rfl⟩
      go_wp2_with fail
      refine (rest_nat _ 16 _ (by omega) (by omega)).mono ?_
      rintro e w' ⟨q, hq, rfl, rfl⟩
      go_upto_region 9 with fail
      obtain ⟨t, ht⟩ : ∃ t : Int, t = 1 + (q : Int) := ⟨_, rfl⟩
      rw [← ht]
      have t1 : 1 ≤ t := by omega
      have t2 : t ≤ 16 := by omega
      clear ht hq
      go_wp2_with fail
      refine (rest_nat _ 3 _ (by omega) (by omega)).mono ?_
      rintro e w' ⟨u, hu, rfl, rfl⟩
      obtain ⟨wt, hwt⟩ : ∃ wt, wt = ((u : Int) == 0) := ⟨_, rfl⟩
      have A := hJ.out.take (by have := hS.out.1.tot; have := hS.out.2; omega) t t1 t2 wt
      have hol : ord.length ≤ 60 := by have := hS.out.2; omega
      have HA := hid A
      have HWT := hid hwt
      clear A hJ hwt x0
      rcases take_ret s t wt with ⟨r1, r2⟩ | hr
      · have A := HA.out
        rw [r1, r2] at A
        replace A := hid A
        clear r1 r2 HA
        go_wp2_with fail
        rw [← HWT.out]
        refine A.out.mono ?_
        rintro e w5 ⟨rfl, k1⟩
        replace k1 := hid k1
        go_wp2
        go_roundw
        case rel => exact ⟨k + 1, s, ord, ao, co, by omega, by go_num, rfl, hid ⟨hS.out.1, by have := hS.out.2; omega⟩, k1⟩
        case measure => simp [intOf]; omega
      · have S2 := hid (hS.out.1.take t1 t2 wt (by rcases hr with h | h <;> omega))
        obtain ⟨s', hs'⟩ : ∃ s', s' = (s.take t wt).1 := ⟨_, rfl⟩
        obtain ⟨r, hr'⟩ : ∃ r, r = (s.take t wt).2 := ⟨_, rfl⟩
        rw [← hr'] at hr
        have A := HA.out
        rw [← hs', ← hr'] at A
        rw [← hs'] at S2
        clear hs' hr' HA
        replace A := hid A
        rcases hr with rfl | rfl
        · go_wp2_with fail
          rw [← HWT.out]
          refine A.out.mono ?_
          rintro e w5 ⟨rfl, gs, G, k1, k2, k3⟩
          have HS := hid (k2.alloc (.cells #[.int .i64 t] 3))
          have HN := hid (Rd.of_blk (n := 1) (s := 1) (Blk.new w5 3 (ints .i64 [t])) rfl (by decide))
          have K1 := hid k1
          have K3 := hid k3
          clear k1 k2 k3 A
          go_wp2_with (at_builtin; refine wpList_append_sl rfl _ _ eInt rfl rfl rfl HS.out HN.out (ints_one _ _) (by omega) (by omega) ?_; intro a' c' w6 G' q1 q2 q3; have FIN : Hid (AlM w p s' (ord ++ [t]) a' c' w6) := hid (AlM.push K1.out K3.out (((Chg.refl _ _).alloc _).trans q2 (fun _ _ h => h)) (sl_push rfl q1) (by rcases q3 with h | h; exact .inl h; exact .inr (fun g hg => by rw [h] at hg; injection hg with hg; simp at hg; omega))); clear q1 q2 q3)
          go_roundw
          case rel => exact ⟨k + 1, s', ord ++ [t], a', c', by omega, by go_num, by rw [List.length_append]; rfl, hid ⟨S2.out, by rw [List.length_append]; have := hS.out.2; simp only [List.length_cons, List.length_nil]; omega⟩, FIN⟩
          case measure => simp [intOf]; omega
        · go_wp2_with fail
          rw [← HWT.out]
          refine A.out.mono ?_
          rintro e w5 ⟨rfl, gs, G, k1, k2, k3⟩
          have HS := hid (k2.alloc (.cells #[.int .i64 t] 3))
          have HN := hid (Rd.of_blk (n := 1) (s := 1) (Blk.new w5 3 (ints .i64 [t])) rfl (by decide))
          have K1 := hid k1
          have K3 := hid k3
          clear k1 k2 k3 A
          go_wp2_with (at_builtin; refine wpList_append_sl rfl _ _ eInt rfl rfl rfl HS.out HN.out (ints_one _ _) (by omega) (by omega) ?_; intro a' c' w6 G' q1 q2 q3; have FIN : Hid (AlM w p s' (ord ++ [t]) a' c' w6) := hid (AlM.push K1.out K3.out (((Chg.refl _ _).alloc _).trans q2 (fun _ _ h => h)) (sl_push rfl q1) (by rcases q3 with h | h; exact .inl h; exact .inr (fun g hg => by rw [h] at hg; injection hg with hg; simp at hg; omega))); clear q1 q2 q3)
          go_roundw
          case rel => exact ⟨k + 1, s', ord ++ [t], a', c', by omega, by go_num, by rw [List.length_append]; rfl, hid ⟨S2.out, by rw [List.length_append]; have := hS.out.2; simp only [List.length_cons, List.length_nil]; omega⟩, FIN⟩
          case measure => simp [intOf]; omega
    · have hol : ord.length ≤ 60 := by have := hS.out.2; omega
      have M0 := hJ.out.map
      have htot : s.tot ≤ 60 := by have := hS.out.1.tot; omega
      obtain ⟨mb, hmb⟩ : ∃ mb, mb = wr.heap.size := ⟨_, rfl⟩
      rw [← hmb] at M0
      have S0 := hid hS.out.1
      have HMB := hid hmb
      replace M0 := hid M0
      have mk := hmm.out
      clear hJ hS hmb HZ hzl
      obtain ⟨wq, rfl⟩ : ∃ wq : World, wq = wr := ⟨_, rfl⟩
      go_upto_region 14 with fail
      rw [← HMB.out]
      generalize World.alloc wq _ = wh at M0 ⊢
      clear mk
      have HO := hid (M0.out.holds (by omega))
      go_wp2_with fail
      refine HO.out.mono ?_
      rintro e w5 ⟨ar, cr, Gr, bq, dq, Gq, rfl, y1, _, y3, y4, _, _⟩
      have HS := hid (y1.alloc (.cells #[.int .i64 s.wr] 3))
      have HN := hid (Rd.of_blk (n := 1) (s := 1) (Blk.new w5 3 (ints .i64 [s.wr])) rfl (by decide))
      have hrl : s.rd.length ≤ 60 := by unfold MS.tot at htot; omega
      have Y3 := hid y3
      have Y4 := hid y4
      clear y1 y3 y4 HO
      go_upto_region 16 with (at_builtin; refine wpList_append_sl rfl _ _ eInt rfl rfl rfl HS.out HN.out (ints_one _ _) (by omega) (by omega) ?_; intro al cl w6 Gl q1 q2 q3; replace q1 := hid q1; replace q2 := hid q2; replace q3 := hid q3)
      have hC : Chg Nil wh w6 := (Y3.out.alloc _).trans q2.out (fun i hi hG => by have := Y4.out i hG; omega)
      have hsz := Y3.out.size
      have L0 : Hid (AlX w p mb 0 s (hasI ((sortI s.rd ++ [s.wr]).take 0)) ord ao co w6 ∧ SlN w6 wh.heap.size al (sortI s.rd ++ [s.wr]).length cl (sortI s.rd ++ [s.wr])) := hid ⟨by
        have := M0.out.nil hC
        rwa [show (fun x => false : Int → Bool) = hasI ((sortI s.rd ++ [s.wr]).take 0) by funext x; rw [List.take_zero, hasI_false (by simp)]] at this, Gl, by
        have h1 := q1.out
        rw [ints_append] at h1
        rw [List.length_append, sortI_len]
        exact h1, fun g hg => by
        rcases q3.out with h | h <;> rw [h] at hg
        · exact Y4.out g hg
        · injection hg with hg; simp at hg; omega⟩
      have hmw := M0.out.lt
      obtain ⟨l, hl⟩ : ∃ l, l = sortI s.rd ++ [s.wr] := ⟨_, rfl⟩
      rw [← hl] at L0
      have hll : l.length = s.rd.length + 1 := by rw [hl, List.length_append, sortI_len]; rfl
      have hlb : ∀ x ∈ l, 0 ≤ x ∧ x ≤ 16 := by
        rw [hl]
        intro x hx
        rcases List.mem_append.1 hx with hx | hx
        · have := S0.out.ok.r1 x ((List.mergeSort_perm s.rd _).mem_iff.1 hx); omega
        · rw [List.mem_singleton.1 hx]; exact S0.out.ok.w1
      have h60 : l.length ≤ 61 := by omega
      rw [← hll]
      replace hll := hid hll
      replace hl := hid hl
      replace hlb := hid hlb
      clear hC hsz q1 q2 q3 HS HN M0 Y3 Y4
      go_loopw [72] (fun s72 wr => ∃ j : Nat, j ≤ l.length ∧ s72 = .int .i64 j ∧ Hid (AlX w p mb j s (hasI (l.take j)) ord ao co wr ∧ SlN wr wh.heap.size al l.length cl l)) (fun s72 _ => l.length - (intOf s72).toNat)
      case atStart => exact ⟨0, by omega, rfl, L0⟩
      case round =>
        clear L0
        obtain ⟨j, hj, rfl, hK⟩ := hrel
        obtain ⟨k1, k2⟩ := id hK.out
        by_cases hjl : j < l.length
        · have hjl3 : (j : Int) < (s.rd.length : Int) + 1 := by have := hll.out; omega
          obtain ⟨g, off, rfl, x0⟩ := k2.at hjl
          obtain ⟨b1, b2⟩ := hlb.out _ (List.getElem_mem hjl)
          obtain ⟨f, mp, st⟩ := k1.mp
          have HE : Hid ((fun x => if x = l[j] then true else hasI (l.take j) x) = hasI (l.take (j + 1))) := hid (funext fun x => (hasI_step hjl x).symm)
          have ST := hid (st l[j])
          generalize l[j] = x at x0 b1 b2 HE ST
          have hwf := hid (wf_key (i := x) (by omega) (by omega))
          have MP := hid mp
          have K2 := hid k2
          clear k1 k2 mp st hK
          go_wp2_with (at_mapUpdate; refine wpList_store _ rfl _ _ _ 26 rfl (k := 3) (e := 4) Try.underlying3 Try.underlying26 mb j f rfl MP.out (by omega) _ _ rfl rfl hwf.out ?_; intro w7 y1 y2; have K7 := hid (ST.out w7 y1 y2); have K8 := hid (K2.out.store hmw y2); clear y1 y2)
          go_roundw
          case rel => exact ⟨j + 1, by omega, by go_num, hid ⟨by rw [← HE.out]; exact K7.out, K8.out⟩⟩
          case measure => simp [intOf]; omega
        · have hjl2 : j = l.length := by omega
          have hjl3 : (s.rd.length : Int) + 1 ≤ (j : Int) := by have := hll.out; omega
          have D0 : Hid (HdS s (hasI (l.take j)) ord 0) := hid (S0.out.had (fun t ht => by rw [hjl2, List.take_length, hl.out]; exact ht))
          have K1 := hid k1
          have hj61 : j ≤ 61 := by omega
          clear k1 k2 hK hlb hl hll S0 hjl2
          generalize hasI (l.take j) = H0 at D0 K1
          obtain ⟨w8, rfl⟩ : ∃ w8 : World, w8 = wr := ⟨_, rfl⟩
          go_wp2
          go_loopw [81] (fun s81 wr => ∃ (k n : Nat) (s : MS) (H : Int → Bool), k ≤ ord.length ∧ n ≤ 61 + 900 * k ∧ s81 = .int .i64 k ∧ Hid (HdS s H ord k) ∧ Hid (AlX w p mb n s H ord ao co wr)) (fun s81 _ => ord.length - (intOf s81).toNat)
          case atStart => exact ⟨0, j, s, H0, by omega, by omega, rfl, D0, K1⟩
          case round =>
            clear D0 K1 hmw
            obtain ⟨k, n, s, H, hk, hn, rfl, hD, hK⟩ := hrel
            have htot : s.tot ≤ 60 := by have := hD.out.tot; omega
            have HO := hid (hK.out.holds (by omega))
            by_cases hko : k < ord.length
            · obtain ⟨wb, rfl⟩ : ∃ wb : World, wb = wr := ⟨_, rfl⟩
              go_upto_region 23 with (go_at_call 10; refine HO.out.mono ?_; rintro e w5 ⟨ar, cr, Gr, bq, dq, Gq, rfl, y1, y2, y3, y4, y5, _⟩; replace y1 := hid y1; replace y2 := hid y2; replace y3 := hid y3; replace y4 := hid y4; replace y5 := hid y5)
              have hC : (s.wr = 0 ∧ s.rd = []) ∨ (s.wr = 0 ∧ s.rd ≠ []) ∨ s.wr ≠ 0 := by
                by_cases hw : s.wr = 0
                · by_cases hr : s.rd = []
                  · exact .inl ⟨hw, hr⟩
                  · exact .inr (.inl ⟨hw, hr⟩)
                · exact .inr (.inr hw)
              rcases hC with ⟨hw, hr⟩ | hC
              · have hq : s.row = [] := by
                  cases hrow : s.row with
                  | nil => rfl
                  | cons x row => exact absurd hr (hD.out.ok.st x row hrow hw).1
                have hb := hid (hK.out.nil y3.out).bel
                rw [hw, hr, hq]
                clear hw hr hq hD hK HO
                go_wp2
                go_ret
                exact ⟨rfl, hb.out⟩
              · rcases hC with ⟨hw, hr⟩ | hw
                · have hrl : 0 < s.rd.length := List.length_pos_iff.2 hr
                  have hrl2 : (0 : Int) < (s.rd.length : Int) := by omega
                  have hrs : 0 < (sortI s.rd).length := by rw [sortI_len]; exact hrl
                  obtain ⟨g, off, rfl, _, _, hc⟩ := y1.out.rd.at hrs
                  have x0 := hc 0 hrs
                  rw [Nat.add_zero] at x0
                  have hm : (sortI s.rd)[0] ∈ s.rd := (List.mergeSort_perm s.rd _).mem_iff.1 (List.getElem_mem hrs)
                  have hf : Hid (1 ≤ (sortI s.rd)[0] ∧ ((sortI s.rd)[0] ∈ s.rd ∨ (sortI s.rd)[0] = s.wr)) := hid ⟨(hD.out.ok.r1 _ hm).1, .inl hm⟩
                  generalize (sortI s.rd)[0] = f at x0 hf
                  have hw0 : (s.wr == 0) = true := by rw [beq_iff_eq]; exact hw
                  clear hm hc hr hrl hrs hw y1
                  have hff := hf.out.1
                  have hfc : (f == 0) = false := by rw [beq_eq_false_iff_ne]; omega
                  go_upto_region 28 with fail
                  clear x0 hw0 hrl2 hff hfc
                  have hf1 := hf.out.1
                  have hfb : (f == 0) = false := by rw [beq_eq_false_iff_ne]; omega
                  have FR := hK.out.free y3.out y2.out y5.out (by omega) f hf1 hf.out.2
                  have hpre := (free_tot hD.out.ok hf1 hf.out.2).2
                  have D2 := fun (H' : Int → Bool) => hD.out.free (H' := H') hf1 hf.out.2
                  have hbd : ∀ x ∈ (s.free f).2, 1 ≤ x ∧ x ≤ 16 := fun x hx => by
                    have h1 : x ∈ s.row.map WN.t := by rw [← hpre]; exact List.mem_append_left _ hx
                    obtain ⟨y, hy, rfl⟩ := List.mem_map.1 h1
                    exact hD.out.ok.q1 y hy
                  have hol2 : (s.free f).2.length ≤ s.row.length := by
                    have := congrArg List.length hpre
                    rw [List.length_append, List.length_map, List.length_map] at this
                    omega
                  have hrl : s.row.length ≤ 60 := by unfold MS.tot at htot; omega
                  have hmb := hK.out.lt
                  generalize (s.free f).2 = out at FR hpre D2 hbd hol2
                  generalize (s.free f).1 = s' at FR hpre D2
                  have HPRE := hid hpre
                  have HD2 := hid D2
                  have HBD := hid hbd
                  replace FR := hid FR
                  clear hpre D2 hbd hD hK HO y2 y3 y4
                  go_wp2_with fail
                  refine FR.out.mono ?_
                  rintro e w6 ⟨b', d', G2, rfl, x1, x2, x3, x4⟩
                  have L0 : Hid (AlX w p mb (n + 0) s' (hdH H out 0) ord ao co w6 ∧ SlN w6 wb.heap.size b' out.length d' out ∧ SlN w6 wb.heap.size bq s.row.length dq (s.row.map WN.t)) := hid ⟨by rw [hdH_zero]; exact x1, ⟨G2, x2, x3⟩, ⟨Gq, x4, y5.out⟩⟩
                  clear x1 x2 x3 x4 FR
                  go_wp2
                  go_loopw [115] (fun s115 wr => ∃ i : Nat, i ≤ out.length ∧ s115 = .int .i64 i ∧ Hid (AlX w p mb (n + i) s' (hdH H out i) ord ao co wr ∧ SlN wr wb.heap.size b' out.length d' out ∧ SlN wr wb.heap.size bq s.row.length dq (s.row.map WN.t))) (fun s115 _ => out.length - (intOf s115).toNat)
                  case atStart => exact ⟨0, by omega, rfl, L0⟩
                  case round =>
                    clear L0
                    obtain ⟨i, hi, rfl, hL⟩ := hrel
                    obtain ⟨k1, k2, k3⟩ := id hL.out
                    by_cases hio : i < out.length
                    · have hior : (i : Int) < (s.row.length : Int) := by omega
                      have hir : i < (s.row.map WN.t).length := by rw [List.length_map]; omega
                      obtain ⟨g, off, rfl, x0⟩ := k2.at hio
                      obtain ⟨g', off', rfl, x0'⟩ := k3.at hir
                      have heq : (s.row.map WN.t)[i] = out[i] := by
                        have h1 := HPRE.out
                        have h2 : (out ++ s'.row.map WN.t)[i]? = some out[i] := by rw [List.getElem?_append_left hio, List.getElem?_eq_getElem hio]
                        rw [h1, List.getElem?_eq_getElem hir] at h2
                        injection h2
                      rw [heq] at x0'
                      obtain ⟨b1, b2⟩ := HBD.out _ (List.getElem_mem hio)
                      obtain ⟨f', mp, st⟩ := k1.mp
                      have HE : Hid ((fun x => if x = out[i] then true else hdH H out i x) = hdH H out (i + 1)) := hid (hdH_step H hio)
                      have ST := hid (st out[i])
                      clear heq
                      generalize out[i] = x at x0 x0' b1 b2 HE ST
                      have hwf := hid (wf_key (i := x) (by omega) (by omega))
                      have MP := hid mp
                      have K2 := hid k2
                      have K3 := hid k3
                      clear k1 k2 k3 mp st hL hir
                      go_wp2_with (at_mapUpdate; refine wpList_store _ rfl _ _ _ 26 rfl (k := 3) (e := 4) Try.underlying3 Try.underlying26 mb (n + i) f' rfl MP.out (by omega) _ _ rfl rfl hwf.out ?_; intro w7 y1 y2; have K7 := hid (ST.out w7 y1 y2); have K8 := hid (K2.out.store hmb y2); have K9 := hid (K3.out.store hmb y2); clear y1 y2)
                      go_roundw
                      case rel => exact ⟨i + 1, by omega, by go_num, hid ⟨by rw [← HE.out]; exact K7.out, K8.out, K9.out⟩⟩
                      case measure => simp [intOf]; omega
                    · have hil : i = out.length := by omega
                      have D3 : Hid (HdS s' (hdH H out i) ord (k + 1)) := hid (HD2.out _ (fun x hx => by rw [hil]; exact hdH_all.1 x hx) (fun x hx => by rw [hil]; exact hdH_all.2 x hx))
                      have K1 := hid k1
                      have hi60 : i ≤ 60 := by omega
                      clear k1 k2 k3 hL HBD HPRE HD2
                      generalize hdH H out i = H2 at D3 K1
                      go_wp2
                      go_roundw
                      case rel => exact ⟨k + 1, n + i, s', H2, by omega, by omega, by go_num, D3, K1⟩
                      case measure => simp [intOf]; omega
                · have hw1 := hD.out.ok.w1
                  have hw0 : (s.wr == 0) = false := by rw [beq_eq_false_iff_ne]; exact hw
                  have hf : Hid (1 ≤ s.wr ∧ (s.wr ∈ s.rd ∨ s.wr = s.wr)) := hid ⟨by omega, .inr rfl⟩
                  go_upto_region 28 with fail
                  clear hw1 hw0 hw y1
                  obtain ⟨f, hfe⟩ : ∃ f, f = s.wr := ⟨_, rfl⟩
                  rw [← hfe]
                  have hf : Hid (1 ≤ f ∧ (f ∈ s.rd ∨ f = s.wr)) := by rw [hfe]; exact hf
                  clear hfe
                  have hf1 := hf.out.1
                  have hfb : (f == 0) = false := by rw [beq_eq_false_iff_ne]; omega
                  have FR := hK.out.free y3.out y2.out y5.out (by omega) f hf1 hf.out.2
                  have hpre := (free_tot hD.out.ok hf1 hf.out.2).2
                  have D2 := fun (H' : Int → Bool) => hD.out.free (H' := H') hf1 hf.out.2
                  have hbd : ∀ x ∈ (s.free f).2, 1 ≤ x ∧ x ≤ 16 := fun x hx => by
                    have h1 : x ∈ s.row.map WN.t := by rw [← hpre]; exact List.mem_append_left _ hx
                    obtain ⟨y, hy, rfl⟩ := List.mem_map.1 h1
                    exact hD.out.ok.q1 y hy
                  have hol2 : (s.free f).2.length ≤ s.row.length := by
                    have := congrArg List.length hpre
                    rw [List.length_append, List.length_map, List.length_map] at this
                    omega
                  have hrl : s.row.length ≤ 60 := by unfold MS.tot at htot; omega
                  have hmb := hK.out.lt
                  generalize (s.free f).2 = out at FR hpre D2 hbd hol2
                  generalize (s.free f).1 = s' at FR hpre D2
                  have HPRE := hid hpre
                  have HD2 := hid D2
                  have HBD := hid hbd
                  replace FR := hid FR
                  clear hpre D2 hbd hD hK HO y2 y3 y4
                  go_wp2_with fail
                  refine FR.out.mono ?_
                  rintro e w6 ⟨b', d', G2, rfl, x1, x2, x3, x4⟩
                  have L0 : Hid (AlX w p mb (n + 0) s' (hdH H out 0) ord ao co w6 ∧ SlN w6 wb.heap.size b' out.length d' out ∧ SlN w6 wb.heap.size bq s.row.length dq (s.row.map WN.t)) := hid ⟨by rw [hdH_zero]; exact x1, ⟨G2, x2, x3⟩, ⟨Gq, x4, y5.out⟩⟩
                  clear x1 x2 x3 x4 FR
                  go_wp2
                  go_loopw [115] (fun s115 wr => ∃ i : Nat, i ≤ out.length ∧ s115 = .int .i64 i ∧ Hid (AlX w p mb (n + i) s' (hdH H out i) ord ao co wr ∧ SlN wr wb.heap.size b' out.length d' out ∧ SlN wr wb.heap.size bq s.row.length dq (s.row.map WN.t))) (fun s115 _ => out.length - (intOf s115).toNat)
                  case atStart => exact ⟨0, by omega, rfl, L0⟩
                  case round =>
                    clear L0
                    obtain ⟨i, hi, rfl, hL⟩ := hrel
                    obtain ⟨k1, k2, k3⟩ := id hL.out
                    by_cases hio : i < out.length
                    · have hior : (i : Int) < (s.row.length : Int) := by omega
                      have hir : i < (s.row.map WN.t).length := by rw [List.length_map]; omega
                      obtain ⟨g, off, rfl, x0⟩ := k2.at hio
                      obtain ⟨g', off', rfl, x0'⟩ := k3.at hir
                      have heq : (s.row.map WN.t)[i] = out[i] := by
                        have h1 := HPRE.out
                        have h2 : (out ++ s'.row.map WN.t)[i]? = some out[i] := by rw [List.getElem?_append_left hio, List.getElem?_eq_getElem hio]
                        rw [h1, List.getElem?_eq_getElem hir] at h2
                        injection h2
                      rw [heq] at x0'
                      obtain ⟨b1, b2⟩ := HBD.out _ (List.getElem_mem hio)
                      obtain ⟨f', mp, st⟩ := k1.mp
                      have HE : Hid ((fun x => if x = out[i] then true else hdH H out i x) = hdH H out (i + 1)) := hid (hdH_step H hio)
                      have ST := hid (st out[i])
                      clear heq
                      generalize out[i] = x at x0 x0' b1 b2 HE ST
                      have hwf := hid (wf_key (i := x) (by omega) (by omega))
                      have MP := hid mp
                      have K2 := hid k2
                      have K3 := hid k3
                      clear k1 k2 k3 mp st hL hir
                      go_wp2_with (at_mapUpdate; refine wpList_store _ rfl _ _ _ 26 rfl (k := 3) (e := 4) Try.underlying3 Try.underlying26 mb (n + i) f' rfl MP.out (by omega) _ _ rfl rfl hwf.out ?_; intro w7 y1 y2; have K7 := hid (ST.out w7 y1 y2); have K8 := hid (K2.out.store hmb y2); have K9 := hid (K3.out.store hmb y2); clear y1 y2)
                      go_roundw
                      case rel => exact ⟨i + 1, by omega, by go_num, hid ⟨by rw [← HE.out]; exact K7.out, K8.out, K9.out⟩⟩
                      case measure => simp [intOf]; omega
                    · have hil : i = out.length := by omega
                      have D3 : Hid (HdS s' (hdH H out i) ord (k + 1)) := hid (HD2.out _ (fun x hx => by rw [hil]; exact hdH_all.1 x hx) (fun x hx => by rw [hil]; exact hdH_all.2 x hx))
                      have K1 := hid k1
                      have hi60 : i ≤ 60 := by omega
                      clear k1 k2 k3 hL HBD HPRE HD2
                      generalize hdH H out i = H2 at D3 K1
                      go_wp2
                      go_roundw
                      case rel => exact ⟨k + 1, n + i, s', H2, by omega, by omega, by go_num, D3, K1⟩
                      case measure => simp [intOf]; omega
            · have hkl : k = ord.length := by omega
              obtain ⟨fa, fr, fw, fq⟩ := HdS.fin (by rw [← hkl]; exact hD.out)
              have FA := hid fa
              have hkl2 : (ord.length : Int) ≤ (k : Int) := by omega
              have OB := hid (fun t ht => (hD.out.each t ht).1)
              obtain ⟨R, hR⟩ := hK.out.row
              have HR := hid hR
              have HKL := hid hkl
              clear hkl fa hR hD
              obtain ⟨wz, rfl⟩ : ∃ wz : World, wz = wr := ⟨_, rfl⟩
              go_wp2
              go_loop [138] (fun s138 => ∃ j : Nat, j ≤ ord.length ∧ s138 = .int .i64 j) (fun s138 => ord.length - (intOf s138).toNat)
              case atStart => exact ⟨0, by omega, rfl⟩
              case round =>
                obtain ⟨j, hj, rfl⟩ := hrel
                by_cases hjo : j < ord.length
                · obtain ⟨g, off, rfl, _, _, hc⟩ := HR.out.at hjo
                  have x0 := hc j hjo
                  have hb := OB.out _ (List.getElem_mem hjo)
                  have hlk := hK.out.look ord[j] (by omega) (by omega)
                  rw [FA.out _ (List.getElem_mem hjo)] at hlk
                  clear hc
                  generalize ord[j] = x at x0 hb hlk
                  go_wp2
                  go_round
                  case rel => exact ⟨j + 1, by omega, by go_num⟩
                  case measure => simp [intOf]; omega
                · have hb := hid hK.out.bel
                  go_upto_region 46 with (go_at_call 10; refine HO.out.mono ?_; rintro e w5 ⟨ar, cr, Gr, bq, dq, Gq, rfl, y1, y2, y3, _, _, _⟩; replace y1 := hid y1; replace y2 := hid y2; replace y3 := hid y3)
                  have hb2 := hid (below_nil hb.out y3.out)
                  clear fr fw fq
                  go_wp2
                  go_ret
                  exact ⟨rfl, hb2.out⟩
end Go.Proofs.Yteiljmjfhafmfaa
