/- The walk of the law SpreadBoost: it returns true and changes nothing that was there. No condition. -/
import Derived.Test.YthcgeigijnbpkaaSprN
import Derived.Deep.DeepCutAuto
namespace Go.Proofs.Ythcgeigijnbpkaa
open Go.ChangeShapes Go.WideShapes Go.ChangeAt Go.RowKit
set_option linter.unusedVariables false
/-- Of fair shares, and not boosted; of whom one is. -/
def BoP (i : Nat) (x : ST) : Prop := x.cl = 1 ∧ x.va = 10 ∧ x.mo = 0
def BoQ (w : Nat) (i : Nat) (x : ST) : Prop := x.cl = 1 ∧ x.va = 10 ∧ if i = w then x.mo = 2 ∧ x.wi = 7 else x.mo = 0
theorem bop_free : Free BoP := fun i x c k h => h
theorem boq_free (w : Nat) : Free (BoQ w) := fun i x c k h => h
theorem bo_run {x : ST} (h : x.cl = 1) (st : Int) : (gone st x).cl = 1 ∧ (gone st x).va = x.va ∧ (gone st x).mo = x.mo ∧ (gone st x).wi = x.wi := by
  unfold gone runT
  rw [if_pos h]
  exact ⟨h, rfl, rfl, rfl⟩
theorem boq_gone {w i : Nat} {x : ST} {st : Int} (h : BoQ w i x) : BoQ w i (gone st x) := by
  obtain ⟨h1, h2, h3⟩ := h
  obtain ⟨g1, g2, g3, g4⟩ := bo_run h1 st
  exact ⟨g1, by rw [g2]; exact h2, by rw [g3, g4]; exact h3⟩
theorem bo_tick {n run w : Nat} {s : SR} (h : OneS (BoQ w) n run s) (hr : run < n) (hw : w < n) : OneS (BoQ w) n w (s.tick 0) := by
  obtain ⟨j, hj, h1, h2, _⟩ := one_tick (boq_free w) h hr (fun i x _ h => h) (fun x _ h => boq_gone h)
  by_cases hjw : j = w
  · rw [← hjw]; rw [← hjw] at h1; exact h1
  · exfalso
    have key : ∀ (i : Nat) (x : ST), (upd s.ts run (gone s.st))[i]? = some x → BoQ w i x := by
      intro i x hx
      rw [upd_get] at hx
      split at hx
      · rename_i hi
        subst hi
        cases hz : s.ts[run]? with
        | none => rw [hz] at hx; cases hx
        | some z => rw [hz] at hx; simp at hx; subst hx; exact boq_gone (h.each run z hz).1
      · exact (h.each i x hx).1
    have hl : (upd s.ts run (gone s.st)).length = n := by rw [upd_len, h.len]
    obtain ⟨x, hx⟩ : ∃ x, (upd s.ts run (gone s.st))[j]? = some x := ⟨_, List.getElem?_eq_getElem (by rw [hl]; exact hj)⟩
    obtain ⟨y, hy⟩ : ∃ y, (upd s.ts run (gone s.st))[w]? = some y := ⟨_, List.getElem?_eq_getElem (by rw [hl]; exact hw)⟩
    refine h2 w y x hy hx (.inl ?_)
    obtain ⟨a1, a2, a3⟩ := key j x hx
    obtain ⟨b1, b2, b3⟩ := key w y hy
    rw [if_neg hjw] at a3
    rw [if_pos rfl] at b3
    unfold asC
    rw [a3, b3.1, a1, if_neg (by omega), if_pos (by omega)]
    omega
set_option maxRecDepth 100000 in
set_option maxHeartbeats 1000000 in
theorem spreadBoost_walk (a0 a1 a2 : Int) (w : World) (w0 : (Lit.int .i64 a0).wf = true) (w1 : (Lit.int .i64 a1).wf = true) (w2 : (Lit.int .i64 a2).wf = true) :
    Calls Try.prog 6 #[.int .i64 a0, .int .i64 a1, .int .i64 a2] w fun e w' => e = .returned (.bool true) ∧ Below w.heap.size w w' := by
  clear w0 w1 w2
  go_enter Try.func6, Try.ntmps6
  go_wp2_with fail
  refine (sbegun_ok _).mono ?_
  rintro e w1 ⟨rfl, c1⟩
  have B1 := hid (below_nil (Below.refl _ w) c1)
  clear c1
  go_wp2_with fail
  refine (rest_nat a0 15 _ (by omega) (by omega)).mono ?_
  rintro e w2 ⟨q, hq, rfl, rfl⟩
  go_wp2_with fail
  refine (rest_nat a1 (2 + (q : Int)) _ (by omega) (by omega)).mono ?_
  rintro e w2 ⟨wh, hwh, rfl, rfl⟩
  obtain ⟨n, hn⟩ : ∃ n : Nat, n = q + 2 := ⟨_, rfl⟩
  have hnq : 2 + (q : Int) = (n : Int) := by omega
  rw [hnq] at hwh ⊢
  have hn2 : 2 ≤ n := by omega
  have hn16 : n ≤ 16 := by omega
  have hwn : wh < n := by omega
  clear hnq hn hq hwh
  go_wp2_with fail
  refine (rx_new B1.out 1 (by omega) (by omega)).mono ?_
  rintro e w3 ⟨p, rfl, h1, _⟩
  have I0 : Hid (∃ s, RunX w [] p s w3 ∧ OneS BoP 0 0 s ∧ SOk 0 s) := hid ⟨_, h1, one_new, new_ok 1 (by omega) (by omega)⟩
  clear h1 B1
  go_wp2
  go_loopw [9] (fun s9 wr => ∃ k : Nat, k ≤ n ∧ s9 = .int .i64 ((k : Int) + 1) ∧ Hid (∃ s, RunX w [] p s wr ∧ OneS BoP k 0 s ∧ SOk k s)) (fun s9 _ => n + 1 - (intOf s9).toNat)
  case atStart => exact ⟨0, by omega, rfl, I0⟩
  case round =>
    obtain ⟨k, hk, rfl, hJ⟩ := hrel
    clear I0
    by_cases hlt : k < n
    · obtain ⟨s, j1, j2, j3⟩ := id hJ.out
      obtain ⟨e1, e2⟩ := one_add bop_free j2 (cl := 1) (va := 10) (by omega) ⟨rfl, rfl, rfl⟩
      have A := rx_add j1 j3 (by omega) (by rw [j2.len]; omega) ((k : Int) + 1) 1 10 (by omega) (by omega) rfl
      rw [e1] at A
      have OK := j3.add (by rw [j2.len]; omega) (t := (k : Int) + 1) (cl := 1) (va := 10) (by omega) (by omega) rfl
      replace A := hid A
      replace e2 := hid e2
      replace OK := hid OK
      clear j1 j2 j3 e1 hJ
      have i1 : (k : Int) + 1 ≤ (n : Int) := by omega
      go_wp2_with fail
      refine A.out.mono ?_
      rintro e w4 ⟨rfl, h1, _⟩
      replace h1 := hid h1
      go_wp2
      go_roundw
      case rel => exact ⟨k + 1, by omega, by go_num, _, h1.out, e2.out, OK.out⟩
      case measure => simp [intOf]; omega
    · obtain rfl : k = n := by omega
      obtain ⟨s, j1, j2, j3⟩ := hJ.out
      obtain ⟨x, hx, hwho⟩ := one_who j2 hwn
      have BO := rx_boost j1 j3 ((wh : Int) + 1) 2 7 rfl
      have e : s.doBoost ((wh : Int) + 1) 2 7 = (s.boost wh 2 7, 0) := by unfold SR.doBoost; rw [hwho]
      rw [e] at BO
      have O1 : OneS (BoQ wh) k 0 (s.boost wh 2 7) := one_upd (P' := BoQ wh) (f := fun x => { x with mo := 2, wi := 7 }) j2 (by omega) (fun x => ⟨rfl, rfl, rfl, rfl, rfl, rfl⟩) (fun j x hj h => ⟨h.1, h.2.1, by rw [if_neg hj]; exact h.2.2⟩) (fun x h => ⟨h.1, h.2.1, by rw [if_pos rfl]; exact ⟨rfl, rfl⟩⟩)
      have OK1 := j3.boost wh (cl := 2) (va := 7) (by omega) (by omega) (by omega) (by omega)
      obtain ⟨s1, hs1⟩ : ∃ s1, s1 = s.boost wh 2 7 := ⟨_, rfl⟩
      rw [← hs1] at O1 OK1 BO
      replace BO := hid BO
      replace O1 := hid O1
      replace OK1 := hid OK1
      clear j1 j2 j3 hx hwho e hs1 hJ
      rw [show (1 : Int) + (wh : Int) = (wh : Int) + 1 by omega]
      go_wp2_with fail
      refine BO.out.mono ?_
      rintro e w4 ⟨rfl, h1, _⟩
      have T := rx_tick h1 OK1.out (by omega) 0 (by rw [O1.out.nn]; omega)
      have O2 := bo_tick O1.out (by omega) hwn
      have OK2 := OK1.out.tick 0
      replace T : Hid (Calls Try.prog 16 #[.pointer (some ⟨p, 0, none⟩), .int .i64 0] w4 (PX w [] p (s1.tick 0) 0 w4)) := hid T
      replace O2 := hid O2
      replace OK2 := hid OK2
      clear h1 BO
      go_wp2_with fail
      refine T.out.mono ?_
      rintro e w5 ⟨rfl, h2, _⟩
      have I1 : Hid (∃ s, RunX w [] p s w5 ∧ OneS (BoQ wh) k wh s ∧ SOk 17 s) := hid ⟨_, h2, O2.out, OK2.out.more (by omega)⟩
      clear h2 T O2 OK2 O1 OK1
      go_wp2_with fail
      refine (rest_nat a2 50 _ (by omega) (by omega)).mono ?_
      rintro e w6 ⟨m, hm, rfl, rfl⟩
      go_wp2
      go_loopw [47] (fun s47 wr => ∃ j : Nat, j ≤ m ∧ s47 = .int .i64 j ∧ Hid (∃ s, RunX w [] p s wr ∧ OneS (BoQ wh) k wh s ∧ SOk (17 + (j : Int)) s)) (fun s47 _ => m - (intOf s47).toNat)
      case atStart => exact ⟨0, by omega, rfl, by simpa using I1⟩
      case round =>
        obtain ⟨j, hj, rfl, hJ⟩ := hrel
        clear I1
        obtain ⟨s, j1, j2, j3⟩ := id hJ.out
        by_cases hlt2 : j < m
        · have PK := rx_pick j1 j3 0 (by rw [j2.nn]; omega)
          rw [show ((0 : Nat) : Int) = 0 from rfl, one_pick j2 hwn] at PK
          have T : Hid (Calls Try.prog 16 #[.pointer (some ⟨p, 0, none⟩), .int .i64 0] wr (PX w [] p (s.tick 0) 0 wr)) := hid (rx_tick j1 j3 (by omega) 0 (by rw [j2.nn]; omega))
          have O2 := hid (bo_tick j2 hwn hwn)
          have OK2 := hid (j3.tick 0)
          replace PK := hid PK
          clear j1 j2 j3 hJ
          go_wp2_with fail
          refine PK.out.mono ?_
          rintro e w7 ⟨rfl, hw⟩
          subst hw
          have hww : (1 + (wh : Int) != (wh : Int) + 1) = false := by rw [bne_eq_false_iff_eq]; omega
          have hww2 : ((wh : Int) + 1 != 1 + (wh : Int)) = false := by rw [bne_eq_false_iff_eq]; omega
          go_wp2_with fail
          refine T.out.mono ?_
          rintro e w8 ⟨rfl, h2, _⟩
          replace h2 := hid h2
          go_wp2
          go_roundw
          case rel => exact ⟨j + 1, by omega, by go_num, _, h2.out, O2.out, OK2.out.more (by omega)⟩
          case measure => simp [intOf]; omega
        · obtain ⟨x, hx, hwho⟩ := one_who j2 hwn
          obtain ⟨⟨x1, x2, x3⟩, _, _, _, x4, _⟩ := j2.each wh x hx
          rw [if_pos rfl] at x3
          have e1 : s.doCalm ((wh : Int) + 1) = (s.calm wh, 0) := by unfold SR.doCalm; rw [hwho]; simp [x3.1]
          have e2 : s.calm wh = ({ s with ts := upd s.ts wh (fun x => { x with mo := 0, wi := 0 }) } : SR).fill := by unfold SR.calm; rw [hx]; simp [x4]
          have C1 := rx_calm j1 j3 (by omega) ((wh : Int) + 1)
          rw [e1] at C1
          have O1 : OneS (fun i x => i = wh → x.mo = 0) k wh (s.calm wh) := by
            rw [e2]
            exact one_upd (f := fun x => { x with mo := 0, wi := 0 }) j2 hwn (fun x => ⟨rfl, rfl, rfl, rfl, rfl, rfl⟩) (fun j x hj h hh => absurd hh hj) (fun x h _ => rfl)
          obtain ⟨y, hy, hwho2⟩ := one_who O1 hwn
          have y0 := (O1.each wh y hy).1 rfl
          have e3 : (s.calm wh).doCalm ((wh : Int) + 1) = (s.calm wh, 8) := by unfold SR.doCalm; rw [hwho2]; simp [y0]
          have OK2 := j3.calm wh
          obtain ⟨s2, hs2⟩ : ∃ s2, s2 = s.calm wh := ⟨_, rfl⟩
          rw [← hs2] at C1 e3 OK2
          replace C1 := hid C1
          replace e3 := hid e3
          replace OK2 := hid OK2
          clear j1 j2 j3 hx hwho x1 x2 x3 x4 e1 e2 O1 hy hwho2 y0 hs2 hJ
          have hj17 : (17 : Int) + (j : Int) + 1 ≤ 1000000 := by omega
          go_wp2_with fail
          refine C1.out.mono ?_
          rintro e w7 ⟨rfl, h2, _⟩
          have C2 := rx_calm h2 OK2.out hj17 ((wh : Int) + 1)
          rw [e3.out] at C2
          replace C2 := hid C2
          clear h2
          go_wp2_with fail
          refine C2.out.mono ?_
          rintro e w8 ⟨rfl, h3, _⟩
          replace h3 := hid h3
          go_wp2
          go_ret
          exact ⟨by simp, h3.out.bel⟩
end Go.Proofs.Ythcgeigijnbpkaa
