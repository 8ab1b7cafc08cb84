/- The walk of the law AdmitFits: it returns true and changes nothing that was there. No condition. -/
import Derived.Test.YtoocjfolhghjoaaLate
import Derived.Test.YtoocjfolhghjoaaAdmitMore
namespace Go.Proofs.Ytoocjfolhghjoaa
open Go.ChangeShapes Go.WideShapes Go.ChangeAt Go.RowKit
set_option linter.unusedVariables false
def AFInv (w0 : World) (l : List Use) (a : Option Addr) (c : Nat) (w : World) : Prop :=
  ∃ G, (∀ u ∈ l, u.ok ∧ u.p ∣ 120) ∧ Sl w 35 2 a l.length c (l.flatMap useCells) G ∧ Below w0.heap.size w0 w ∧ ∀ g, G = some g → w0.heap.size ≤ g
/-- The periods. -/
def perCells2 : List Value := [.int .i64 1, .int .i64 2, .int .i64 3, .int .i64 4, .int .i64 5, .int .i64 6, .int .i64 8, .int .i64 10]
theorem per_ok2 (q : Nat) (h : q < 8) : ∃ p : Nat, perCells2[q]? = some (.int .i64 p) ∧ 1 ≤ p ∧ p ≤ 30 ∧ p ∣ 120 := by
  rcases q with _ | _ | _ | _ | _ | _ | _ | _ | q
  · exact ⟨1, rfl, by decide⟩
  · exact ⟨2, rfl, by decide⟩
  · exact ⟨3, rfl, by decide⟩
  · exact ⟨4, rfl, by decide⟩
  · exact ⟨5, rfl, by decide⟩
  · exact ⟨6, rfl, by decide⟩
  · exact ⟨8, rfl, by decide⟩
  · exact ⟨10, rfl, by decide⟩
  · omega
set_option maxRecDepth 100000 in
set_option maxHeartbeats 2000000 in
theorem admitFits_walk (a0 : Option Addr) (len0 cap0 : Nat) (z0 : List Int) (a1 : Int) (w : World) (w0 : IsRow .i64 w a0 len0 cap0 z0) (w1 : (Lit.int .i64 a1).wf = true) :
    Calls Try.prog 5 #[.slice a0 len0 cap0, .int .i64 a1] w fun e w' => e = .returned (.bool true) ∧ Below w.heap.size w w' := by
  have hl1 := w0.1.1
  have hl2 := w0.1.2.1
  unfold maxLen at hl2
  have Z1 := hid w0.1.ilen
  have W0 := hid w0.1
  clear w0
  go_enter Try.func5, Try.ntmps5
  go_wp2_with fail
  refine (begun_ok _).mono ?_
  rintro e w1 ⟨rfl, c1⟩
  have hI : AFInv w [] none 0 w1 := ⟨none, by simp, Sl.empty _ _ _ _, below_nil (Below.refl _ w) c1, fun g h => by cases h⟩
  replace hI := hid hI
  clear c1
  go_upto_region 4 with fail
  go_cut [23, 24, 25] (fun s23 s24 s25 wx => wx = w1 ∧ ∃ N : Nat, N ≤ 5 ∧ N ≤ len0 ∧ s23 = .slice a0 N cap0 ∧ s24 = .int .i64 N ∧ s25 = .int .i64 0)
  case first =>
    go_wp2
    · go_meet
      exact ⟨rfl, 5, by omega, by omega, rfl, rfl, rfl⟩
    · go_meet
      exact ⟨rfl, len0, by omega, by omega, by simp, by simp, rfl⟩
  case rest =>
    obtain ⟨rfl, N, hN1, hN2, rfl, rfl, rfl⟩ := hcut
    go_wp2
    go_loopw [5, 25] (fun s5 s25 wr => ∃ (l : List Use) (a : Option Addr) (c : Nat), l.length ≤ N ∧ s25 = .int .i64 l.length ∧ s5 = .slice a l.length c ∧ Hid (AFInv w l a c wr)) (fun _ s25 _ => N - (intOf s25).toNat)
    case atStart => exact ⟨[], none, 0, by simp, rfl, rfl, hI⟩
    case round =>
      obtain ⟨l, a, c, hk, rfl, rfl, hJ⟩ := hrel
      clear hI
      obtain ⟨G, i1, i2, i3, i4⟩ := id hJ.out
      replace i1 := hid i1
      replace i3 := hid i3
      replace i4 := hid i4
      by_cases hlt : l.length < N
      · have hz : l.length < z0.length := by have := Z1.out; omega
        obtain ⟨g, off, rfl, _, _, hc⟩ := (W0.out.chg (Chg.of_below i3.out Nil) (fun _ _ _ h => h)).at hz
        have hc1 := hc l.length hz
        clear hc
        obtain ⟨z, hzz⟩ : ∃ z, z = z0[l.length] := ⟨_, rfl⟩
        rw [← hzz] at hc1
        replace hzz := hid hzz
        have hB := hid (Blk.new wr 3 perCells2)
        go_wp2_with fail
        refine (rest_nat _ 8 _ (by omega) (by omega)).mono ?_
        rintro e w2 ⟨q, hq, rfl, rfl⟩
        obtain ⟨p, hp, p1, p2, p3⟩ := per_ok2 q (by omega)
        have hcp := hB.out.cell q
        rw [hp] at hcp
        unfold perCells2 at hcp
        replace hp := hid hp
        replace p3 := hid p3
        go_wp2_with fail
        refine (rest_nat _ (p : Int) _ (by omega) (by omega)).mono ?_
        rintro e w2 ⟨q', hq', rfl, rfl⟩
        obtain ⟨m, hm⟩ : ∃ m : Nat, 1 + (q' : Int) = (m : Int) := ⟨q' + 1, by omega⟩
        have hm1 : 1 ≤ m := by omega
        have hm2 : m ≤ p := by omega
        have huo : (Use.mk m p).ok := ⟨hm1, hm2, p2⟩
        replace huo := hid huo
        have C4 : Chg Nil wr (wr.alloc (.cells perCells2.toArray 3)) := (Chg.refl _ _).alloc _
        have S2 := hid ((i2.chg C4 (fun _ _ h => h)).alloc (.cells #[.int .i64 m, .int .i64 p] 35))
        have N2 := Rd.of_blk (n := 1) (s := 2) (Blk.new (wr.alloc (.cells perCells2.toArray 3)) 35 (useCells ⟨m, p⟩)) rfl (by decide)
        rw [show (wr.alloc (.cells perCells2.toArray 3)).heap.size = wr.heap.size + 1 by simp] at N2
        replace N2 := hid N2
        have HA1 : Hid (∀ u ∈ useCells ⟨m, p⟩, u.oneCell' = true) := use_one _
        replace C4 := hid C4
        replace i2 := hid i2
        go_wp2_with (at_builtin; refine wpList_append_sl rfl _ _ eUse rfl rfl rfl S2.out N2.out HA1.out (by omega) (by omega) ?_; intro a' c' w4 G' y1 y2 y3; replace y1 := hid y1; replace y2 := hid y2; replace y3 := hid y3)
        go_roundw
        case rel =>
          refine ⟨l ++ [⟨m, p⟩], a', c', by simp; omega, by simp, by simp, G', ?_, ?_, ?_, ?_⟩
          · intro u hu
            rcases List.mem_append.1 hu with h | h
            · exact i1.out u h
            · rw [List.mem_singleton.1 h]; exact ⟨huo.out, p3.out⟩
          · have := y1.out
            rw [← flat_snoc] at this
            simpa using this
          · exact below_chg (below_nil i3.out C4.out) (push_chg y2.out) i4.out
          · intro g hg
            rcases push_grew y3.out g hg with h | h
            · exact i4.out g h
            · have := i3.out.size; simp at h; omega
        case measure => simp [intOf]; omega
      · have hl16 : l.length ≤ 16 := by omega
        have hok : ∀ u ∈ l, u.ok := fun u hu => (i1.out u hu).1
        have hr1 := rnd_pos hok
        have hr2 : rnd l ≤ 120 := Nat.le_of_dvd (by decide) (rnd_dvd fun u hu => (i1.out u hu).2)
        have HOK := hid hok
        clear hok
        obtain ⟨b, hb⟩ : ∃ b, decide (fit l 1) = b := ⟨_, rfl⟩
        have HB := hid hb
        clear hb
        go_wp2_with fail
        refine (fits_n _ _ _ _ l 1 _ rfl i2.rd hl16 HOK.out (by omega) (by omega) b HB.out).mono ?_
        rintro e w3 ⟨rfl, c3⟩
        replace i2 := i2.chg c3 (fun _ _ h => h)
        replace i3 := hid (below_nil i3.out c3)
        clear c3
        go_wp2_with fail
        refine (round_ok _ _ _ l _ i2.rd hl16 HOK.out).mono ?_
        rintro e w5 ⟨rfl, c5⟩
        replace i2 := i2.chg c5 (fun _ _ h => h)
        replace i3 := hid (below_nil i3.out c5)
        clear c5
        go_wp2_with fail
        refine (rest_nat _ 300 _ (by omega) (by omega)).mono ?_
        rintro e w6 ⟨q, hq, rfl, rfl⟩
        go_wp2_with fail
        refine (late_ok _ _ _ l q _ i2.rd hl16 HOK.out (by omega)).mono ?_
        rintro e w6 ⟨n1, hn1, rfl, l1, c6⟩
        replace l1 := hid l1
        replace i2 := i2.chg c6 (fun _ _ h => h)
        replace i3 := hid (below_nil i3.out c6)
        clear c6
        have hrd : ∀ u ∈ l, u.p ∣ rnd l := fun u hu => mem_rnd hu
        have hfi : fit l 1 ↔ dem (rnd l) l ≤ rnd l := by unfold fit; rw [Nat.one_mul]
        replace hrd := hid hrd
        replace hfi := hid hfi
        obtain ⟨r, hr⟩ : ∃ r, r = rnd l := ⟨_, rfl⟩
        rw [← hr] at hr1 hr2 hrd hfi ⊢
        clear hr
        go_wp2_with fail
        refine (late_ok _ _ _ l r _ i2.rd hl16 HOK.out (by omega)).mono ?_
        rintro e w7 ⟨n2, hn2, rfl, l2, c7⟩
        replace l2 := hid l2
        replace i3 := hid (below_nil i3.out c7)
        clear c7
        cases b with
        | true =>
          have hf : fit l 1 := of_decide_eq_true HB.out
          obtain rfl := l1.out.1 hf
          obtain rfl := l2.out.1 hf
          replace hf := hid hf
          go_wp2
          go_ret
          exact ⟨rfl, i3.out⟩
        | false =>
          have hf : ¬ fit l 1 := of_decide_eq_false HB.out
          have h2 : 0 < n2 := by
            rcases Nat.eq_zero_or_pos n2 with h | h
            · exact absurd (hfi.out.2 (l2.out.2 h hrd.out)) hf
            · exact h
          replace hf := hid hf
          go_wp2
          go_ret
          exact ⟨rfl, i3.out⟩
end Go.Proofs.Ytoocjfolhghjoaa
