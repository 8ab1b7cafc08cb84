/- The walk of the law HeapTurns: it returns true and changes nothing that was there. No condition. -/
import Derived.Test.YthbkmjigplolgaaHeapTwo
import Derived.Deep.DeepCutAuto
namespace Go.Proofs.Ythbkmjigplolgaa
open Go.ChangeShapes Go.WideShapes Go.ChangeAt Go.RowKit
set_option linter.unusedVariables false
/-- What holds ahead of each round: both heaps hold the first k. -/
def TurnsInv (w0 : World) (pa pb : Nat) (z : List Int) (k : Nat) (w : World) : Prop := ∃ Fa Fb la lb, TwoH w0 w Fa Fb pa pb la lb ∧ la.Perm (ent z k) ∧ lb.Perm (ent z k)
/-- What holds ahead of each round of the end: both heaps hold the same, n of them. -/
def TurnsEnd (w0 : World) (pa pb : Nat) (n : Nat) (w : World) : Prop := ∃ Fa Fb la lb, TwoH w0 w Fa Fb pa pb la lb ∧ la.Perm lb ∧ la.length = n
theorem one_of {l : List HE} {x : HE} (h : l.Perm [x]) : l = [x] := List.perm_singleton.1 h
theorem ent_not {z : List Int} {k : Nat} {l : List HE} (h : l.Perm (ent z k)) : (k : Int) ∉ l.map HE.id := fun hh => by
  have h1 := (h.map HE.id).mem_iff.1 hh
  have := ent_ids h1
  omega
set_option maxRecDepth 100000 in
set_option maxHeartbeats 1000000 in
theorem heapTurns_walk (a0 : Option Addr) (len0 cap0 : Nat) (z0 : List Int) (a1 a2 : Int) (w : World) (w0 : IsRow .i64 w a0 len0 cap0 z0) (w1 : (Lit.int .i64 a1).wf = true) (w2 : (Lit.int .i64 a2).wf = true) :
    Calls Try.prog 8 #[.slice a0 len0 cap0, .int .i64 a1, .int .i64 a2] w fun e w' => e = .returned (.bool true) ∧ Below w.heap.size w w' := by
  have hl1 := w0.1.1
  have hl2 := w0.1.2.1
  unfold maxLen at hl2
  have W0 := hid w0
  clear w0 w1 w2
  go_enter Try.func8, Try.ntmps8
  go_wp2_with fail
  refine (hnew_ok _).mono ?_
  rintro e w3 ⟨Fa, pa, rfl, s1, c1, g1⟩
  go_wp2_with fail
  refine (hnew_ok _).mono ?_
  rintro e w4 ⟨Fb, pb, rfl, s2, c2, g2⟩
  have T0 : TwoH w w4 Fa Fb pa pb [] [] := by
    have gA : ∀ k, Fa k → w.heap.size ≤ k := grew_ge g1 (fun _ h => h.elim) (Nat.le_refl _)
    have gB : ∀ k, Fb k → w3.heap.size ≤ k := grew_ge g2 (fun _ h => h.elim) (Nat.le_refl _)
    refine ⟨s1.chg c2 (fun _ _ h => h), s2, fun k h1 h2 => ?_, gA, fun k hk => Nat.le_trans c1.size (gB k hk), below_nil (below_nil (Below.refl _ w) c1) c2, heapI_nil, heapI_nil⟩
    have := s1.lt k h1
    have := gB k h2
    omega
  replace T0 := hid T0
  clear s1 s2 c1 c2 g1 g2
  go_wp2_with fail
  refine (push_ok w4 Fa pa [] 1 7 T0.out.a (by simp) heapI_nil (by simp) (by omega) (by omega)).mono ?_
  rintro e w5 ⟨rfl, F5, l5, y1, y2, y3, y4, y5⟩
  obtain rfl := one_of (by simpa using y2)
  have T1 := hid (T0.out.stepA y1 y3 y4 y5)
  clear y1 y2 y3 y4 y5
  go_wp2_with fail
  refine (turn_ok w5 F5 pa [⟨1, 7⟩] 0 1 4 T1.out.a (by simp) T1.out.ha (by simp) rfl).mono ?_
  rintro e w6 ⟨rfl, l6, y1, y2, y3, y4⟩
  obtain rfl := one_of (by simpa using y2)
  have T2 := hid (T1.out.stepA y1 y3 y4 (Grew.refl _ _))
  clear y1 y2 y3 y4
  have hpop := pop_ok w6 F5 pa [⟨1, 4⟩] T2.out.a (by simp) T2.out.ha (by simp)
  simp only [List.getElem_cons_zero] at hpop
  go_wp2_with fail
  refine hpop.mono ?_
  rintro e w7 ⟨rfl, l7, y1, y2, y3, y4⟩
  obtain rfl : l7 = [] := y2.cons_inv.eq_nil
  have T3 := hid (T2.out.stepA y1 y3 y4 (Grew.refl _ _))
  clear y1 y2 y3 y4 hpop T0 T1 T2
  have hI : TurnsInv w pa pb z0 0 w7 := ⟨F5, Fb, [], [], T3.out, List.Perm.refl _, List.Perm.refl _⟩
  replace hI := hid hI
  clear T3
  go_upto_region 7 with fail
  go_cut [0] (fun s0 wx => wx = w7 ∧ ∃ N : Nat, N ≤ 100 ∧ N ≤ len0 ∧ s0 = .slice a0 N cap0)
  case first =>
    go_wp2
    · go_meet
      exact ⟨rfl, 100, by omega, by omega, rfl⟩
    · go_meet
      exact ⟨rfl, len0, by omega, by omega, by simp⟩
  case rest =>
  obtain ⟨rfl, N, hN1, hN2, rfl⟩ := hcut
  by_cases hN0 : N = 0
  · subst hN0
    go_wp2
    go_ret
    obtain ⟨_, _, _, _, hT, _, _⟩ := hI.out
    exact ⟨rfl, hT.bel⟩
  have hb0 : ((N : Int) == 0) = false := by rw [beq_eq_false_iff_ne]; omega
  have r1 := rest_nonneg a1 N (by omega)
  have r2 := rest_lt a1 N (by omega)
  obtain ⟨i, hi⟩ := Int.eq_ofNat_of_zero_le r1
  have hiN : i < N := by omega
  have HR : Hid (Calls Try.prog 16 #[.int .i64 a1, .int .i64 N] wc fun e w' => e = .returned (.int .i64 i) ∧ wc = w') := hid (by
    have := rest_any a1 N wc (by omega) (by omega)
    rw [hi] at this
    exact this)
  clear r1 r2 hi hN0
  go_wp2_with (go_at_call 16; refine HR.out.mono ?_; rintro e w' ⟨rfl, rfl⟩)
  go_loopw [72] (fun s72 wr => ∃ k : Nat, k ≤ N ∧ s72 = .int .i64 k ∧ Hid (TurnsInv w pa pb z0 k wr)) (fun s72 _ => N - (intOf s72).toNat)
  case atStart => exact ⟨0, by omega, rfl, hI⟩
  case round =>
    clear hI HR
    obtain ⟨k, hk, rfl, hJ⟩ := hrel
    obtain ⟨Ga, Gb, la, lb, t1, p1, p2⟩ := id hJ.out
    have hla : la.length = k := by rw [p1.length_eq, ent_len]
    have hlb : lb.length = k := by rw [p2.length_eq, ent_len]
    by_cases hlt : k < N
    · have hz : k < z0.length := by have := W0.out.1.ilen; omega
      have HA : Rd wr (Upto w.heap.size) 1 a0 len0 cap0 (ints .i64 z0) := W0.out.1.chg (Chg.of_below t1.bel Nil) (fun _ _ _ h => h)
      obtain ⟨g, off, rfl, _, _, hc⟩ := HA.at hz
      have hc1 := hc k hz
      clear hc HA
      have hgd : z0.getD k 0 = z0[k] := by simp [List.getD, List.getElem?_eq_getElem hz]
      have hla2 : la.length < 1000 := by omega
      have hlb2 : lb.length < 1000 := by omega
      have n1 := ent_not p1
      have n2 := ent_not p2
      have T := hid t1
      have P1 := hid p1
      have P2 := hid p2
      replace hgd := hid hgd
      replace n1 := hid n1
      replace n2 := hid n2
      clear t1 p1 p2 hla hlb
      go_wp2_with fail
      refine (push_ok _ Ga pa la (k : Int) z0[k] T.out.a hla2 T.out.ha n1.out (by omega) (by omega)).mono ?_
      rintro e w8 ⟨rfl, F8, l8, y1, y2, y3, y4, y5⟩
      have T4 := hid (T.out.stepA y1 y3 y4 y5)
      have P3 := hid y2
      clear y1 y2 y3 y4 y5
      go_wp2_with fail
      refine (push_ok w8 Gb pb lb (k : Int) z0[k] T4.out.b hlb2 T4.out.hb n2.out (by omega) (by omega)).mono ?_
      rintro e w9 ⟨rfl, F9, l9, y1, y2, y3, y4, y5⟩
      have T5 := hid (T4.out.stepB y1 y3 y4 y5)
      have P4 := hid y2
      clear y1 y2 y3 y4 y5
      go_wp2
      go_roundw
      case rel =>
        refine ⟨k + 1, by omega, by go_num, F8, F9, l8, l9, T5.out, ?_, ?_⟩
        · rw [ent_succ, hgd.out]; exact P3.out.trans (P1.out.append_right _)
        · rw [ent_succ, hgd.out]; exact P4.out.trans (P2.out.append_right _)
      case measure => simp [intOf]; omega
    · have hkN : k = N := by omega
      subst hkN
      have hz : i < z0.length := by have := W0.out.1.ilen; omega
      have HA : Rd wr (Upto w.heap.size) 1 a0 len0 cap0 (ints .i64 z0) := W0.out.1.chg (Chg.of_below t1.bel Nil) (fun _ _ _ h => h)
      have hgd : z0.getD i 0 = z0[i] := by simp [List.getD, List.getElem?_eq_getElem hz]
      have hmem := ent_mem (z := z0) hiN
      obtain ⟨ia, hia, ea⟩ := List.mem_iff_getElem.1 (p1.mem_iff.2 hmem)
      obtain ⟨ib, hib, eb⟩ := List.mem_iff_getElem.1 (p2.mem_iff.2 hmem)
      rw [hgd] at ea eb
      have hiN2 : (i : Int) < (k : Int) := by omega
      have hla2 : la.length ≤ 1000 := by omega
      have hlb2 : lb.length ≤ 1000 := by omega
      have T := hid t1
      have hab := hid (p1.trans p2.symm)
      have hko : lb[ib].key = z0[i] := by rw [eb]
      have hOut := out_ok wr Gb pb lb ib (i : Int) t1.b hlb2 t1.hb hib (by rw [eb])
      rw [hko] at hOut
      replace hOut := hid hOut
      replace ea := hid ea
      replace eb := hid eb
      replace HA := hid HA
      have hlb := hid hlb
      have hla := hid hla
      clear t1 p1 p2 hgd hmem hko hJ hlt
      go_wp2_with fail
      refine hOut.out.mono ?_
      rintro e w8 ⟨rfl, l8, y1, y2, y3, y4⟩
      have T4 := hid (T.out.stepB y1 y3 y4 (Grew.refl _ _))
      have P3 := hid y2
      have HA8 := HA.out.chg y4 (fun q _ hq hh => by have := T.out.gb q hh; have : q < w.heap.size := hq; omega)
      clear y1 y2 y3 y4 hOut
      obtain ⟨g, off, rfl, _, _, hc⟩ := HA8.at hz
      have hc1 := hc i hz
      clear hc HA8
      have n8 : (i : Int) ∉ l8.map HE.id := by
        intro hh
        have hnd := T.out.b.nd
        have := ((P3.out.map HE.id).nodup_iff).2 hnd
        rw [List.map_cons, List.nodup_cons, eb.out] at this
        exact this.1 hh
      have hl8 : l8.length < 1000 := by have := P3.out.length_eq; have := hlb.out; simp at *; omega
      replace n8 := hid n8
      go_wp2_with fail
      refine (push_ok w8 Gb pb l8 (i : Int) a2 T4.out.b hl8 T4.out.hb n8.out (by omega) (by omega)).mono ?_
      rintro e w9 ⟨rfl, F9, l9, y1, y2, y3, y4, y5⟩
      have T5 := hid (T4.out.stepB y1 y3 y4 y5)
      have P4 := hid y2
      clear y1 y2 y3 y4 y5 hc1
      go_wp2_with fail
      refine (turn_ok w9 Ga pa la ia (i : Int) a2 T5.out.a hla2 T5.out.ha hia (by rw [ea.out])).mono ?_
      rintro e w10 ⟨rfl, l10, y1, y2, y3, y4⟩
      have T6 := hid (T5.out.stepA y1 y3 y4 (Grew.refl _ _))
      have P5 := hid y2
      clear y1 y2 y3 y4
      have hPP : l10.Perm l9 := (P5.out.trans (turn_perm hia hib hab.out (by rw [ea.out, eb.out]) P3.out ⟨(i : Int), a2⟩)).trans P4.out.symm
      obtain ⟨ik, hik, ek⟩ := List.mem_iff_getElem.1 (P5.out.mem_iff.2 (List.mem_set hia (⟨(i : Int), a2⟩ : HE)))
      have hKey := key_ok w10 Ga pa l10 ik (i : Int) T6.out.a hik (by rw [ek])
      rw [ek] at hKey
      simp only at hKey
      replace hKey := hid hKey
      have hE : TurnsEnd w pa pb k w10 := ⟨Ga, F9, l10, l9, T6.out, hPP, by rw [P5.out.length_eq, List.length_set]; exact hla.out⟩
      replace hE := hid hE
      clear hPP ek
      go_wp2_with fail
      refine hKey.out.mono ?_
      rintro e w' ⟨rfl, rfl⟩
      go_wp2
      obtain ⟨wu, rfl⟩ : ∃ wu : World, wu = wr := ⟨_, rfl⟩
      go_loopw [135] (fun s135 wr => ∃ j : Nat, j ≤ k ∧ s135 = .int .i64 j ∧ Hid (TurnsEnd w pa pb (k - j) wr)) (fun s135 _ => k - (intOf s135).toNat)
      case atStart => exact ⟨0, by omega, rfl, hE⟩
      case round =>
        clear hE hKey
        obtain ⟨j, hj, rfl, hE⟩ := hrel
        obtain ⟨Ha, Hb, ma, mb, t2, q1, q2⟩ := id hE.out
        have hmb : mb.length = k - j := by rw [← q1.length_eq]; exact q2
        by_cases hjk : j < k
        · have h0 : 0 < ma.length := by omega
          have h1 : 0 < mb.length := by omega
          have hfs := first_same t2.ha t2.hb q1 h0 h1
          have hpa := pop_ok wr Ha pa ma t2.a (by omega) t2.ha h0
          have hmb9 : mb.length ≤ 1000 := by omega
          obtain ⟨x, hx⟩ : ∃ x, x = ma[0] := ⟨_, rfl⟩
          rw [← hx] at hpa hfs
          have T7 := hid t2
          have Q1 := hid q1
          have Q2 := hid q2
          replace hpa := hid hpa
          replace hfs := hid hfs
          clear t2 q1 q2 hx hmb
          go_wp2_with fail
          refine hpa.out.mono ?_
          rintro e w11 ⟨rfl, l11, y1, y2, y3, y4⟩
          have T8 := hid (T7.out.stepA y1 y3 y4 (Grew.refl _ _))
          have P6 := hid y2
          clear y1 y2 y3 y4 hpa
          have hpb := pop_ok w11 Hb pb mb T8.out.b hmb9 T8.out.hb h1
          rw [← hfs.out] at hpb
          replace hpb := hid hpb
          go_wp2_with fail
          refine hpb.out.mono ?_
          rintro e w12 ⟨rfl, l12, y1, y2, y3, y4⟩
          have T9 := hid (T8.out.stepB y1 y3 y4 (Grew.refl _ _))
          have P7 := hid y2
          clear y1 y2 y3 y4 hpb
          go_wp2
          go_roundw
          case rel =>
            refine ⟨j + 1, by omega, by go_num, Ha, Hb, l11, l12, T9.out, ?_, ?_⟩
            · exact ((P6.out.trans Q1.out).trans P7.out.symm).cons_inv
            · have := P6.out.length_eq
              have := Q2.out
              simp at *
              omega
          case measure => simp [intOf]; omega
        · have hz1 : ma.length = 0 := by omega
          have hz2 : mb.length = 0 := by omega
          have hp1 := hlen_ok wr Ha pa ma t2.a
          have hp2 := hlen_ok wr Hb pb mb t2.b
          rw [hz1] at hp1
          rw [hz2] at hp2
          replace hp1 := hid hp1
          replace hp2 := hid hp2
          have hb := t2.bel
          replace hb := hid hb
          clear t2 q1 q2 hmb hz1 hz2
          go_wp2_with fail
          refine hp1.out.mono ?_
          rintro e w' ⟨rfl, rfl⟩
          go_wp2_with fail
          refine hp2.out.mono ?_
          rintro e w' ⟨rfl, rfl⟩
          go_wp2
          go_ret
          exact ⟨rfl, hb.out⟩
end Go.Proofs.Ythbkmjigplolgaa
