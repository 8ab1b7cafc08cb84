/- The walk of the law HeapLeast: it returns true and changes nothing that was there. No condition. -/
import Derived.Test.YthbkmjigplolgaaHeapLeastP
import Derived.Deep.DeepCutAuto
import Derived.Deep.CutBlock
namespace Go.Proofs.Ythbkmjigplolgaa
open Go.ChangeShapes Go.WideShapes Go.ChangeAt Go.RowKit
set_option linter.unusedVariables false
/-- What holds ahead of each round. -/
def LeastInv (w0 : World) (p mb k : Nat) (w : World) : Prop := ∃ F l, LeastV w0 F p mb l w ∧ l.length ≤ k + 2
theorem least_start {w w5 w6 w7 w8 : World} {F5 : Nat → Prop} {p : Nat} {l5 : List HE} (hb5 : Hid (Below w.heap.size w w5)) (S4 : Hid (HpAt w6 F5 p l5)) (hg5 : Hid (∀ k, F5 k → w.heap.size ≤ k)) (I3 : Hid (HeapI l5)) (P3 : Hid (l5.Perm ([(⟨4, 4⟩ : HE)] ++ [⟨3, 4⟩]))) (b6 : Hid (Below w.heap.size w w6)) (k1 : Hid (Chg (One w6.heap.size) (w6.alloc (.map #[] 0)) w7)) (k2 : Hid (Chg (One w6.heap.size) w7 w8))
    (m2 : Hid (MpAt w8 Try.prog 3 w6.heap.size (0 + 1 + 1) (updM (updM (fun _ => none) 3 (some (.int .i64 4))) 4 (some (.int .i64 4))))) : LeastV w F5 p w6.heap.size l5 w8 := by
  have hnd := S4.out.nd
  have hk : updM (updM (fun _ => none) 3 (some (.int .i64 4))) 4 (some (.int .i64 4)) = keyF l5 := by
    refine keyF_is hnd (fun t v => ?_)
    have hm : ∀ x, x ∈ l5 ↔ x = ⟨4, 4⟩ ∨ x = ⟨3, 4⟩ := fun x => by rw [P3.out.mem_iff]; simp
    unfold updM
    constructor
    · intro h
      split at h
      · rename_i hs
        injection h with h
        exact ⟨⟨4, 4⟩, (hm _).2 (.inl rfl), hs.symm, h.symm⟩
      · split at h
        · rename_i hs
          injection h with h
          exact ⟨⟨3, 4⟩, (hm _).2 (.inr rfl), hs.symm, h.symm⟩
        · cases h
    · rintro ⟨x, hx, rfl, rfl⟩
      rcases (hm x).1 hx with rfl | rfl
      · rfl
      · rfl
  have hmp := m2.out
  rw [hk] at hmp
  have hm3 := hmp.tight Try.underlying3 Try.underlying36 (l5.map HE.id) hnd (fun _ => keyF_dom)
  rw [List.length_map] at hm3
  have hnf : ¬ F5 w6.heap.size := fun hh => by have := S4.out.lt _ hh; omega
  have c1 : Chg Nil w6 (w6.alloc (.map #[] 0)) := (Chg.refl _ _).alloc _
  have hd : Dj F5 (One w6.heap.size) := fun k h1 h2 => hnf (by rw [← show k = w6.heap.size from h2]; exact h1)
  have ge : ∀ k, One w6.heap.size k → w.heap.size ≤ k := fun k hk => by rw [show k = w6.heap.size from hk]; exact b6.out.size
  exact ⟨((S4.out.chg c1 (fun _ _ h => h)).chg k1.out hd).chg k2.out hd, I3.out, hm3, hnf, b6.out.size, hg5.out, below_chg (below_chg (below_nil b6.out c1) k1.out ge) k2.out ge⟩
theorem LeastV.one {w0 w w1 : World} {F : Nat → Prop} {p mb r : Nat} {l : List HE} (h : LeastV w0 F p mb l w) (hc : Chg (One r) w w1) (hF : ¬ F r) (hm : r ≠ mb) (hB : w0.heap.size ≤ r) : LeastV w0 F p mb l w1 :=
  ⟨h.h.chg hc (fun k h1 h2 => hF (by rw [← show k = r from h2]; exact h1)), h.hi, h.mp.chg hc (fun hh => hm (show mb = r from hh).symm), h.nf, h.gm, h.gf, below_chg h.bel hc (fun k hk => by rw [show k = r from hk]; exact hB)⟩
set_option maxRecDepth 100000 in
set_option maxHeartbeats 1000000 in
theorem heapLeast_walk (a0 : Option Addr) (len0 cap0 : Nat) (z0 : List (List Int)) (w : World) (w0 : IsRows .i64 w a0 len0 cap0 z0) :
    Calls Try.prog 7 #[.slice a0 len0 cap0] w fun e w' => e = .returned (.bool true) ∧ Below w.heap.size w w' := by
  have hl : len0 ≤ 9223372036854775807 ∧ len0 ≤ cap0 ∧ cap0 ≤ 9223372036854775807 := by
    obtain ⟨xs, h1, _⟩ := id w0
    have h2 := h1.1
    have h3 := h1.2.1
    unfold maxLen at h3
    omega
  obtain ⟨hl0, hl1, hl2⟩ := hl
  have W0 := hid w0
  clear w0
  have hmm := @run_makeMap Try.prog
  go_enter Try.func7, Try.ntmps7
  go_wp2_with fail
  refine (hnew_ok _).mono ?_
  rintro e w3 ⟨F3, p, rfl, s1, c1, g1⟩
  have hb3 := below_nil (Below.refl _ w) c1
  have hg3 : ∀ k, F3 k → w.heap.size ≤ k := grew_ge g1 (fun _ h => h.elim) (Nat.le_refl _)
  have S1 := hid s1
  replace hb3 := hid hb3
  replace hg3 := hid hg3
  clear s1 c1 g1
  go_wp2_with fail
  refine (push_ok w3 F3 p [] 4 4 S1.out (by simp) heapI_nil (by simp) (by omega) (by omega)).mono ?_
  rintro e w4 ⟨rfl, F4, l4, y1, y2, y3, y4, y5⟩
  obtain rfl := List.perm_singleton.1 (by simpa using y2)
  have hb4 := hid (below_chg hb3.out y4 hg3.out)
  have hg4 := hid (grew_ge y5 hg3.out hb3.out.size)
  have S2 := hid y1
  have I2 := hid y3
  clear y1 y2 y3 y4 y5
  go_wp2_with fail
  refine (push_ok w4 F4 p [⟨4, 4⟩] 3 4 S2.out (by simp) I2.out (by simp) (by omega) (by omega)).mono ?_
  rintro e w5 ⟨rfl, F5, l5, y1, y2, y3, y4, y5⟩
  have hb5 := hid (below_chg hb4.out y4 hg4.out)
  have hg5 := hid (grew_ge y5 hg4.out hb4.out.size)
  have S3 := hid y1
  have I3 := hid y3
  have P3 := hid y2
  have hl5 : l5.length = 2 := y2.length_eq
  have h0 : 0 < l5.length := by omega
  have hfst : l5[0] = ⟨3, 4⟩ := by
    have m1 : (⟨3, 4⟩ : HE) ∈ l5 := y2.mem_iff.2 (by simp)
    obtain ⟨j, hj, e⟩ := List.mem_iff_getElem.1 m1
    have h1 := y3.first j hj
    rw [e] at h1
    have m2 := y2.mem_iff.1 (List.getElem_mem h0)
    simp only [List.cons_append, List.nil_append, List.mem_cons, List.not_mem_nil, or_false] at m2
    rcases m2 with m2 | m2
    · rw [m2] at h1; exact absurd h1 (by unfold HE.le; simp)
    · exact m2
  have hpk := peek_ok w5 F5 p l5 y1 h0
  rw [hfst] at hpk
  simp only at hpk
  replace hpk := hid hpk
  replace hl5 := hid hl5
  clear y1 y2 y3 y4 y5 hfst h0 S1 S2 I2 hb3 hb4 hg3 hg4
  go_wp2_with fail
  refine hpk.out.mono ?_
  rintro e w6 ⟨rfl, n6, rfl⟩
  have b6 := hid (show Below w.heap.size w (w5.drewN n6) from below_nil hb5.out ((Chg.refl Nil w5).drewN n6))
  have S4 := hid (S3.out.drewN n6)
  clear hpk S3
  obtain ⟨w6, hw6⟩ : ∃ w6, w6 = w5.drewN n6 := ⟨_, rfl⟩
  rw [← hw6] at b6 S4 ⊢
  clear hw6
  have M0 := hid (MpAt.made w6 Try.prog 3)
  go_upto_region 8 with (first | (refine wpList_insert _ rfl _ _ _ 36 rfl Try.underlying3 Try.underlying36 w6.heap.size 0 _ rfl M0.out (by omega) 3 (.int .i64 4) rfl rfl (wf_key (by omega) (by omega)) ?_; intro w7 m1 k1; replace m1 := hid m1; replace k1 := hid k1) | (refine wpList_insert _ rfl _ _ _ 36 rfl Try.underlying3 Try.underlying36 w6.heap.size (0 + 1) _ rfl m1.out (by omega) 4 (.int .i64 4) rfl rfl (wf_key (by omega) (by omega)) ?_; intro w8 m2 k2; replace m2 := hid m2; replace k2 := hid k2))
  have V0 := least_start hb5 S4 hg5 I3 P3 b6 k1 k2 m2
  replace V0 := hid V0
  obtain ⟨mb, hmb⟩ : ∃ mb, mb = w6.heap.size := ⟨_, rfl⟩
  rw [← hmb] at V0 ⊢
  have hI : Hid (LeastInv w p mb 0 w8) := hid ⟨F5, l5, V0.out, by have := hl5.out; omega⟩
  clear V0 m1 m2 k1 k2 M0 S4 b6 hb5 hg5 I3 P3 hl5 hmb
  go_cut [50, 51, 52] (fun s50 s51 s52 wx => wx = w8 ∧ ∃ N : Nat, N ≤ 100 ∧ N ≤ len0 ∧ s50 = .slice a0 N cap0 ∧ s51 = .int .i64 N ∧ s52 = .int .i64 0)
  case first =>
    go_wp2
    · go_meet
      exact ⟨rfl, 100, by omega, by omega, rfl, rfl, rfl⟩
    · go_meet
      exact ⟨rfl, len0, by omega, by omega, by simp, by simp, rfl⟩
  case rest =>
  obtain ⟨rfl, N, hN1, hN2, rfl, rfl, rfl⟩ := hcut
  clear hmm
  go_wp2
  go_loopw [52] (fun s52 wr => ∃ k : Nat, k ≤ N ∧ s52 = .int .i64 k ∧ Hid (LeastInv w p mb k wr)) (fun s52 _ => N - (intOf s52).toNat)
  case atStart => exact ⟨0, by omega, rfl, hI⟩
  case round =>
    clear hI
    obtain ⟨k, hk, rfl, hJ⟩ := hrel
    by_cases hlt : k < N
    · obtain ⟨F, l, V, hlk⟩ := id hJ.out
      obtain ⟨g, off, ar, nr, cr, rfl, hcr, z, hz, hz1, hz2, hz3⟩ := W0.out.row V.bel k (by omega)
      replace V := hid V
      by_cases h3 : nr < 3
      · have h3' : (nr : Int) < 3 := by omega
        clear hz
        go_wp2
        go_roundw
        case rel => exact ⟨k + 1, by omega, by go_num, F, l, V.out, by omega⟩
        case measure => simp [intOf]; omega
      · have h3' : (3 : Int) ≤ (nr : Int) := by omega
        obtain ⟨gr, offr, rfl, _, _, hc⟩ := hz.at (i := 0) (by omega)
        have x0 := hc 0 (by omega)
        have x1 := hc 1 (by omega)
        have x2 := hc 2 (by omega)
        simp only [Nat.add_zero] at x0
        clear hc hz
        obtain ⟨y, hy0, hy1, Q0⟩ := rest_to z[0] 3 (by omega) (by omega)
        obtain ⟨t, ht0, ht1, Q1⟩ := rest_in z[1] 20 (by omega) (by omega)
        obtain ⟨q, hq0, hq1, Q2⟩ := rest_in z[2] 50 (by omega) (by omega)
        replace Q0 := hid Q0
        replace Q1 := hid Q1
        replace Q2 := hid Q2
        go_wp2
        go_quiet ((first | (go_at_call 16; with_reducible exact Calls.quiet_of_same (Q1.out _)) | (go_at_call 16; with_reducible exact Calls.quiet_of_same (Q2.out _))))
        have V1 := hid (V.out.nil ((Chg.refl Nil wr).drewN nq))
        obtain ⟨wa, hwa⟩ : ∃ wa, wa = wr.drewN nq := ⟨_, rfl⟩
        have x0' : wa.cell? ⟨gr, offr, none⟩ = some (.int .i64 z[0]) := by rw [hwa]; exact x0
        rw [← hwa] at V1 ⊢
        clear hwa x0 x1 x2 hcr V
        obtain ⟨wo, rfl⟩ : ∃ wo : World, wo = wr := ⟨_, rfl⟩
        go_upto_block 2 with (go_at_call 16; refine (Q0.out _).mono ?_; rintro e w' ⟨rfl, rfl⟩)
        have hll : l.length < 1000 := by omega
        have hll2 : l.length ≤ 1000 := by omega
        have htw : (Lit.int .i64 t).wf = true := wf_key (by omega) (by omega)
        replace htw := hid htw
        go_cut [12] (fun _ wx => Hid (LeastInv w p mb (k + 1) wx))
        case first =>
          have hy : y = 0 ∨ y = 1 ∨ y = 2 := by omega
          clear hJ
          rcases hy with rfl | rfl | rfl
          · by_cases hin : t ∈ l.map HE.id
            · have HC := hid (push_there wa F p l t q V1.out.h hin (by omega) (by omega))
              clear hin
              go_wp2_with (go_at_call 27; refine HC.out.mono ?_; rintro e w' ⟨rfl, rfl⟩)
              go_meet
              exact ⟨F, l, V1.out, by omega⟩
            · have HC := hid (push_ok wa F p l t q V1.out.h hll V1.out.hi hin (by omega) (by omega))
              clear hin
              go_wp2_with (first | (go_at_call 27; refine HC.out.mono ?_; rintro e wb ⟨rfl, Fb, lb, u1, u2, u3, u4, u5⟩; have HM := hid (V1.out.mpx u4); replace u1 := hid u1; replace u2 := hid u2; replace u3 := hid u3; replace u4 := hid u4; replace u5 := hid u5) | (at_mapUpdate; refine wpList_store _ rfl _ _ _ 36 rfl Try.underlying3 Try.underlying36 mb _ _ rfl HM.out (by omega) t (.int .i64 q) rfl rfl htw.out ?_; intro wd v1 v2; replace v1 := hid v1; replace v2 := hid v2))
              go_meet
              have hv := v1.out
              rw [keyF_push V1.out.h.nd u1.out.nd u2.out] at hv
              exact ⟨Fb, lb, V1.out.turn u1.out u3.out u4.out u5.out hv v2.out, by have := u2.out.length_eq; simp at this; omega⟩
          · by_cases hin : t ∈ l.map HE.id
            · obtain ⟨x, hx, hxt⟩ := List.mem_map.1 hin
              obtain ⟨i, hi, hxi⟩ := List.mem_iff_getElem.1 hx
              have hit : l[i].id = t := by rw [hxi]; exact hxt
              clear hin hx hxt hxi
              have HC := hid (turn_ok wa F p l i t q V1.out.h hll2 V1.out.hi hi hit)
              replace hit := hid hit
              go_wp2_with (first | (go_at_call 29; refine HC.out.mono ?_; rintro e wb ⟨rfl, lb, u1, u2, u3, u4⟩; have HM := hid (V1.out.mpx u4); replace u1 := hid u1; replace u2 := hid u2; replace u3 := hid u3; replace u4 := hid u4) | (at_mapUpdate; refine wpList_store _ rfl _ _ _ 36 rfl Try.underlying3 Try.underlying36 mb _ _ rfl HM.out (by omega) t (.int .i64 q) rfl rfl htw.out ?_; intro wd v1 v2; replace v1 := hid v1; replace v2 := hid v2))
              go_meet
              have hv := v1.out
              rw [keyF_turn V1.out.h.nd u1.out.nd hi hit.out u2.out] at hv
              exact ⟨F, lb, V1.out.turn u1.out u3.out u4.out (Grew.refl _ _) hv v2.out, by have := u2.out.length_eq; rw [List.length_set] at this; omega⟩
            · have HC := hid (turn_none wa F p l t q V1.out.h hin (by omega) (by omega))
              clear hin
              go_wp2_with (go_at_call 29; refine HC.out.mono ?_; rintro e w' ⟨rfl, rfl⟩)
              go_meet
              exact ⟨F, l, V1.out, by omega⟩
          · by_cases hin : t ∈ l.map HE.id
            · obtain ⟨x, hx, hxt⟩ := List.mem_map.1 hin
              obtain ⟨i, hi, hxi⟩ := List.mem_iff_getElem.1 hx
              have hit : l[i].id = t := by rw [hxi]; exact hxt
              clear hin hx hxt hxi
              have HC := hid (out_ok wa F p l i t V1.out.h hll2 V1.out.hi hi hit)
              replace hit := hid hit
              go_wp2_with (first | (go_at_call 30; refine HC.out.mono ?_; rintro e wb ⟨rfl, lb, u1, u2, u3, u4⟩; have HM := hid (V1.out.mpx u4); replace u1 := hid u1; replace u2 := hid u2; replace u3 := hid u3; replace u4 := hid u4) | (at_delete; refine wpList_drop _ rfl _ _ 36 3 rfl (e := 3) Try.underlying3 Try.underlying36 mb _ _ rfl HM.out t rfl htw.out ?_; intro wd v1 v2; replace v1 := hid v1; replace v2 := hid v2))
              go_meet
              have hv := v1.out
              rw [← hit.out, keyF_out V1.out.h.nd u2.out] at hv
              exact ⟨F, lb, V1.out.turn u1.out u3.out u4.out (Grew.refl _ _) hv v2.out, by have := u2.out.length_eq; simp at this; omega⟩
            · have HC := hid (out_none wa F p l t V1.out.h hin (by omega) (by omega))
              clear hin
              go_wp2_with (go_at_call 30; refine HC.out.mono ?_; rintro e w' ⟨rfl, rfl⟩)
              go_meet
              exact ⟨F, l, V1.out, by omega⟩
        case rest =>
          clear V1 hJ hlk hll hll2 htw x0' Q0 Q1 Q2
          obtain ⟨F, l, V, hlk⟩ := id hcut.out
          have hll2 : l.length ≤ 1000 := by omega
          have hLen := hid (fun n ty => (V.nil ((Chg.refl Nil wc).drewN n)).len ty)
          have HLN := hid (fun n => hlen_ok (wc.drewN n) F p l (V.h.drewN n))
          have HV := hid V
          clear V hcut
          by_cases hl0 : l.length = 0
          · have hnil : l = [] := List.eq_nil_of_length_eq_zero hl0
            subst hnil
            have HP := hid (peek_none wc F p HV.out.h)
            have hL0 := hLen.out 0
            have HL0 := hid (hlen_ok wc F p [] HV.out.h)
            change ∀ ty, Sem.run Try.prog _ wc = .ok _ wc at hL0
            simp only [List.length_nil] at hL0 HL0
            go_wp2_with (first | (go_at_call 28; refine HP.out.mono ?_; rintro e w' ⟨rfl, rfl⟩) | (go_at_call 31; refine HL0.out.mono ?_; rintro e w' ⟨rfl, rfl⟩))
            go_roundw
            case rel => exact ⟨k + 1, by omega, by go_num, F, [], HV.out, by simp⟩
            case measure => simp [intOf]; omega
          · have hl1 : 0 < l.length := by omega
            have hl1' : (0 : Int) < (l.length : Int) := by omega
            have HP := hid (peek_ok wc F p l HV.out.h hl1)
            have hw0 := HV.out.h
            have hF := HV.out.hi.first
            obtain ⟨x, hx⟩ : ∃ x, x = l[0] := ⟨_, rfl⟩
            have hxm : x ∈ l := by rw [hx]; exact List.getElem_mem hl1
            have hxw : (Lit.int .i64 x.id).wf = true := by
              obtain ⟨_, _, _, _, _, _, _, hh⟩ := hw0
              have := hh.wf x hxm
              exact wf_key this.1 this.2
            have hkx : keyF l x.id = some (.int .i64 x.key) := (keyF_some hw0.nd).2 ⟨x, hxm, rfl, rfl⟩
            have hmin : Hid (∀ y ∈ l, x.le y) := hid (fun y hy => by
              obtain ⟨j, hj, rfl⟩ := List.mem_iff_getElem.1 hy
              rw [hx]; exact hF j hj)
            have HLK := hid (fun n => by
              have := (HV.out.mp.drewN n).look_ok (t := 36) Try.underlying3 Try.underlying36 (zeroIntO _) x.id hxw
              rw [hkx] at this
              exact this)
            simp only [Option.getD_some, Option.isSome_some] at HLK
            rw [← hx] at HP
            have HX := hid hx
            clear hx hxm hxw hkx hF hw0
            go_wp2_with fail
            refine HP.out.mono ?_
            rintro e w' ⟨rfl, n9, rfl⟩
            have hL := hLen.out n9
            have hK := HLK.out n9
            have HLn := hid (HLN.out n9)
            have HM := hid (HV.out.mp.drewN n9)
            have HV2 := hid (HV.out.nil ((Chg.refl Nil wc).drewN n9))
            clear HP HV hLen HLN HLK
            obtain ⟨wd, hwd⟩ : ∃ wd, wd = wc.drewN n9 := ⟨_, rfl⟩
            rw [← hwd] at hL hK HLn HM HV2 ⊢
            clear hwd
            have hrl : wd.heap.size ≠ mb := fun hh => by have := HM.out.lt; omega
            have hrF : ¬ F wd.heap.size := fun hh => by have := HV2.out.h.lt _ hh; omega
            have hrB : w.heap.size ≤ wd.heap.size := HV2.out.bel.size
            replace hrl := hid hrl
            go_wp2_with (first | (go_at_call 31; refine HLn.out.mono ?_; rintro e w' ⟨rfl, rfl⟩) | (at_range; refine wpList_range_mp _ rfl _ 36 rfl 3 3 Try.underlying3 Try.underlying36 mb _ _ rfl HM.out ?_; intro we cnt2 r1 r2 r3; replace r1 := hid r1; replace r2 := hid r2))
            go_frame
            have HV3 := hid (HV2.out.nil r2.out)
            clear r2 hL hK HM HV2
            go_loopw [137] (fun _ wr => ∃ (left : Int → Bool) (cnt : Nat), Hid (MpRg wr Try.prog 3 mb wd.heap.size l.length (keyF l) left cnt) ∧ Hid (LeastV w F p mb l wr)) (fun _ wr => wr.rangeLeft mb wd.heap.size)
            case atStart => exact ⟨_, cnt2, r1, HV3⟩
            case round =>
              clear r1 HV3
              obtain ⟨left, cnt, hR, HV4⟩ := hrel
              go_wp2_with (at_next; refine wpList_next_mp _ rfl _ rfl 3 Try.underlying3 mb wd.heap.size _ _ left cnt rfl hR.out ?_ ?_)
              · intro _
                go_wp2
                go_roundw
                case rel => exact ⟨k + 1, by omega, by go_num, F, l, HV4.out, by omega⟩
                case measure => simp [intOf]; omega
              · intro i v w5 cnt5 hleft hfv hfs hR5 hcnt hC5 hsz5 hen
                replace hR5 := hid hR5
                have HV5 := hid (HV4.out.one hC5 hrF hrl.out hrB)
                obtain ⟨y, hy, hyi, hyv⟩ : ∃ y, y ∈ l ∧ y.id = i ∧ v = .int .i64 y.key := by
                  cases hf : keyF l i with
                  | none => rw [hf] at hfs; cases hfs
                  | some u =>
                    obtain ⟨y, a1, a2, a3⟩ := (keyF_some HV4.out.h.nd).1 hf
                    exact ⟨y, a1, a2, by rw [← hfv u hf]; exact a3⟩
                subst hyi
                subst hyv
                have hle := hmin.out y hy
                have HCN : Hid (cnt5 < wr.rangeLeft mb wd.heap.size) := hid (by rw [hR.out.cnt_eq]; exact hcnt)
                clear hsz5 hfv hfs hcnt hleft hC5 hR HV4 hy
                have h1 : x.key ≤ y.key := by unfold HE.le at hle; omega
                by_cases hke : y.key = x.key
                · have b1 : (y.key == x.key) = true := by rw [beq_iff_eq]; exact hke
                  have b2 : x.id ≤ y.id := by unfold HE.le at hle; omega
                  clear hle hke
                  go_wp2
                  go_roundw
                  case rel => exact ⟨_, cnt5, hR5, HV5⟩
                  case measure => rw [hR5.out.cnt_eq]; exact HCN.out
                · have b1 : (y.key == x.key) = false := by rw [beq_eq_false_iff_ne]; exact hke
                  clear hle hke
                  go_wp2
                  go_roundw
                  case rel => exact ⟨_, cnt5, hR5, HV5⟩
                  case measure => rw [hR5.out.cnt_eq]; exact HCN.out
    · obtain ⟨F, l, V, hlk⟩ := id hJ.out
      have HB := hid V.bel
      clear V
      go_wp2
      go_ret
      exact ⟨rfl, HB.out⟩
end Go.Proofs.Ythbkmjigplolgaa
