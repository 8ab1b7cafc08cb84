/- The walk of the law LocksOwn: it returns true and changes nothing that was there. No condition. -/
import Derived.Test.YtdelelpfombfbaaOwnS
import Derived.Test.YtdelelpfombfbaaManyM
import Derived.Test.YtdelelpfombfbaaSprM
import Derived.Deep.DeepCutAuto
import Derived.Deep.CutBlock
namespace Go.Proofs.Ytdelelpfombfbaa
open Go.ChangeShapes Go.WideShapes Go.ChangeAt Go.RowKit
set_option linter.unusedVariables false
section
variable {Ts : List Thing} {T : Thing} {w0 w : World} {i : Nat}
theorem grew_from {N : Nat} {F : Nat → Prop} (h : Grew N Nil F) : ∀ k, F k → N ≤ k := fun k hk => (h k hk).elim (fun h => h.elim) id
theorem made_q (h : Things Ts w0 w) : Calls Try.prog 10 #[] w fun e w' => ∃ p, e = .returned (.pointer (some ⟨p, 0, none⟩)) ∧ Things (ThQ p 0 :: Ts) w0 w' := by
  refine (qnew_ok w).mono ?_
  rintro e w' ⟨F, p, rfl, k1, k2, k3⟩
  exact ⟨p, rfl, h.push k2 (T := ThQ p 0) ⟨[], k1, by simp, fun x hx => by cases hx⟩ (grew_from k3)⟩
theorem made_k (h : Things Ts w0 w) : Calls Try.prog 11 #[.int .u16 0] w fun e w' => ∃ p, e = .returned (.pointer (some ⟨p, 0, none⟩)) ∧ Things (ThK p :: Ts) w0 w' := by
  refine (newLock_ok 0 w (by omega) (by omega)).mono ?_
  rintro e w' ⟨p, rfl, k1, k2, k3⟩
  exact ⟨p, rfl, h.push k2 (T := ThK p) ⟨rfl, 0, [], k1⟩ (fun k hk => by rw [show k = p from hk]; exact k3)⟩
theorem made_l (h : Things Ts w0 w) : Calls Try.prog 12 #[] w fun e w' => ∃ p, e = .returned (.pointer (some ⟨p, 0, none⟩)) ∧ Things (ThL p :: Ts) w0 w' := by
  refine (lnew_ok w).mono ?_
  rintro e w' ⟨F, p, rfl, k1, k2, k3⟩
  exact ⟨p, rfl, h.push k2 (T := ThL p) ⟨_, _, _, k1⟩ (grew_from k3)⟩
theorem made_m (h : Things Ts w0 w) : Calls Try.prog 13 #[] w fun e w' => ∃ p, e = .returned (.pointer (some ⟨p, 0, none⟩)) ∧ Things (ThM p 0 :: Ts) w0 w' := by
  refine (mnew_ok w).mono ?_
  rintro e w' ⟨F, p, rfl, k1, k2, k3⟩
  exact ⟨p, rfl, h.push k2 (T := ThM p 0) ⟨_, k1, m_new, by simp [MS.tot]⟩ (grew_from k3)⟩
theorem made_p (h : Things Ts w0 w) : Calls Try.prog 14 #[] w fun e w' => ∃ p, e = .returned (.pointer (some ⟨p, 0, none⟩)) ∧ Things (ThP p 0 :: Ts) w0 w' := by
  refine (pnew_ok w).mono ?_
  rintro e w' ⟨F, p, rfl, k1, k2, k3⟩
  exact ⟨p, rfl, h.push k2 (T := ThP p 0) ⟨_, _, k1, by omega, by simp, fun i _ x hx => by cases hx⟩ (grew_from k3)⟩
theorem made_r (h : Things Ts w0 w) : Calls Try.prog 15 #[.int .i64 1] w fun e w' => ∃ p, e = .returned (.tuple #[.pointer (some ⟨p, 0, none⟩), .int .i64 0]) ∧ Things (ThR p 0 :: Ts) w0 w' := by
  refine (snew_ok w 1 (by omega) (by omega)).mono ?_
  rintro e w' ⟨F, p, rfl, k1, k2, k3⟩
  exact ⟨p, rfl, h.push k2 (T := ThR p 0) ⟨_, k1, new_ok 1 (by omega) (by omega), by simp⟩ (grew_from k3)⟩
theorem made_c (h : Things Ts w0 w) : Calls Try.prog 16 #[.int .i64 0] w fun e w' => ∃ p, e = .returned (.tuple #[.pointer (some ⟨p, 0, none⟩), .int .i64 0]) ∧ Things (ThC p 0 :: Ts) w0 w' := by
  refine (newSem_ok 0 w (by omega) (by omega)).mono ?_
  rintro e w' ⟨F, p, rfl, k1, k2, k3⟩
  exact ⟨p, rfl, h.push k2 (T := ThC p 0) ⟨[], k1, by simp, fun x hx => by cases hx⟩ (grew_from k3)⟩
theorem Things.weak (h : Things Ts w0 w) (i : Nat) {N : Nat} {a : Option Addr} {n c : Nat} (hi : Ts[i]? = some (ThI N a n c)) : Things (Ts.set i (ThS a n c)) w0 w := by
  obtain ⟨F, k1, _, k3⟩ := h.put hi
  exact k3 _ F w (thI_thS F w k1) (Chg.refl _ _) (Grew.refl _ _)
theorem own_spoil2 {r : Row3} (h : Things Ts w0 w) (hi : Ts[i]? = some (ThS r.1 r.2.1 r.2.2)) (x : Int) :
    Calls Try.prog 33 #[.slice r.1 r.2.1 r.2.2, .int .i64 x] w fun e w' => e = .returned (.tuple #[]) ∧ Things Ts w0 w' := by
  have hs : Ts.set i (ThS r.1 r.2.1 r.2.2) = Ts := by
    obtain ⟨hlt, he⟩ := List.getElem?_eq_some_iff.1 hi
    rw [← he, List.set_getElem_self]
  have := own_spoil h hi x
  rwa [hs] at this
end
/-- The seven, so many rounds on. -/
abbrev Seven (pq pk pl pm pp pr pc j : Nat) : List Thing := [ThC pc j, ThR pr j, ThP pp j, ThM pm j, ThL pl, ThK pk, ThQ pq j]
/-- Eight rows that were told, ahead of the rest. -/
abbrev Eight (a b d r q f g h : Row3) (Ts : List Thing) : List Thing :=
  ThS h.1 h.2.1 h.2.2 :: ThS g.1 g.2.1 g.2.2 :: ThS f.1 f.2.1 f.2.2 :: ThS q.1 q.2.1 q.2.2 :: ThS r.1 r.2.1 r.2.2 :: ThS d.1 d.2.1 d.2.2 :: ThS b.1 b.2.1 b.2.2 :: ThS a.1 a.2.1 a.2.2 :: Ts
theorem eight_has (a b d r q f g h : Row3) (T : Thing) (Ts : List Thing) : ∀ x ∈ [a, b, d, r, q, f, g, h], ∃ i : Nat, (T :: Eight a b d r q f g h Ts)[i]? = some (ThS x.1 x.2.1 x.2.2) := by
  intro x hx
  simp only [List.mem_cons, List.not_mem_nil, or_false] at hx
  rcases hx with rfl | rfl | rfl | rfl | rfl | rfl | rfl | rfl
  · exact ⟨8, rfl⟩
  · exact ⟨7, rfl⟩
  · exact ⟨6, rfl⟩
  · exact ⟨5, rfl⟩
  · exact ⟨4, rfl⟩
  · exact ⟨3, rfl⟩
  · exact ⟨2, rfl⟩
  · exact ⟨1, rfl⟩
theorem eight_pop {a b d r q f g h : Row3} {T : Thing} {Ts : List Thing} {w0 w : World} (hh : Things (T :: Eight a b d r q f g h Ts) w0 w) : Things Ts w0 w := hh.pop.pop.pop.pop.pop.pop.pop.pop.pop
set_option maxRecDepth 100000 in
set_option maxHeartbeats 4000000 in
theorem locksOwn_walk (a0 : Option Addr) (len0 cap0 : Nat) (z0 : List Int) (w : World) (w0 : IsRow .i64 w a0 len0 cap0 z0) :
    Calls Try.prog 3 #[.slice a0 len0 cap0] w fun e w' => e = .returned (.bool true) ∧ Below w.heap.size w w' := by
  have W0 := hid w0.1
  have hl1 := w0.1.1
  have hl2 := w0.1.2.1
  unfold maxLen at hl2
  have Z1 := hid w0.1.ilen
  clear w0
  go_enter Try.func3, Try.ntmps3
  go_wp2_with fail
  refine (qbegun_ok _).mono ?_
  rintro e w1 ⟨rfl, c1⟩
  have C1 := hid c1
  clear c1
  go_wp2_with fail
  refine (spinBegun_ok _).mono ?_
  rintro e w2 ⟨rfl, c2⟩
  replace C1 := hid (C1.out.trans c2 (fun _ _ h => h))
  clear c2
  go_wp2_with fail
  refine (sleepBegun_ok _).mono ?_
  rintro e w3 ⟨rfl, c3⟩
  replace C1 := hid (C1.out.trans c3 (fun _ _ h => h))
  clear c3
  go_wp2_with fail
  refine (manyBegun_ok _).mono ?_
  rintro e w4 ⟨rfl, c4⟩
  replace C1 := hid (C1.out.trans c4 (fun _ _ h => h))
  clear c4
  go_wp2_with fail
  refine (pbegun_ok _).mono ?_
  rintro e w5 ⟨rfl, c5⟩
  replace C1 := hid (C1.out.trans c5 (fun _ _ h => h))
  clear c5
  go_wp2_with fail
  refine (sbegun_ok _).mono ?_
  rintro e w6 ⟨rfl, c6⟩
  replace C1 := hid (C1.out.trans c6 (fun _ _ h => h))
  clear c6
  have H := hid ((Things.empty w).nil C1.out)
  clear C1
  go_wp2_with fail
  refine (made_q H.out).mono ?_
  rintro e w7 ⟨pq, rfl, h⟩
  replace H := hid h
  clear h
  go_wp2_with fail
  refine (made_k H.out).mono ?_
  rintro e w8 ⟨pk, rfl, h⟩
  replace H := hid h
  clear h
  go_wp2_with fail
  refine (made_l H.out).mono ?_
  rintro e w9 ⟨pl, rfl, h⟩
  replace H := hid h
  clear h
  go_wp2_with fail
  refine (made_m H.out).mono ?_
  rintro e w10 ⟨pm, rfl, h⟩
  replace H := hid h
  clear h
  go_wp2_with fail
  refine (made_p H.out).mono ?_
  rintro e w11 ⟨pp, rfl, h⟩
  replace H := hid h
  clear h
  go_wp2_with fail
  refine (made_r H.out).mono ?_
  rintro e w12 ⟨pr, rfl, h⟩
  replace H := hid h
  clear h
  go_wp2_with fail
  refine (made_c H.out).mono ?_
  rintro e w13 ⟨pc, rfl, h⟩
  have HS : Hid (Things (Seven pq pk pl pm pp pr pc 0) w w13) := hid h
  clear h H
  go_upto_region 8 with fail
  go_cut [84, 85, 86] (fun s84 s85 s86 wx => wx = w13 ∧ ∃ N : Nat, N ≤ 30 ∧ N ≤ len0 ∧ s84 = .slice a0 N cap0 ∧ s85 = .int .i64 N ∧ s86 = .int .i64 0)
  case first =>
    go_wp2
    go_meet
    exact ⟨rfl, min len0 30, by omega, by omega, by simp; omega, by simp; omega, rfl⟩
  case rest =>
    obtain ⟨rfl, N, hN1, hN2, rfl, rfl, rfl⟩ := hcut
    go_wp2
    go_loopw [86] (fun s86 wr => ∃ (j : Nat), j ≤ N ∧ s86 = .int .i64 j ∧ Hid (Things (Seven pq pk pl pm pp pr pc j) w wr)) (fun s86 _ => N - (intOf s86).toNat)
    case atStart => exact ⟨0, by omega, rfl, HS⟩
    case round =>
      clear HS
      obtain ⟨j, hj, rfl, hJ⟩ := hrel
      by_cases hlt : j < N
      · have hz : j < z0.length := by have := Z1.out; omega
        obtain ⟨g, off, rfl, _, _, hc⟩ := (W0.out.chg (Chg.of_below hJ.out.1 Nil) (fun _ _ _ h => h)).at hz
        have hc1 := hc j hz
        clear hc
        obtain ⟨z, hzz⟩ : ∃ z, z = z0[j] := ⟨_, rfl⟩
        rw [← hzz] at hc1
        replace hzz := hid hzz
        go_wp2_with fail
        refine (rest_nat _ 16 _ (by omega) (by omega)).mono ?_
        rintro e w1 ⟨q, hq, rfl, rfl⟩
        obtain ⟨t, ht⟩ : ∃ t : Int, t = 1 + (q : Int) := ⟨_, rfl⟩
        have t1 : 1 ≤ t := by omega
        have t2 : t ≤ 16 := by omega
        have A1 := hid (own_q (i := 6) hJ.out rfl (by omega) t1 t2 true)
        rw [ht] at A1
        go_wp2_with fail
        refine A1.out.mono ?_
        rintro e w2 ⟨⟨v1, rfl⟩, h⟩
        clear A1 hJ
        have A1 := own_k (i := 5) h rfl ((1 + q) % 4) (by omega)
        rw [show (((1 + q) % 4 : Nat) : Int) = (1 + (q : Int)) % 4 by omega] at A1
        replace A1 := hid A1
        clear h
        go_wp2_with fail
        refine A1.out.mono ?_
        rintro e w3 ⟨⟨v2, rfl⟩, h⟩
        clear A1
        have A1 := own_t (i := 4) h rfl t1 t2 ((1 + (q : Int)) % 8) (by omega) (by omega)
        rw [ht] at A1
        replace A1 := hid A1
        clear h
        go_wp2_with fail
        refine A1.out.mono ?_
        rintro e w4 ⟨⟨v3, rfl⟩, h⟩
        clear A1
        have A1 := own_l (i := 4) h rfl (by omega) (by omega) 3 (by omega)
        rw [show ((3 : Nat) : Int) = 3 from rfl] at A1
        replace A1 := hid A1
        clear h
        go_wp2_with fail
        refine A1.out.mono ?_
        rintro e w5 ⟨⟨v4, rfl⟩, h⟩
        clear A1
        replace h := hid h
        go_wp2_with fail
        refine (rest_nat _ 3 _ (by omega) (by omega)).mono ?_
        rintro e w6 ⟨q3, hq3, rfl, rfl⟩
        have A1 := own_m (i := 3) h.out rfl (by omega) t1 t2 ((q3 : Int) == 0)
        rw [ht] at A1
        replace A1 := hid A1
        clear h
        go_wp2_with fail
        refine A1.out.mono ?_
        rintro e w7 ⟨⟨v5, rfl⟩, h⟩
        clear A1
        have A1 := own_p (i := 2) h rfl (by omega) t1 t2
        rw [ht] at A1
        replace A1 := hid A1
        clear h
        go_wp2_with fail
        refine A1.out.mono ?_
        rintro e w8 ⟨⟨v6, rfl⟩, h⟩
        clear A1
        have A1 := own_r (i := 1) h rfl (by omega) t1 t2
        rw [ht] at A1
        replace A1 := hid A1
        clear h
        go_wp2_with fail
        refine A1.out.mono ?_
        rintro e w9 ⟨⟨v7, rfl⟩, h⟩
        clear A1
        have A1 := own_c (i := 0) h rfl (by omega) t1 t2
        rw [ht] at A1
        replace A1 := hid A1
        clear h
        go_wp2_with fail
        refine A1.out.mono ?_
        rintro e w10 ⟨⟨v8, rfl⟩, h⟩
        clear A1
        have HS : Hid (Things (Seven pq pk pl pm pp pr pc (j + 1)) w w10) := hid h
        clear h
        go_wp2
        go_loopw [123] (fun s123 wr => ∃ (m : Nat), m ≤ 2 ∧ s123 = .int .i64 m ∧ Hid (Things (Seven pq pk pl pm pp pr pc (j + 1)) w wr)) (fun s123 _ => 2 - (intOf s123).toNat)
        case atStart => exact ⟨0, by omega, rfl, HS⟩
        case round =>
          clear HS
          obtain ⟨m, hm, rfl, hJ⟩ := hrel
          by_cases hlt2 : m < 2
          · have hm2 : (m : Int) < 2 := by omega
            go_wp2_with fail
            refine (tell_q (i := 6) hJ.out rfl (by omega)).mono ?_
            rintro e x1 ⟨aa, an, ac, rfl, h⟩
            clear hJ
            replace h := hid (h.weak 0 rfl)
            go_wp2_with fail
            refine (tell_k (i := 6) h.out rfl).mono ?_
            rintro e x2 ⟨ba, bn, bc, rfl, h⟩
            replace h := hid (h.weak 0 rfl)
            have A1 := tell_l (i := 6) h.out rfl 3 (by omega)
            rw [show ((3 : Nat) : Int) = 3 from rfl] at A1
            replace A1 := hid A1
            clear h
            go_wp2_with fail
            refine A1.out.mono ?_
            rintro e x3 ⟨da, dn, dc, rfl, h⟩
            clear A1
            replace h := hid (h.weak 0 rfl)
            go_wp2_with fail
            refine (tell_m (i := 6) h.out rfl (by omega)).mono ?_
            rintro e x4 ⟨ra, rn, rc, xw, qa, qn, qc, rfl, h⟩
            replace h := hid ((h.weak 0 rfl).weak 1 rfl)
            go_wp2_with fail
            refine (tell_p (i := 7) h.out rfl (by omega)).mono ?_
            rintro e x5 ⟨fa, fn, fc, rfl, h⟩
            replace h := hid (h.weak 0 rfl)
            go_wp2_with fail
            refine (tell_r (i := 7) h.out rfl (by omega)).mono ?_
            rintro e x6 ⟨ga, gn, gc, rfl, h⟩
            replace h := hid (h.weak 0 rfl)
            go_wp2_with fail
            refine (tell_c (i := 7) h.out rfl (by omega)).mono ?_
            rintro e x7 ⟨xc, ha, hn, hc, rfl, h⟩
            replace h := hid (h.weak 0 rfl)
            have hE : Things (Eight (aa, an, ac) (ba, bn, bc) (da, dn, dc) (ra, rn, rc) (qa, qn, qc) (fa, fn, fc) (ga, gn, gc) (ha, hn, hc) (Seven pq pk pl pm pp pr pc (j + 1))) w x7 := h.out
            obtain ⟨B, hB⟩ : ∃ B, B = x7.heap.size := ⟨_, rfl⟩
            have hP := hE.push ((Chg.refl Nil x7).alloc (.cells ([(aa, an, ac), (ba, bn, bc), (da, dn, dc), (ra, rn, rc), (qa, qn, qc), (fa, fn, fc), (ga, gn, gc), (ha, hn, hc)].map rowV).toArray 22)) (T := ThB x7.heap.size 22 ([(aa, an, ac), (ba, bn, bc), (da, dn, dc), (ra, rn, rc), (qa, qn, qc), (fa, fn, fc), (ga, gn, gc), (ha, hn, hc)].map rowV)) ⟨rfl, Blk.new x7 _ _⟩ (fun k hk => Nat.le_of_eq (show k = x7.heap.size from hk).symm)
            have hP2 : Hid (Things (ThB x7.heap.size 22 ([(aa, an, ac), (ba, bn, bc), (da, dn, dc), (ra, rn, rc), (qa, qn, qc), (fa, fn, fc), (ga, gn, gc), (ha, hn, hc)].map rowV) :: Eight (aa, an, ac) (ba, bn, bc) (da, dn, dc) (ra, rn, rc) (qa, qn, qc) (fa, fn, fc) (ga, gn, gc) (ha, hn, hc) (Seven pq pk pl pm pp pr pc (j + 1))) w (x7.alloc (.cells #[.slice aa an ac, .slice ba bn bc, .slice da dn dc, .slice ra rn rc, .slice qa qn qc, .slice fa fn fc, .slice ga gn gc, .slice ha hn hc] 22))) := hid hP
            have hHas := hid (eight_has (aa, an, ac) (ba, bn, bc) (da, dn, dc) (ra, rn, rc) (qa, qn, qc) (fa, fn, fc) (ga, gn, gc) (ha, hn, hc) (ThB x7.heap.size 22 ([(aa, an, ac), (ba, bn, bc), (da, dn, dc), (ra, rn, rc), (qa, qn, qc), (fa, fn, fc), (ga, gn, gc), (ha, hn, hc)].map rowV)) (Seven pq pk pl pm pp pr pc (j + 1)))
            clear hP hE h
            go_wp2
            rw [← hB] at hP2 hHas ⊢
            replace hB := hid hB
            obtain ⟨L, hL⟩ : ∃ L : List Row3, L = [(aa, an, ac), (ba, bn, bc), (da, dn, dc), (ra, rn, rc), (qa, qn, qc), (fa, fn, fc), (ga, gn, gc), (ha, hn, hc)] := ⟨_, rfl⟩
            rw [← hL] at hP2 hHas
            have hL8 : L.length = 8 := by rw [hL]; rfl
            replace hL := hid hL
            go_loopw [162] (fun s162 wr => ∃ (k : Nat), k ≤ 8 ∧ s162 = .int .i64 k ∧ Hid (Things (ThB B 22 (L.map rowV) :: Eight (aa, an, ac) (ba, bn, bc) (da, dn, dc) (ra, rn, rc) (qa, qn, qc) (fa, fn, fc) (ga, gn, gc) (ha, hn, hc) (Seven pq pk pl pm pp pr pc (j + 1))) w wr)) (fun s162 _ => 8 - (intOf s162).toNat)
            case atStart => exact ⟨0, by omega, rfl, hP2⟩
            case round =>
              clear hP2
              obtain ⟨k, hk, rfl, hJ⟩ := hrel
              by_cases hlt3 : k < 8
              · have hk2 : (k : Int) < 8 := by omega
                obtain ⟨i, hi⟩ := hHas.out _ (List.getElem_mem (l := L) (n := k) (by omega))
                obtain ⟨F, ⟨_, hb⟩, _⟩ := hJ.out.get (i := 0) rfl
                have hx := hb.cell k
                rw [List.getElem?_map, List.getElem?_eq_getElem (by omega)] at hx
                simp only [Option.map_some] at hx
                have A1 := hid (own_spoil2 hJ.out hi 99)
                generalize L[k] = r at hx hi A1
                obtain ⟨ya, yn, yc⟩ := r
                unfold rowV at hx
                simp only at hx
                clear hb hi hJ
                go_wp2_with fail
                refine A1.out.mono ?_
                rintro e y1 ⟨rfl, h⟩
                replace h := hid h
                clear A1
                go_wp2
                go_roundw
                case rel => exact ⟨k + 1, by omega, by go_num, h⟩
                case measure => simp [intOf]; omega
              · have hJ2 := hid (eight_pop hJ.out)
                clear hJ
                have hk2 : ¬ (k : Int) < 8 := by omega
                go_wp2
                go_roundw
                case rel => exact ⟨m + 1, by omega, by go_num, hJ2⟩
                case measure => simp [intOf]; omega
          · have hm2 : ¬ (m : Int) < 2 := by omega
            go_wp2
            go_roundw
            case rel => exact ⟨j + 1, by omega, by go_num, hJ⟩
            case measure => simp [intOf]; omega
      · clear W0
        have hj2 : ¬ (j : Int) < (N : Int) := by omega
        go_wp2_with fail
        refine (tell_q (i := 6) hJ.out rfl (by omega)).mono ?_
        rintro e x1 ⟨aa, an, ac, rfl, h⟩
        replace h := hid h
        clear hJ
        go_wp2_with fail
        refine (tell_k (i := 6) h.out rfl).mono ?_
        rintro e x2 ⟨ba, bn, bc, rfl, h⟩
        replace h := hid h
        go_wp2_with fail
        refine (tell_r (i := 3) h.out rfl (by omega)).mono ?_
        rintro e x3 ⟨ga, gn, gc, rfl, h⟩
        replace h := hid h
        have A1 := own_concat 1000 h.out [(aa, an, ac), (ba, bn, bc), (ga, gn, gc)] (fun r hr => by
          simp only [List.mem_cons, List.not_mem_nil, or_false] at hr
          rcases hr with rfl | rfl | rfl
          · exact ⟨2, 1000, Nat.le_refl _, rfl⟩
          · exact ⟨1, 1000, Nat.le_refl _, rfl⟩
          · exact ⟨0, 1000, Nat.le_refl _, rfl⟩) (by simp) (by omega)
        replace A1 := hid A1
        clear h
        go_wp2_with fail
        refine A1.out.mono ?_
        rintro e x4 ⟨ta, tn, tc, rfl, h⟩
        clear A1
        have A1 := tell_l (i := 8) h rfl 3 (by omega)
        rw [show ((3 : Nat) : Int) = 3 from rfl] at A1
        replace A1 := hid A1
        clear h
        go_wp2_with fail
        refine A1.out.mono ?_
        rintro e x5 ⟨da, dn, dc, rfl, h⟩
        replace h := hid h
        clear A1
        go_wp2_with fail
        refine (tell_m (i := 8) h.out rfl (by omega)).mono ?_
        rintro e x6 ⟨ra, rn, rc, xw, qa, qn, qc, rfl, h⟩
        replace h := hid h
        go_wp2_with fail
        refine (tell_p (i := 9) h.out rfl (by omega)).mono ?_
        rintro e x7 ⟨fa, fn, fc, rfl, h⟩
        replace h := hid h
        go_wp2_with fail
        refine (tell_c (i := 8) h.out rfl (by omega)).mono ?_
        rintro e x8 ⟨xc, ha, hn, hc, rfl, h⟩
        have A1 := own_concat 8000 h [(ta, tn, tc), (da, dn, dc), (ra, rn, rc), (qa, qn, qc), (fa, fn, fc), (ha, hn, hc)] (fun r hr => by
          simp only [List.mem_cons, List.not_mem_nil, or_false] at hr
          rcases hr with rfl | rfl | rfl | rfl | rfl | rfl
          · exact ⟨5, 8000, Nat.le_refl _, rfl⟩
          · exact ⟨4, 1000, by omega, rfl⟩
          · exact ⟨3, 1000, by omega, rfl⟩
          · exact ⟨2, 1000, by omega, rfl⟩
          · exact ⟨1, 1000, by omega, rfl⟩
          · exact ⟨0, 1000, by omega, rfl⟩) (by simp) (by omega)
        replace A1 := hid A1
        clear h
        go_wp2_with fail
        refine A1.out.mono ?_
        rintro e x9 ⟨ua, un, uc, rfl, h⟩
        replace h := hid h
        clear A1
        go_wp2_with fail
        refine (own_contains (i := 0) h.out rfl (by omega)).mono ?_
        rintro e x10 ⟨rfl, rfl⟩
        go_wp2
        go_ret
        exact ⟨rfl, h.out.1⟩
end Go.Proofs.Ytdelelpfombfbaa
