/- The walk of the law SemApart: it returns true and changes nothing that was there. No condition. -/
import Derived.Test.YteiljmjfhafmfaaManyM
namespace Go.Proofs.Yteiljmjfhafmfaa
open Go.ChangeShapes Go.WideShapes Go.ChangeAt Go.RowKit
set_option linter.unusedVariables false
theorem apart1_any (x : Int) (wb mb n : Nat) (W : Int → Bool) (w : World) (hb : w.cell? ⟨wb, 0, none⟩ = some (.map (some mb))) (hm : WrAt w mb n W) (x1 : 0 ≤ x) (x2 : x ≤ 1000) :
    Calls Try.prog 12 #[.int .i64 x, .pointer (some ⟨wb, 0, none⟩)] w fun e w' => e = .returned (.bool (W x)) ∧ w = w' := by
  have hlk : (Instr.lookup 26 (.map (some mb)) (.int .i64 x) false).run Try.prog w = .ok (.bool (W x)) w := hm.look x x1 x2 0
  go_enter Try.func12, Try.ntmps12
  go_wp2
  go_ret
  exact ⟨rfl, rfl⟩
theorem apartIdx (R : Nat → Prop) (a : Option Addr) (n c wb mb k0 : Nat) (l : List Int) (W : Int → Bool) (w : World) (h : Rd w R 1 a n c (ints .i64 l)) (hn : n ≤ 4294967296) (hb : w.cell? ⟨wb, 0, none⟩ = some (.map (some mb))) (hm : WrAt w mb k0 W) (hl : ∀ x ∈ l, 0 ≤ x ∧ x ≤ 1000 ∧ W x = false) :
    Calls Try.prog 20 #[.slice a n c, .func (.func 12) #[] #[.pointer (some ⟨wb, 0, none⟩)]] w fun e w' => e = .returned (.int .i64 (-1)) ∧ w = w' := by
  obtain rfl := h.ilen
  have H := hid h
  have HB := hid hb
  have HM := hid hm
  have HL := hid hl
  clear h hb hm hl
  go_enter Try.func20, Try.ntmps20
  go_wp2
  go_loop [8] (fun i => ∃ k : Nat, k ≤ l.length ∧ i = .int .i64 k) (fun i => l.length - (intOf i).toNat)
  case atStart => exact ⟨0, Nat.zero_le _, rfl⟩
  case round =>
    obtain ⟨k, hk, rfl⟩ := hrel
    by_cases hlt : k < l.length
    · obtain ⟨g, off, rfl, _, _, hc⟩ := H.out.at hlt
      have hc1 := hc k hlt
      obtain ⟨x1, x2, x3⟩ := HL.out l[k] (List.getElem_mem hlt)
      have HC := apart1_any l[k] wb mb k0 W w HB.out HM.out x1 x2
      rw [x3] at HC
      replace HC := hid HC
      clear hc x1 x2 x3
      generalize l[k] = x at hc1 HC
      go_wp2_with (go_at_call 12; refine HC.out.mono ?_; rintro e w' ⟨rfl, rfl⟩)
      go_round
      case rel => exact ⟨k + 1, by omega, by go_num⟩
      case measure => simp [intOf]; omega
    · go_wp2
      go_ret
      exact ⟨rfl, rfl⟩
theorem apartAny (R : Nat → Prop) (a : Option Addr) (n c wb mb k0 : Nat) (l : List Int) (W : Int → Bool) (w : World) (h : Rd w R 1 a n c (ints .i64 l)) (hn : n ≤ 4294967296) (hb : w.cell? ⟨wb, 0, none⟩ = some (.map (some mb))) (hm : WrAt w mb k0 W) (hl : ∀ x ∈ l, 0 ≤ x ∧ x ≤ 1000 ∧ W x = false) :
    Calls Try.prog 11 #[.slice a n c, .func (.func 12) #[] #[.pointer (some ⟨wb, 0, none⟩)]] w fun e w' => e = .returned (.bool false) ∧ w' = w := by
  have HI := hid (apartIdx R a n c wb mb k0 l W w h hn hb hm hl)
  clear h hb hm hl
  go_enter Try.func11, Try.ntmps11
  go_wp2_with fail
  refine HI.out.mono ?_
  rintro e w1 ⟨rfl, hw⟩
  subst hw
  go_wp2
  go_ret
  exact ⟨rfl, rfl⟩
/-- The lock and who writes, in memory. -/
def ApM (w0 : World) (p mb wb k : Nat) (s : MS) (W : Int → Bool) (w : World) : Prop := (MnX w0 [mb, wb] p s w ∧ WrAt w mb k W ∧ Blk w wb 26 [.map (some mb)] ∧ mb ≠ wb) ∧ MOk s ∧ WOk s W ∧ s.tot ≤ k
theorem ApM.store {w0 w w' : World} {p mb wb k : Nat} {s : MS} {W' : Int → Bool} {f' : Int → Option Value} (h : MnX w0 [mb, wb] p s w) (hb : Blk w wb 26 [.map (some mb)]) (hne : mb ≠ wb) (hm : MpAt w' Try.prog 3 mb k f') (hf : ∀ i, (f' i = none ∧ W' i = false) ∨ f' i = some (.bool (W' i))) (hc : Chg (One mb) w w') (h1 : MOk s) (h2 : WOk s W') (h3 : s.tot ≤ k) : ApM w0 p mb wb k s W' w' :=
  ⟨⟨h.chgG (by simp) hc, ⟨f', hm, hf⟩, hb.chg hc (fun h => hne (show wb = mb from h).symm), hne⟩, h1, h2, h3⟩
theorem WrAt.more {w : World} {mb n m : Nat} {W : Int → Bool} (h : WrAt w mb n W) (hm : n ≤ m) : WrAt w mb m W := by
  obtain ⟨f, h, hf⟩ := h
  exact ⟨f, h.mono hm, hf⟩
theorem rd_mem {s : MS} {W : Int → Bool} (h : MOk s) (hw : WOk s W) : ∀ x ∈ sortI s.rd, 0 ≤ x ∧ x ≤ 1000 ∧ W x = false := fun x hx => by
  have hx' : x ∈ s.rd := (List.mergeSort_perm s.rd _).mem_iff.1 hx
  have := h.r1 x hx'
  exact ⟨by omega, by omega, hw.rd x hx'⟩
theorem rest_to (z n : Int) (h1 : 1 ≤ n) (h2 : n ≤ 9223372036854775807) : ∃ t : Nat, (t : Int) < n ∧ ∀ w, Calls Try.prog 7 #[.int .i64 z, .int .i64 n] w fun e w' => e = .returned (.int .i64 (t : Int)) ∧ w = w' := by
  obtain ⟨t, h3, h4⟩ := rest_in z n h1 h2
  exact ⟨t, h3, fun w => (h4 w).mono fun e w' ⟨a, b⟩ => ⟨a, b.symm⟩⟩
theorem take_ret (s : MS) (t : Int) (w : Bool) : (s.take t w).2 = 0 ∨ (s.take t w).2 = 8 ∨ (s.take t w).2 = 9 := by
  unfold MS.take
  split
  · exact .inr (.inl rfl)
  · show (if hasI (goM s.rd s.wr (s.row ++ [⟨t, w⟩])).2 t = true then (0 : Int) else 9) = 0 ∨ _ ∨ _
    split
    · exact .inl rfl
    · exact .inr (.inr rfl)
theorem freeR_ok {s : MS} {W : Int → Bool} (h : MOk s) (hw : WOk s W) {t : Int} (t1 : 1 ≤ t) : MOk (s.freeR t).1 ∧ WOk (s.freeR t).1 W ∧ (s.freeR t).1.tot ≤ s.tot := by
  unfold MS.freeR
  split
  · rename_i hh
    have := (free_tot h t1 (by rcases hh with hh | hh; exact .inr hh.symm; exact .inl hh)).1
    exact ⟨h.free t, hw.free t, by show (s.free t).1.tot ≤ s.tot; omega⟩
  · exact ⟨h, hw, Nat.le_refl _⟩
set_option maxRecDepth 100000 in
set_option maxHeartbeats 4000000 in
theorem semApart_walk (a0 : Option Addr) (len0 cap0 : Nat) (z0 : List (List Int)) (w : World) (w0 : IsRows .i64 w a0 len0 cap0 z0) :
    Calls Try.prog 3 #[.slice a0 len0 cap0] w fun e w' => e = .returned (.bool true) ∧ Below w.heap.size w w' := by
  obtain ⟨hl0, hl1, hl2⟩ := w0.bd
  have W1 := hid w0
  have hmm := @run_makeMap Try.prog
  clear w0
  go_enter Try.func3, Try.ntmps3
  go_wp2_with fail
  refine (manyBegun_ok _).mono ?_
  rintro e w1 ⟨rfl, c1⟩
  have B1 := hid (below_nil (Below.refl _ w) c1)
  clear c1
  go_wp2_with fail
  refine (mx_new B1.out).mono ?_
  rintro e w2 ⟨p, rfl, h1⟩
  have h2 := h1.alloc (.map #[] 0)
  have m2 := MpAt.made w2 Try.prog 3
  obtain ⟨mb, hmb⟩ : ∃ mb, mb = w2.heap.size := ⟨_, rfl⟩
  rw [← hmb] at h2 m2
  have h3 := h2.alloc (.cells #[.map (some mb)] 26)
  have B3 := Blk.new (w2.alloc (.map #[] 0)) 26 [.map (some mb)]
  have hsz : (w2.alloc (.map #[] 0)).heap.size = mb + 1 := by rw [hmb]; simp
  rw [hsz] at h3 B3
  have I0 : Hid (ApM w p mb (mb + 1) 0 ⟨[], 0, []⟩ (fun _ => false) ((w2.alloc (.map #[] 0)).alloc (.cells #[.map (some mb)] 26))) := hid ⟨⟨h3.swap, ⟨_, m2.alloc _, fun i => .inl ⟨rfl, rfl⟩⟩, B3, by omega⟩, m_new, ⟨fun h => absurd rfl h, (fun x hx => by cases hx), (fun x hx => by cases hx)⟩, Nat.le_refl _⟩
  clear h1 h2 h3 m2 B3 B1 hsz
  go_upto_region 5 with fail
  rw [← hmb]
  generalize World.alloc (World.alloc w2 _) _ = w3 at I0 ⊢
  clear hmb
  generalize mb + 1 = wb at I0 ⊢
  obtain ⟨wv, rfl⟩ : ∃ wv : World, wv = w3 := ⟨_, rfl⟩
  clear hmm
  go_cut [21, 22, 23] (fun s21 s22 s23 wx => wx = wv ∧ ∃ N : Nat, N ≤ 200 ∧ N ≤ len0 ∧ s21 = .slice a0 N cap0 ∧ s22 = .int .i64 N ∧ s23 = .int .i64 0)
  case first =>
    go_wp2
    go_meet
    exact ⟨rfl, min len0 200, by omega, by omega, by congr 1; omega, by congr 1; omega, rfl⟩
  case rest =>
  obtain ⟨rfl, N, hN1, hN2, rfl, rfl, rfl⟩ := hcut
  go_wp2
  go_loopw [23] (fun s23 wr => ∃ k : Nat, k ≤ N ∧ s23 = .int .i64 k ∧ Hid (∃ s W, ApM w p mb wb k s W wr)) (fun s23 _ => N - (intOf s23).toNat)
  case atStart => exact ⟨0, by omega, rfl, _, _, I0⟩
  case round =>
    clear I0
    obtain ⟨k, hk, rfl, hJ⟩ := hrel
    by_cases hlt : k < N
    · obtain ⟨s, W, ⟨j1, j2, j3, j4⟩, j5, j6, j7⟩ := id hJ.out
      obtain ⟨g, off, ar, nr, cr, rfl, hcr, z, hz, hz1, hz2, hz3⟩ := W1.out.row j1.bel k (by omega)
      by_cases h3 : nr < 3
      · have h3' : (nr : Int) < 3 := by omega
        have hJ2 : Hid (∃ s W, ApM w p mb wb (k + 1) s W wr) := ⟨s, W, ⟨j1, j2.more (by omega), j3, j4⟩, j5, j6, by omega⟩
        clear hz hJ j1 j2 j3 j4 j5 j6 j7
        go_wp2
        go_roundw
        case rel => exact ⟨k + 1, by omega, by go_num, hJ2⟩
        case measure => simp [intOf]; omega
      · have h3' : (3 : Int) ≤ (nr : Int) := by omega
        obtain ⟨gr, offr, rfl, _, _, hc⟩ := hz.at (i := 0) (by omega)
        have x0 := hc 0 (by omega)
        have x1 := hc 1 (by omega)
        have x2 := hc 2 (by omega)
        simp only [Nat.add_zero] at x0
        clear hc hz
        obtain ⟨y, hy1, Q0⟩ := rest_to z[0] 2 (by omega) (by omega)
        obtain ⟨t0, ht1, Q1⟩ := rest_in z[1] 16 (by omega) (by omega)
        obtain ⟨u, hu1, Q2⟩ := rest_in z[2] 3 (by omega) (by omega)
        have hw1 := IntWalk.i64_in (1 + (t0 : Int)) (by omega)
        replace Q0 := hid Q0
        replace Q1 := hid Q1
        replace Q2 := hid Q2
        have J1 := hid j1
        have J2 := hid j2
        have J3 := hid j3
        have J5 := hid j5
        have J6 := hid j6
        have J7 := hid j7
        clear j1 j2 j3 j5 j6 j7 hJ
        go_wp2
        go_quiet ((first | (go_at_call 7; with_reducible exact Calls.quiet_of_same (Q1.out _)) | (go_at_call 7; with_reducible exact Calls.quiet_of_same (Q2.out _))))
        clear hw1
        obtain ⟨wa, hwa⟩ : ∃ wa, wa = wr.drewN nq := ⟨_, rfl⟩
        have x0' : wa.cell? ⟨gr, offr, none⟩ = some (.int .i64 z[0]) := by rw [hwa]; exact x0
        have j1 := J1.out.drewN nq
        have j2 := J2.out.chgNil ((Chg.refl Nil wr).drewN nq)
        have j3 := J3.out.drewN nq
        rw [← hwa] at j1 j2 j3 ⊢
        clear hwa x0 x1 x2 hcr Q1 Q2 J1 J2 J3
        obtain ⟨t, ht⟩ : ∃ t : Int, t = 1 + (t0 : Int) := ⟨_, rfl⟩
        rw [← ht]
        have t1 : 1 ≤ t := by omega
        have t2 : t ≤ 16 := by omega
        clear ht
        obtain ⟨wt, hwt⟩ : ∃ wt, wt = ((u : Int) == 0) := ⟨_, rfl⟩
        rw [← hwt]
        clear hwt hu1
        have J1 := hid j1
        have J2 := hid j2
        have J3 := hid j3
        clear j1 j2 j3
        obtain ⟨wo, rfl⟩ : ∃ wo : World, wo = wr := ⟨_, rfl⟩
        go_upto_if 44 with (go_at_call 7; refine (Q0.out _).mono ?_; rintro e w' ⟨rfl, rfl⟩)
        go_cut [44] (fun _ wx => Hid (∃ s W, ApM w p mb wb (k + 1) s W wx))
        case first =>
          have hy : y = 0 ∨ y = 1 := by omega
          rcases hy with rfl | rfl
          · have A := mx_take J1.out (by have := J7.out; omega) t t1 t2 wt
            have M1 := hid (J5.out.take t1 t2 wt)
            have T1 := hid (take_tot J5.out t1 t2 wt).1
            obtain ⟨V1, V2⟩ := J6.out.take J5.out t1 wt
            have V1' := hid V1
            have V2' := hid V2
            have hrr := take_ret s t wt
            clear V1 V2
            obtain ⟨r, hr⟩ : ∃ r, r = (s.take t wt).2 := ⟨_, rfl⟩
            obtain ⟨s', hs'⟩ : ∃ s', s' = (s.take t wt).1 := ⟨_, rfl⟩
            rw [← hr, ← hs'] at V1' V2' A
            rw [← hs'] at M1 T1
            rw [← hr] at hrr
            clear hr hs'
            have T2 : Hid (s'.tot ≤ k + 1) := hid (by have := T1.out; have := J7.out; omega)
            replace A := hid A
            rcases hrr with rfl | rfl | rfl
            · have V3 := hid (V2'.out (by omega))
              clear V1' V2'
              go_wp2_with fail
              refine A.out.mono ?_
              rintro e w5 ⟨rfl, k1, k2⟩
              have Bk := k2.blk (by simp) J3.out
              have b0 := Bk.cell 0
              simp only [List.getElem?_cons_zero] at b0
              obtain ⟨f, mp, hf⟩ := J2.out.keep (by simp) k2
              have hwf := hid (wf_key (i := t) (by omega) (by omega))
              have K1 := hid k1
              have HB := hid Bk
              have HF := hid hf
              have MP := hid mp
              clear k1 k2 Bk A hf mp
              go_wp2_with (at_mapUpdate; refine wpList_store _ rfl _ _ _ 26 rfl (k := 3) (e := 4) Try.underlying3 Try.underlying26 mb k f rfl MP.out (by omega) _ _ rfl rfl hwf.out ?_; intro w7 y1 y2; have K7 : Hid (∃ s W, ApM w p mb wb (k + 1) s W w7) := hid ⟨_, _, ApM.store K1.out HB.out j4 y1 (wr_upd HF.out t wt) y2 M1.out V3.out T2.out⟩; clear y1 y2)
              go_meet
              exact K7
            · have V3 := hid (V1'.out rfl)
              clear V1' V2'
              go_wp2_with fail
              refine A.out.mono ?_
              rintro e w5 ⟨rfl, k1, k2⟩
              have K7 : Hid (∃ s W, ApM w p mb wb (k + 1) s W w5) := hid ⟨s', W, ⟨k1, (J2.out.keep (by simp) k2).more (by omega), k2.blk (by simp) J3.out, j4⟩, M1.out, V3.out, T2.out⟩
              clear k1 k2 A
              go_wp2
              go_meet
              exact K7
            · have V3 := hid (V2'.out (by omega))
              clear V1' V2'
              go_wp2_with fail
              refine A.out.mono ?_
              rintro e w5 ⟨rfl, k1, k2⟩
              have Bk := k2.blk (by simp) J3.out
              have b0 := Bk.cell 0
              simp only [List.getElem?_cons_zero] at b0
              obtain ⟨f, mp, hf⟩ := J2.out.keep (by simp) k2
              have hwf := hid (wf_key (i := t) (by omega) (by omega))
              have K1 := hid k1
              have HB := hid Bk
              have HF := hid hf
              have MP := hid mp
              clear k1 k2 Bk A hf mp
              go_wp2_with (at_mapUpdate; refine wpList_store _ rfl _ _ _ 26 rfl (k := 3) (e := 4) Try.underlying3 Try.underlying26 mb k f rfl MP.out (by omega) _ _ rfl rfl hwf.out ?_; intro w7 y1 y2; have K7 : Hid (∃ s W, ApM w p mb wb (k + 1) s W w7) := hid ⟨_, _, ApM.store K1.out HB.out j4 y1 (wr_upd HF.out t wt) y2 M1.out V3.out T2.out⟩; clear y1 y2)
              go_meet
              exact K7
          · have A := mx_free J1.out (by have := J7.out; omega) t t1
            obtain ⟨M1, V1, T1⟩ := freeR_ok J5.out J6.out t1
            have K0 := hid (fun w5 (k1 : MnX w [mb, wb] p (s.freeR t).1 w5) (k2 : KeepB [mb, wb] wa w5) => (⟨(s.freeR t).1, W, ⟨k1, (J2.out.keep (by simp) k2).more (by omega), k2.blk (by simp) J3.out, j4⟩, M1, V1, by have := J7.out; omega⟩ : ∃ s W, ApM w p mb wb (k + 1) s W w5))
            replace A := hid A
            clear M1 V1 T1
            generalize (s.freeR t).2.1 = o1 at A
            generalize (s.freeR t).2.2 = o2 at A
            go_wp2_with fail
            refine A.out.mono ?_
            rintro e w5 ⟨a, c, G, rfl, k1, k2, _, _⟩
            have K7 := hid (K0.out w5 k1 k2)
            clear k1 k2 A K0
            go_wp2
            go_meet
            exact K7
        case rest =>
          clear J1 J2 J3 J5 J6 J7
          obtain ⟨s, W, ⟨j1, j2, j3, j4⟩, j5, j6, j7⟩ := id hcut.out
          obtain ⟨rd, wr', row⟩ := s
          have HO := hid (mx_holds j1 (by omega))
          have J1 := hid j1
          have J2 := hid j2
          have J3 := hid j3
          have J5 := hid j5
          have J6 := hid j6
          have J7 := hid j7
          clear j1 j2 j3 j5 j6 j7 hcut
          have hRow := hid J5.out.st
          obtain ⟨wb0, rfl⟩ : ∃ wb0 : World, wb0 = wc := ⟨_, rfl⟩
          go_upto_region 18 with (go_at_call 10; refine HO.out.mono ?_; rintro e w5 ⟨a, c, G, b, d, H, rfl, y1, y2, y3, _, _, _⟩; replace y1 := hid y1; replace y2 := hid y2; replace y3 := hid y3)
          have Bk := J3.out.chg y3.out (fun h => h)
          have b0 := Bk.cell 0
          simp only [List.getElem?_cons_zero] at b0
          have W5 := J2.out.chgNil y3.out
          have hll : rd.length + row.length ≤ 900 := by have := J7.out; unfold MS.tot at this; simp only at this; omega
          have CF := apartAny _ a _ c wb mb (k + 1) (sortI rd) W w5 y1.out.rd (by show rd.length ≤ 4294967296; omega) b0 W5 (rd_mem J5.out J6.out)
          have K7 : Hid (∃ s W, ApM w p mb wb (k + 1) s W w5) := hid ⟨_, W, ⟨J1.out.chgNil y3.out, W5, Bk, j4⟩, J5.out, J6.out, J7.out⟩
          have hxr : ∀ x, x ∈ row → W x.t = x.w ∧ 1 ≤ x.t ∧ x.t ≤ 16 := fun x hx => ⟨J6.out.row x hx, J5.out.q1 x hx⟩
          by_cases hw : wr' = 0
          · subst hw
            replace CF := hid CF
            cases row with
            | nil =>
              clear hxr W5 Bk
              go_wp2_with (go_at_call 11; refine CF.out.mono ?_; rintro e w6 ⟨rfl, hw6⟩; subst hw6)
              go_quiet (fail)
              go_wp2
              go_roundw
              case rel => exact ⟨k + 1, by omega, by go_num, by obtain ⟨s, W, ⟨u1, u2, u3, u4⟩, u5, u6, u7⟩ := K7.out; exact ⟨s, W, ⟨u1.drewN _, u2.chgNil ((Chg.refl Nil _).drewN _), u3.drewN _, u4⟩, u5, u6, u7⟩⟩
              case measure => simp [intOf]; omega
            | cons x row =>
              obtain ⟨s1, s2⟩ := hRow.out x row rfl rfl
              have hr1 : (0 : Int) < (rd.length : Int) := by have := List.length_pos_iff.2 s1; omega
              have hrb : ((rd.length : Int) == 0) = false := by rw [beq_eq_false_iff_ne]; omega
              obtain ⟨e1, e2, e3⟩ := hxr x (by simp)
              have hlk0 := fun q => W5.look x.t (by omega) (by omega) q
              rw [e1, s2] at hlk0
              obtain ⟨g5, off5, e5, _, _, hc5⟩ := y2.out.rd.at (i := 0) (by simp)
              have x5 := hc5 0 (by simp)
              simp only [List.map_cons, List.getElem_cons_zero, Nat.add_zero] at x5
              subst e5
              have HLK := hid hlk0
              clear hxr W5 Bk s1 s2 e1 hc5 hlk0
              simp only [List.length_cons]
              go_wp2_with (go_at_call 11; refine CF.out.mono ?_; rintro e w6 ⟨rfl, hw6⟩; subst hw6)
              have hlk := HLK.out
              go_quiet (fail)
              go_wp2
              go_roundw
              case rel => exact ⟨k + 1, by omega, by go_num, by obtain ⟨s, W, ⟨u1, u2, u3, u4⟩, u5, u6, u7⟩ := K7.out; exact ⟨s, W, ⟨u1.drewN _, u2.chgNil ((Chg.refl Nil _).drewN _), u3.drewN _, u4⟩, u5, u6, u7⟩⟩
              case measure => simp [intOf]; omega
          · have hrd : rd = [] := J5.out.ex hw
            subst hrd
            have hwb : (wr' == 0) = false := by rw [beq_eq_false_iff_ne]; exact hw
            have hw1 := J5.out.w1
            simp only at hw1
            have hlk0 := fun q => W5.look wr' (by omega) (by omega) q
            rw [show W wr' = true from J6.out.wr hw] at hlk0
            have hlk1 : (Instr.lookup 26 (.map (some mb)) (.int .i64 wr') false).run Try.prog w5 = .ok (.bool true) w5 := hlk0 0
            replace CF := hid CF
            clear hxr W5 Bk hlk0 hw1
            cases row with
            | nil =>
              go_wp2_with (go_at_call 11; refine CF.out.mono ?_; rintro e w6 ⟨rfl, hw6⟩; subst hw6)
              go_quiet (fail)
              go_wp2
              go_roundw
              case rel => exact ⟨k + 1, by omega, by go_num, by obtain ⟨s, W, ⟨u1, u2, u3, u4⟩, u5, u6, u7⟩ := K7.out; exact ⟨s, W, ⟨u1.drewN _, u2.chgNil ((Chg.refl Nil _).drewN _), u3.drewN _, u4⟩, u5, u6, u7⟩⟩
              case measure => simp [intOf]; omega
            | cons x row =>
              simp only [List.length_cons]
              go_wp2_with (go_at_call 11; refine CF.out.mono ?_; rintro e w6 ⟨rfl, hw6⟩; subst hw6)
              go_quiet (fail)
              go_wp2
              go_roundw
              case rel => exact ⟨k + 1, by omega, by go_num, by obtain ⟨s, W, ⟨u1, u2, u3, u4⟩, u5, u6, u7⟩ := K7.out; exact ⟨s, W, ⟨u1.drewN _, u2.chgNil ((Chg.refl Nil _).drewN _), u3.drewN _, u4⟩, u5, u6, u7⟩⟩
              case measure => simp [intOf]; omega
    · obtain rfl : k = N := by omega
      obtain ⟨s, W, ⟨j1, _⟩, _⟩ := hJ.out
      have b1 := hid j1.bel
      clear j1
      go_wp2
      go_ret
      exact ⟨rfl, b1.out⟩
end Go.Proofs.Yteiljmjfhafmfaa
