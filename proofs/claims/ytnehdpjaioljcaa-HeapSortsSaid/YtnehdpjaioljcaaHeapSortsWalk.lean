/- The walk of the law HeapSorts: it returns true and changes nothing that was there. No condition. -/
import Derived.Test.YtnehdpjaioljcaaSortsM
import Derived.Deep.CutBlock
namespace Go.Proofs.Ytnehdpjaioljcaa
open Go.ChangeShapes Go.WideShapes Go.ChangeAt Go.RowKit Go.Proofs
set_option linter.unusedVariables false
theorem rest_nat (k n : Int) (w : World) (h1 : 1 ≤ n) (h2 : n ≤ 9223372036854775807) :
    Calls Try.prog 7 #[.int .i64 k, .int .i64 n] w fun e w' => ∃ q : Nat, (q : Int) < n ∧ e = .returned (.int .i64 q) ∧ w = w' := by
  have h3 := rest_nonneg k n h1
  have h4 := rest_lt k n h1
  obtain ⟨t, ht⟩ := Int.eq_ofNat_of_zero_le h3
  refine (rest_any k n w h1 h2).mono ?_
  rintro e w' ⟨rfl, rfl⟩
  exact ⟨t, by omega, by rw [ht], rfl⟩
theorem two_first {L : List HE} (hp : L.Perm [⟨1, 7⟩, ⟨2, 3⟩]) (hI : HeapI L) : ∃ h : 0 < L.length, L[0] = ⟨2, 3⟩ := by
  have hl : L.length = 2 := hp.length_eq
  refine ⟨by omega, ?_⟩
  have h1 : (⟨2, 3⟩ : HE) ∈ L := hp.mem_iff.2 (by simp)
  obtain ⟨j, hj, he⟩ := List.mem_iff_getElem.1 h1
  have h2 := hI.first j hj
  rw [he] at h2
  have h3 : L[0] ∈ [(⟨1, 7⟩ : HE), ⟨2, 3⟩] := hp.mem_iff.1 (List.getElem_mem (by omega))
  rcases List.mem_cons.1 h3 with h3 | h3
  · rw [h3] at h2
    rcases h2 with h2 | ⟨h2, _⟩
    · simp at h2
    · simp at h2
  · exact List.mem_singleton.1 h3
theorem sortF_none (p : Option Addr) (cap : Nat) (fv : Value) (w : World) : Calls Try.prog 8 #[.slice p 0 cap, fv] w fun e w' => e = .returned (.tuple #[]) ∧ w' = w := AnyF.slices_SortFunc_none Try.sortF0 p cap fv w
theorem KeepB.sl {gs : List Nat} {w w' : World} {e : TypeId} {s n c : Nat} {a : Option Addr} {xs : List Value} {g : Nat} (h : KeepB gs w w') (hs : Sl w e s a n c xs (some g)) (hG : g ∈ gs) : Sl w' e s a n c xs (some g) := by
  obtain ⟨F, h1, h2⟩ := h
  exact hs.chg h1 (fun g' hg => by injection hg with hg; subst hg; exact (h2 _ hG).1)
set_option maxRecDepth 100000 in
set_option maxHeartbeats 4000000 in
theorem heapSorts_walk (a0 : Option Addr) (len0 cap0 : Nat) (z0 : List Int) (a1 : Int) (w : World) (w0 : IsRow .i64 w a0 len0 cap0 z0) (w1 : (Lit.int .i64 a1).wf = true) :
    Calls Try.prog 3 #[.slice a0 len0 cap0, .int .i64 a1] w fun e w' => e = .returned (.bool true) ∧ Below w.heap.size w w' := by
  have hl1 := w0.1.1
  have hl2 := w0.1.2.1
  unfold maxLen at hl2
  have W0 := hid w0.1
  clear w0 w1
  have emake : ∀ (n : Nat) (hn : n ≤ 200) (w : World), (Instr.makeSlice 22 (.int .i64 (n : Int)) (.int .i64 (n : Int))).run Try.prog w = .ok (.slice (some ⟨w.heap.size, 0, none⟩) n n) (w.alloc (.cells (List.replicate n (.int .i64 0)).toArray 3)) := fun n hn w =>
    run_make1 (P := Try.prog) (t := 22) (e := 3) (z := .int .i64 0) (bytes := 8) Try.underlying22 (by kernel_rfl) rfl (by omega) n (by omega) w
  replace emake := hid emake
  obtain ⟨lb, hlb⟩ : ∃ lb, lb = w.heap.size := ⟨_, rfl⟩
  have B0 := Blk.new w 22 [.slice a0 len0 cap0]
  rw [← hlb] at B0
  have hB0 : Below w.heap.size w (w.alloc (.cells #[.slice a0 len0 cap0] 22)) := below_nil (Below.refl _ w) ((Chg.refl _ w).alloc _)
  have HN := hid (hx_new (gs := [lb]) hB0 (fun g hg => by rw [List.mem_singleton.1 hg, hlb]; exact ⟨by simp, Nat.le_refl _⟩))
  have hlb0 : w.heap.size ≤ lb := by omega
  have HB0 := hid B0
  have HLB := hid hlb
  clear B0 hB0
  go_enter Try.func3, Try.ntmps3
  go_upto_region 1 with fail
  rw [← hlb]
  clear hlb
  go_wp2_with fail
  refine HN.out.mono ?_
  rintro e w2 ⟨p, rfl, h1, c1⟩
  have B1 := hid (HB0.out.chg c1 (fun h => h))
  have P1 := hid (hx_push h1 (by simp) 1 7 (by simp) (by omega) (by omega))
  clear h1 c1 HN HB0
  go_wp2_with fail
  refine P1.out.mono ?_
  rintro e w3 ⟨rfl, L1, h1, p1, k1⟩
  have hL1 : L1 = [⟨1, 7⟩] := List.perm_singleton.1 p1
  subst hL1
  have B2 := hid (k1.blk (by simp) B1.out)
  have P2 := hid (hx_push h1 (by simp) 2 3 (by simp) (by omega) (by omega))
  clear h1 k1 P1 B1 p1
  go_wp2_with fail
  refine P2.out.mono ?_
  rintro e w4 ⟨rfl, L2, h1, p2, k1⟩
  obtain ⟨hl, hf⟩ := two_first p2 h1.hi
  have P3 := hx_pop h1 (by rw [p2.length_eq]; simp) hl
  rw [hf] at P3
  have B3 := hid (k1.blk (by simp) B2.out)
  replace P3 := hid P3
  clear h1 k1 P2 B2 p2 hl hf
  go_wp2_with fail
  refine P3.out.mono ?_
  rintro e w5 ⟨rfl, L3, h1, _, k1⟩
  have B4 := k1.blk (by simp) B3.out
  have b0 := B4.cell 0
  have f0 := B4.frozen 0
  simp only [List.getElem?_cons_zero] at b0
  have HB4 := hid B4
  have HW5 := hid h1.bel
  clear h1 k1 P3 B3 B4
  go_upto_region 7 with fail
  go_cut [49] (fun _ wx => ∃ N : Nat, N ≤ 200 ∧ N ≤ len0 ∧ Hid (Blk wx lb 22 [.slice a0 N cap0] ∧ Below w.heap.size w wx))
  case first =>
    have FN : ∀ N : Nat, Blk (w5.setCell ⟨lb, 0, none⟩ (.slice a0 N cap0)) lb 22 [.slice a0 N cap0] ∧ Below w.heap.size w (w5.setCell ⟨lb, 0, none⟩ (.slice a0 N cap0)) := fun N => ⟨HB4.out.set 0 _, below_chg HW5.out ((Chg.refl (One lb) w5).setCell (p := ⟨lb, 0, none⟩) (.inl (show One lb lb from rfl)) _) (fun k hk => by rw [show k = lb from hk]; exact hlb0)⟩
    replace FN := hid FN
    go_wp2
    go_meet
    refine ⟨min len0 200, by omega, by omega, ?_⟩
    rw [show (min (len0 : Int) 200).toNat = min len0 200 by omega]
    exact hid (FN.out _)
  case rest =>
  clear b0 f0 HB4 HW5
  obtain ⟨N, hN1, hN2, hNW⟩ := hcut
  obtain ⟨k1, k2⟩ := id hNW.out
  have b0 := k1.cell 0
  simp only [List.getElem?_cons_zero] at b0
  have K1 := hid k1
  have K2 := hid k2
  clear k1 k2 hNW
  obtain ⟨w6, rfl⟩ : ∃ w6 : World, w6 = wc := ⟨_, rfl⟩
  go_wp2_with fail
  refine (rest_nat a1 _ _ (by omega) (by omega)).mono ?_
  rintro e w7 ⟨r, hr, rfl, rfl⟩
  have hrN : r ≤ N := by omega
  have HN2 := hid (hx_new (gs := [lb]) K2.out (fun g hg => by rw [List.mem_singleton.1 hg]; exact ⟨K1.out.lt, hlb0⟩))
  clear hr
  go_wp2_with fail
  refine HN2.out.mono ?_
  rintro e w8 ⟨p, rfl, h1, c1⟩
  have B5 := K1.out.chg c1 (fun h => h)
  have b5 := B5.cell 0
  simp only [List.getElem?_cons_zero] at b5
  have hmk := emake.out N hN1
  have HR : Hid (∀ w', Below w.heap.size w w' → Rd w' (Upto w.heap.size) 1 a0 N cap0 (ints .i64 (z0.take N))) := hid (fun w' hb => by
    have hR := W0.out.take_n (k := N) hN2
    rw [Nat.mul_one, show (ints .i64 z0).take N = ints .i64 (z0.take N) by unfold ints; rw [List.map_take]] at hR
    exact hR.chg (Chg.of_below hb Nil) (fun _ _ _ h => h))
  obtain ⟨g, hg⟩ : ∃ g, g = w8.heap.size := ⟨_, rfl⟩
  have I0 := h1.alloc (.cells (List.replicate N (.int .i64 0)).toArray 3)
  have D0 := Blk.new w8 3 (List.replicate N (.int .i64 0))
  have B6 := B5.alloc (.cells (List.replicate N (.int .i64 0)).toArray 3)
  have hgl : lb < g := by rw [hg]; exact B5.lt
  rw [← hg] at I0 D0
  rw [show (List.replicate N (Value.int .i64 0)).toArray = Array.replicate N (.int .i64 0) by simp] at I0 D0 B6 hmk
  have HI0 := hid I0
  have HD0 := hid D0
  have HB6 := hid B6
  replace hg := hid hg
  clear h1 c1 B5 I0 D0 B6 HN2 K1 K2 W0
  go_upto_region 11 with fail
  clear hmk b0 b5
  rw [← hg.out]
  generalize World.alloc w8 _ = w9 at HI0 HD0 HB6 ⊢
  clear hg emake
  cases N with
  | zero =>
    have b6 := HB6.out.cell 0
    simp only [List.getElem?_cons_zero] at b6
    have SN := hid (sortF_none (some ⟨g, 0, none⟩) 0 (.func (.func 9) #[] #[.pointer (some ⟨lb, 0, none⟩)]) w9)
    have HL := hid (hx_len HI0.out)
    have hb := hid HI0.out.bel
    go_wp2
    go_loop [61] (fun s61 => s61 = .int .i64 0) (fun _ => 0)
    case atStart => exact rfl
    case round =>
      obtain rfl := hrel
      go_wp2_with (go_at_call 8; refine SN.out.mono ?_; rintro e w10 ⟨rfl, rfl⟩)
      go_loop [93] (fun s93 => s93 = .int .i64 0) (fun _ => 0)
      case atStart => exact rfl
      case round =>
        obtain rfl := hrel
        go_wp2_with (go_at_call 12; refine HL.out.mono ?_; rintro e w11 ⟨rfl, rfl⟩)
        go_ret
        exact ⟨rfl, hb.out⟩
  | succ m =>
    obtain ⟨Z, hZ⟩ : ∃ Z, Z = z0.take (m + 1) := ⟨_, rfl⟩
    rw [← hZ] at HR
    clear hZ
    have I1 : Hid (∃ L, HpX w [g, lb] p L w9 ∧ L.Perm (((rotD m r).take 0).map (fun x => heK (keyL Z) x.val)) ∧ Blk w9 g 3 (idsD m r 0) ∧ Blk w9 lb 22 [.slice a0 (m + 1) cap0]) := hid ⟨[], HI0.out, by simp, by
      have := HD0.out
      have e : idsD m r 0 = List.replicate (m + 1) (.int .i64 0) := by unfold idsD; simp
      rw [e]
      unfold Blk at this ⊢
      rw [this], HB6.out⟩
    clear HI0 HD0 HB6
    have hm2 : m + 1 ≤ 200 := hN1
    rw [show (((m + 1 : Nat)) : Int) = (m : Int) + 1 by omega]
    go_wp2
    go_loopw [61] (fun s61 wr => ∃ i : Nat, i ≤ m + 1 ∧ s61 = .int .i64 i ∧ Hid (∃ L, HpX w [g, lb] p L wr ∧ L.Perm (((rotD m r).take i).map (fun x => heK (keyL Z) x.val)) ∧ Blk wr g 3 (idsD m r i) ∧ Blk wr lb 22 [.slice a0 (m + 1) cap0])) (fun s61 _ => m + 1 - (intOf s61).toNat)
    case atStart => exact ⟨0, by omega, rfl, I1⟩
    case round =>
      clear I1
      obtain ⟨i, hi, rfl, hJ⟩ := hrel
      obtain ⟨L, j1, j2, j3, j4⟩ := id hJ.out
      by_cases hlt : i < m + 1
      · have b6 := j4.cell 0
        have d6 := j3.cell i
        have f6 := j3.frozen i
        simp only [List.getElem?_cons_zero] at b6
        have hii : i < (idsD m r i).length := by rw [idsD_len hi]; exact hlt
        obtain ⟨v0, hv0⟩ : ∃ v0, (idsD m r i)[i]? = some v0 := ⟨_, List.getElem?_eq_getElem hii⟩
        rw [hv0] at d6
        go_upto_region 15 with fail
        have hmod : ((i : Int) + (r : Int)) % ((m : Int) + 1) = (((i + r) % (m + 1) : Nat) : Int) := by push_cast; rfl
        rw [hmod]
        have hC := (Chg.refl (One g) wr).setCell (p := ⟨g, i, none⟩) (.inl (show One g g from rfl)) (.int .i64 (((i + r) % (m + 1) : Nat) : Int))
        have J1 := j1.same hC (fun k hk => by rw [show k = g from hk]; simp)
        have J3 := j3.set i (.int .i64 (((i + r) % (m + 1) : Nat) : Int))
        have x1 := J3.cell i
        rw [List.getElem?_set_self hii] at x1
        rw [idsD_set hlt] at J3
        have J4 := j4.far (p := ⟨g, i, none⟩) (show lb ≠ g by omega) (.int .i64 (((i + r) % (m + 1) : Nat) : Int))
        have x2 := J4.cell 0
        simp only [List.getElem?_cons_zero] at x2
        have hno := rotD_no (m := m) (r := r) (keyL Z) hlt j2
        have hst := fun l' => rotD_step (m := m) (r := r) (l' := l') (keyL Z) hlt j2
        have htm : (i + r) % (m + 1) < m + 1 := Nat.mod_lt _ (by omega)
        have hLl : L.length < 900 := by
          have := j2.length_eq
          rw [List.length_map, List.length_take] at this
          omega
        clear hC j1 j3 j4 hJ b6 d6 f6 hii hv0
        generalize (i + r) % (m + 1) = t at J1 J3 x1 J4 x2 hno hst htm hmod ⊢
        generalize World.setCell wr _ _ = W at J1 J3 x1 J4 x2 ⊢
        have hRd := HR.out W J1.bel
        have hZl := hRd.ilen
        obtain ⟨g5, off5, rfl, _, _, hc5⟩ := hRd.at (i := t) (by omega)
        have x3 := hc5 t (by omega)
        rw [show Z[t] = keyL Z t by unfold keyL; simp [List.getD, List.getElem?_eq_getElem (show t < Z.length by omega)]] at x3
        have PU := hid (hx_push (w := W.drew) (J1.nil ((Chg.refl Nil W).drew)) hLl (t : Int) (keyL Z t) hno (by omega) (by omega))
        have HST := hid hst
        have HJ3 := hid J3
        have HJ4 := hid J4
        have tI : (t : Int) < (m : Int) + 1 := by omega
        have iI : (i : Int) < (m : Int) + 1 := by omega
        have HX1 : Hid ((idsD m r (i + 1))[i]? = some (.int .i64 (t : Int))) := hid (by have := J3.cell i; rw [x1] at this; exact this.symm)
        have HX3 : Hid (∀ w', Below w.heap.size w w' → w'.cell? ⟨g5, off5 + t, none⟩ = some (.int .i64 (keyL Z t))) := hid (fun w' hb => by
          obtain ⟨g6, off6, e6, _, _, hc6⟩ := (HR.out w' hb).at (i := t) (by omega)
          injection e6 with e6
          injection e6 with e6 e7
          subst e6; subst e7
          rw [hc6 t (by omega)]
          unfold keyL
          simp [List.getD, List.getElem?_eq_getElem (show t < Z.length by omega)])
        clear hRd hZl hc5 J1 J3 J4 hno hst hmod j2
        generalize keyL Z t = kt at x3 PU HST HX3
        go_region_held3 (fun w' => w'.cell? ⟨g, i, none⟩ = some (.int .i64 (t : Int)) ∧ w'.cell? ⟨lb, 0, none⟩ = some (.slice (some ⟨g5, off5, none⟩) (m + 1) cap0) ∧ w'.cell? ⟨g5, off5 + t, none⟩ = some (.int .i64 kt)) (first | exact ⟨x1, x2, x3⟩ | exact ⟨q1, q2, q3⟩ | go_keep) (first | (go_at_call 5; ((with_reducible refine PU.out.mono ?_); rintro e w10 ⟨rfl, L', y1, y2, y3⟩; have q1 := (y3.blk (by simp) HJ3.out.drew).cell i; have q2 := (y3.blk (by simp) HJ4.out.drew).cell 0; have q3 := HX3.out w10 y1.bel; rw [HX1.out] at q1; simp only [List.getElem?_cons_zero] at q2; replace y1 := hid y1; replace y2 := hid y2; replace y3 := hid y3)) | fail)
        all_goals
          go_wp2
          go_roundw
          case rel => exact ⟨i + 1, by omega, by go_num, hid ⟨L', y1.out, HST.out L' y2.out, y3.out.blk (by simp) HJ3.out.drew, y3.out.blk (by simp) HJ4.out.drew⟩⟩
          case measure => simp [intOf]; omega
      · have him : i = m + 1 := by omega
        have iI : (m : Int) + 1 ≤ (i : Int) := by omega
        rw [him, idsD_all] at j3
        rw [him, List.take_of_length_le (by rw [rotD_len]; exact Nat.le_refl _)] at j2
        have SL : Sl wr 3 1 (some ⟨g, 0, none⟩) (m + 1) (m + 1) ((rotD m r).map (encF m)) (some g) := Sl.of_blk (n := m + 1) (s := 1) j3 (by rw [List.length_map, rotD_len]; omega) (by unfold maxLen; omega)
        have SF := hid (sortF_ok m lb g 0 (m + 1) (Upto w.heap.size) a0 (m + 1) cap0 Z (rotD m r) wr (rotD_len m r) SL (j4.cell 0) (by omega) (HR.out wr j1.bel) (fun k hk => by have : k < w.heap.size := hk; omega) rfl (by omega))
        obtain ⟨S, hS⟩ : ∃ S, S = srtF (m := m) (keyL Z) (rotD m r) := ⟨_, rfl⟩
        rw [← hS] at SF
        have hSp : S.Perm (rotD m r) := by rw [hS]; exact srtF_perm _ _
        have hSq : S.Pairwise (fun x y => (heK (keyL Z) x.val).le (heK (keyL Z) y.val)) := by rw [hS]; exact srtF_pair _ _
        have hSl : S.length = m + 1 := by rw [hSp.length_eq, rotD_len]
        have J2 := hid (j2.trans (hSp.map (fun x => heK (keyL Z) x.val)).symm)
        have J1 := hid j1
        have J4 := hid j4
        have HSQ := hid hSq
        have HSL := hid hSl
        clear hS hSp hSq hSl SL j1 j2 j3 j4 hJ him
        obtain ⟨w9, rfl⟩ : ∃ w9 : World, w9 = wr := ⟨_, rfl⟩
        go_wp2_with fail
        refine SF.out.mono ?_
        rintro e w10 ⟨rfl, y1, y2⟩
        have I2 : Hid (∃ L, HpX w [g, lb] p L w10 ∧ L.Perm ((S.drop 0).map (fun x => heK (keyL Z) x.val)) ∧ Sl w10 3 1 (some ⟨g, 0, none⟩) (m + 1) (m + 1) (S.map (encF m)) (some g) ∧ Blk w10 lb 22 [.slice a0 (m + 1) cap0]) := hid ⟨L, J1.out.same y2 (fun k hk => by rw [show k = g from hk]; simp), by rw [List.drop_zero]; exact J2.out, y1, J4.out.chg y2 (fun hh => by have : lb = g := hh; omega)⟩
        clear y1 y2 SF J1 J2 J4
        go_wp2
        go_loopw [93] (fun s93 wr => ∃ i : Nat, i ≤ m + 1 ∧ s93 = .int .i64 i ∧ Hid (∃ L, HpX w [g, lb] p L wr ∧ L.Perm ((S.drop i).map (fun x => heK (keyL Z) x.val)) ∧ Sl wr 3 1 (some ⟨g, 0, none⟩) (m + 1) (m + 1) (S.map (encF m)) (some g) ∧ Blk wr lb 22 [.slice a0 (m + 1) cap0])) (fun s93 _ => m + 1 - (intOf s93).toNat)
        case atStart => exact ⟨0, by omega, rfl, I2⟩
        case round =>
          clear I2 iI
          obtain ⟨i, hi, rfl, hJ⟩ := hrel
          obtain ⟨L, j1, j2, j3, j4⟩ := id hJ.out
          have hLl : L.length = m + 1 - i := by have := j2.length_eq; rw [List.length_map, List.length_drop, HSL.out] at this; exact this
          have LN := fun q => hx_len (j1.nil ((Chg.refl Nil wr).drewN q))
          rw [show (L.length : Int) = (m : Int) + 1 - (i : Int) by omega] at LN
          replace LN := hid LN
          by_cases hlt : i < m + 1
          · have hiS : i < S.length := by rw [HSL.out]; exact hlt
            have iI : (i : Int) < (m : Int) + 1 := by omega
            have h0 : 0 < L.length := by omega
            have hfi := first_is HSQ.out j1.hi j2 hiS h0
            have hre := fun l' => rest_is (l' := l') j2 hiS hfi
            obtain ⟨g6, off6, e6, _, _, hc6⟩ := j3.rd.cellAt (by omega)
            injection e6 with e6
            injection e6 with e6 e7
            subst e6; subst e7
            have x1 := hc6 i hlt
            rw [List.getElem?_map, List.getElem?_eq_getElem hiS] at x1
            simp only [Option.map_some, encF, Nat.zero_add] at x1
            have x2 := j4.cell 0
            simp only [List.getElem?_cons_zero] at x2
            have POP := fun q => hx_pop (j1.nil ((Chg.refl Nil wr).drewN q)) (by omega) h0
            rw [hfi] at POP
            rw [hfi] at hre
            have hsl := S[i].isLt
            generalize S[i] = sv at x1 POP hre hsl
            have HPOP := hid POP
            have HRE := hid hre
            have J3 := hid j3
            have J4 := hid j4
            have tI : (sv.val : Int) < (m : Int) + 1 := by omega
            obtain ⟨wo, rfl⟩ : ∃ wo : World, wo = wr := ⟨_, rfl⟩
            clear hc6 j1 j2 j3 j4 hJ hfi POP hre hLl h0
            go_wp2
            go_quiet ((go_at_call 12; with_reducible exact Calls.quiet_of_same (LN.out _)))
            go_wp2_with fail
            refine (HPOP.out _).mono ?_
            rintro e w11 ⟨rfl, L', y1, y2, y3⟩
            have B6 := y3.blk (by simp) (J4.out.drewN nq)
            have z2 := B6.cell 0
            simp only [List.getElem?_cons_zero] at z2
            have S6 := KeepB.sl y3 (J3.out.drewN nq) (by simp)
            have hRd := HR.out w11 y1.bel
            have hZl := hRd.ilen
            obtain ⟨g7, off7, rfl, _, _, hc7⟩ := hRd.at (i := sv.val) (by omega)
            have x3 := hc7 sv.val (by omega)
            rw [show Z[sv.val] = (heK (keyL Z) sv.val).key by show _ = keyL Z sv.val; unfold keyL; simp [List.getD, List.getElem?_eq_getElem (show sv.val < Z.length by omega)]] at x3
            have Y1 := hid y1
            have Y2 := hid y2
            have HB6 := hid B6
            have HS6 := hid S6
            clear y1 y2 y3 B6 S6 hRd hZl hc7 x1 x2 HPOP J3 J4
            have hid1 : (heK (keyL Z) sv.val).id = (sv.val : Int) := rfl
            rw [hid1]
            go_wp2
            go_roundw
            case rel => exact ⟨i + 1, by omega, by go_num, hid ⟨L', Y1.out, HRE.out L' Y2.out, HS6.out, HB6.out⟩⟩
            case measure => simp [intOf]; omega
          · have iI : (m : Int) + 1 ≤ (i : Int) := by omega
            have hz : (m : Int) + 1 - (i : Int) = 0 := by omega
            have LN0 := LN.out 0
            rw [hz] at LN0
            replace LN0 := hid LN0
            have hb := hid j1.bel
            clear j1 j2 j3 j4 hJ hLl LN hz
            obtain ⟨wo, rfl⟩ : ∃ wo : World, wo = wr := ⟨_, rfl⟩
            go_wp2_with fail
            refine LN0.out.mono ?_
            rintro e w11 ⟨rfl, hw⟩
            subst hw
            go_wp2
            go_ret
            exact ⟨rfl, hb.out⟩
end Go.Proofs.Ytnehdpjaioljcaa
