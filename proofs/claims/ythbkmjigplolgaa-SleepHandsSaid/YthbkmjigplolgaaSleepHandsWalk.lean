/- The walk of the law SleepHands: it returns true and changes nothing that was there. No condition. -/
import Derived.Test.YthbkmjigplolgaaLocked
import Derived.Test.YthbkmjigplolgaaAppK
import Derived.Test.YthbkmjigplolgaaLockY
import Derived.Test.YthbkmjigplolgaaHandsP
import Derived.Deep.DeepCutAuto
namespace Go.Proofs.Ythbkmjigplolgaa
open Go.ChangeShapes Go.WideShapes Go.ChangeAt Go.RowKit
set_option linter.unusedVariables false
/-- What holds in the loop over the row and its owner. -/
structure HandsIn (w0 : World) (F : Nat → Prop) (p n : Nat) (pr : Int → Int) (o : Nat → Int) (q : Nat → List Int) (mb k : Nat) (a : Option Addr) (c : Nat) (G : Option Nat) (a' : Option Addr) (c' : Nat) (G' : Option Nat) (t : Int) (g : Int → Int) (j : Nat) (w : World) : Prop where
  l : LkAt w F p n pr o q
  gF : ∀ k, F k → w0.heap.size ≤ k
  bel : Below w0.heap.size w0 w
  mp : MpAt w Try.prog 3 mb j (effF g ((q k ++ [t]).take j))
  sl : Sl w 3 1 a' ((q k).length + 1) c' (ints .i64 (q k) ++ ints .i64 [t]) G'
  rd : Rd w (Opt G) 1 a (q k).length c (ints .i64 (q k))
  nF : ¬ F mb
  bm : w0.heap.size ≤ mb
  g1 : G' ≠ some mb
  g2 : G ≠ some mb
  g3 : ∀ g, G = some g → ¬ F g
theorem HandsIn.put {w0 w w1 : World} {F : Nat → Prop} {p n : Nat} {pr : Int → Int} {o : Nat → Int} {q : Nat → List Int} {mb k : Nat} {a : Option Addr} {c : Nat} {G : Option Nat} {a' : Option Addr} {c' : Nat} {G' : Option Nat} {t : Int} {g : Int → Int} {j : Nat} (h : HandsIn w0 F p n pr o q mb k a c G a' c' G' t g j w) (hm : MpAt w1 Try.prog 3 mb (j + 1) (effF g ((q k ++ [t]).take (j + 1)))) (hc : Chg (One mb) w w1) : HandsIn w0 F p n pr o q mb k a c G a' c' G' t g (j + 1) w1 :=
  ⟨h.l.chg hc (fun i h1 h2 => h.nF (by rw [← show i = mb from h2]; exact h1)), h.gF, below_chg h.bel hc (fun i hi => by rw [show i = mb from hi]; exact h.bm), hm, h.sl.chg hc (fun g hg hh => h.g1 (by rw [hg, show g = mb from hh])), h.rd.chg hc (fun i _ h1 h2 => h.g2 (by rw [show G = some i from h1, show i = mb from h2])), h.nF, h.bm, h.g1, h.g2, h.g3⟩
set_option maxRecDepth 100000 in
set_option maxHeartbeats 1000000 in
theorem sleepHands_walk (a0 : Option Addr) (len0 cap0 : Nat) (z0 : List Int) (a1 : Option Addr) (len1 cap1 : Nat) (z1 : List (List Int)) (a2 : Int) (w : World) (w0 : IsRow .i64 w a0 len0 cap0 z0) (w1 : IsRows .i64 w a1 len1 cap1 z1) (w2 : (Lit.int .i64 a2).wf = true) :
    Calls Try.prog 6 #[.slice a0 len0 cap0, .slice a1 len1 cap1, .int .i64 a2] w fun e w' => e = .returned (.bool true) ∧ Below w.heap.size w w' := by
  have hl1 := w0.1.1
  have hl2 := w0.1.2.1
  unfold maxLen at hl2
  have hzl := w0.1.ilen
  have W0 := hid w0.1
  have W1 := hid w1
  clear w0 w1
  go_enter Try.func6, Try.ntmps6
  go_wp2_with fail
  refine (sleepBegun_ok _).mono ?_
  rintro e w2 ⟨rfl, c2⟩
  have C2 := hid c2
  clear c2
  go_upto_region 3 with fail
  go_cut [0] (fun s0 wx => wx = w2 ∧ ∃ N : Nat, N ≤ 16 ∧ N ≤ len0 ∧ s0 = .slice a0 N cap0)
  case first =>
    go_wp2
    · go_meet
      exact ⟨rfl, 16, by omega, by omega, rfl⟩
    · go_meet
      exact ⟨rfl, len0, by omega, by omega, by simp⟩
  case rest =>
  obtain ⟨rfl, N, hN1, hN2, rfl⟩ := hcut
  have hR := W0.out.take_n (k := N) hN2
  rw [Nat.mul_one, show (ints .i64 z0).take N = ints .i64 (z0.take N) by unfold ints; rw [List.map_take]] at hR
  obtain ⟨z, hz⟩ : ∃ z, z = z0.take N := ⟨_, rfl⟩
  rw [← hz] at hR
  have hzl2 : z.length = N := by rw [hz, List.length_take]; omega
  have HZ := hid hR
  clear hR hz
  go_wp2_with fail
  refine (locked_ok w _ (Upto w.heap.size) a0 N cap0 z a1 len1 cap1 z1 (below_nil (Below.refl _ w) C2.out) HZ.out hN1 W1.out).mono ?_
  rintro e w3 ⟨p, rfl, hI⟩
  obtain ⟨F, o, q, L, gF, bF⟩ := hI
  replace L := hid L
  replace gF := hid gF
  replace bF := hid bF
  obtain ⟨k, hk6, QK⟩ := rest_to a2 6 (by omega) (by omega)
  have hk : k < 16 := by omega
  replace QK := hid QK
  have HO := hid (lowner_ok w3 F p N (prZ z) o q k L.out hk)
  have HRW := hid (lrow_ok w3 F p N (prZ z) o q k L.out hk)
  have hob := L.out.s.own k hk
  have hln := lrow_len w3 F p N (prZ z) o q k L.out hk
  by_cases h0 : o k = 0
  · have hq := L.out.s.free k hk h0
    rw [h0] at HO
    rw [hq] at HRW
    simp only [List.length_nil] at HRW
    clear hob h0 hq
    go_wp2_with (first | (go_at_call 16; refine (QK.out _).mono ?_; rintro e w' ⟨rfl, rfl⟩) | (go_at_call 15; refine HO.out.mono ?_; rintro e w' ⟨rfl, rfl⟩) | (go_at_call 17; refine HRW.out.mono ?_; rintro e wb ⟨a, c, G, rfl, y1, y2, y3⟩; replace y1 := hid y1; replace y2 := hid y2; replace y3 := hid y3))
    go_ret
    exact ⟨rfl, below_nil bF.out y2.out⟩
  have hoz : (o k == 0) = false := by rw [beq_eq_false_iff_ne]; exact h0
  have ho1 : 1 ≤ o k := by omega
  obtain ⟨t, ht⟩ : ∃ t, t = o k := ⟨_, rfl⟩
  rw [← ht] at HO hob hoz ho1
  have HT := hid ht
  have htr : t ∉ q k := fun hh => by
    obtain ⟨r, hr⟩ := L.out.s.acyc
    have := hr k hk t hh
    rw [← ht] at this
    omega
  replace htr := hid htr
  clear h0 ht
  have hmm := @run_makeMap Try.prog
  go_upto_region 16 with (first | (go_at_call 16; refine (QK.out _).mono ?_; rintro e w' ⟨rfl, rfl⟩) | (go_at_call 15; refine HO.out.mono ?_; rintro e w' ⟨rfl, rfl⟩) | (go_at_call 17; refine HRW.out.mono ?_; rintro e wb ⟨a, c, G, rfl, y1, y2, y3⟩; replace y1 := hid y1; replace y2 := hid y2; replace y3 := hid y3))
  obtain ⟨gf, hgf⟩ := L.out.s.eff (prZ z)
  have HG := hid hgf
  clear hgf
  obtain ⟨W, hW⟩ : ∃ W, W = wb.alloc (.map #[] 0) := ⟨_, rfl⟩
  have hM0 := MpAt.made wb Try.prog 3
  rw [← hW] at hM0 ⊢
  have hcW : Chg Nil wb W := by rw [hW]; exact (Chg.refl _ _).alloc _
  have hzW : W.heap.size = wb.heap.size + 1 := by rw [hW]; simp
  obtain ⟨mb, hmb⟩ : ∃ mb, mb = wb.heap.size := ⟨_, rfl⟩
  rw [← hmb] at hM0 ⊢
  have hc3 : Chg Nil w3 W := y2.out.trans hcW (fun _ _ h => h)
  have hmW : mb < W.heap.size := by omega
  have hnF : ¬ F mb := fun hh => by have := L.out.lt _ hh; have := y2.out.size; omega
  have hbm : w.heap.size ≤ mb := by have := bF.out.size; have := y2.out.size; omega
  have hGm : G ≠ some mb := fun hh => by have := y1.out.lt _ hh; omega
  have hG3 : ∀ g, G = some g → ¬ F g := fun g hg hh => by have := y3.out g hg; have := L.out.lt _ hh; omega
  have HLW := hid (L.out.nil hc3)
  have HBW := hid (below_nil bF.out hc3)
  have HSW := hid ((y1.out.chg hcW (fun _ _ h => h)).alloc (.cells #[.int .i64 t] 3))
  have HNW : Hid (Rd (W.alloc (.cells #[.int .i64 t] 3)) (One W.heap.size) 1 (some ⟨W.heap.size, 0, none⟩) 1 1 (ints .i64 [t])) := hid (Rd.of_blk (n := 1) (s := 1) (Blk.new W 3 (ints .i64 [t])) rfl (by decide))
  have HM0 := hid hM0
  replace hnF := hid hnF
  replace hbm := hid hbm
  replace hGm := hid hGm
  replace hG3 := hid hG3
  clear hW hM0 hcW hzW hmb hc3 HRW HO
  have hl63 : (q k).length + 1 ≤ 4294967296 := by omega
  have h8 : 8 ≤ 4096 := by omega
  go_wp2_with (at_builtin; refine wpList_append_keep rfl _ _ eIntL rfl rfl rfl HSW.out HNW.out (ints_one _ _) hl63 h8 (by omega) ?_; intro a' c' w5 G' q1 q2 q3 q4; replace q1 := hid q1; replace q2 := hid q2; replace q3 := hid q3; replace q4 := hid q4)
  have hI : HandsIn w F p N (prZ z) o q mb k a c G a' c' G' t gf 0 w5 := by
    have hc1 : Chg (Opt G) W w5 := ((Chg.refl (Opt G) W).alloc _).trans q3.out (fun _ _ h => h)
    refine ⟨HLW.out.chg hc1 (fun i h1 h2 => hG3.out i h2 h1), gF.out, below_chg HBW.out hc1 (fun i hi => by have := y3.out i hi; have := bF.out.size; omega), ?_, q1.out, q2.out, hnF.out, hbm.out, fun hh => ?_, hGm.out, hG3.out⟩
    · have := HM0.out.chg hc1 (fun hh => hGm.out hh)
      exact this
    · rcases q4.out with h | h
      · rw [h] at hh; exact hGm.out hh
      · rw [h] at hh; injection hh with hh; simp at hh; omega
  replace hI := hid hI
  clear q1 q2 q3 q4 y1 y2 y3 HLW HBW HSW HNW HM0 L gF bF
  clear hmW hnF hbm hGm hG3 hmm QK
  go_loopw [14, 88] (fun s14 s88 wr => ∃ j : Nat, j ≤ (q k).length + 1 ∧ s88 = .int .i64 j ∧ s14 = .int .i64 (mostM gf ((q k).take j)) ∧ Hid (HandsIn w F p N (prZ z) o q mb k a c G a' c' G' t gf j wr)) (fun _ s88 _ => (q k).length + 1 - (intOf s88).toNat)
  case atStart => exact ⟨0, by omega, rfl, rfl, hI⟩
  case round =>
    clear hI
    obtain ⟨j, hj, rfl, rfl, hJ⟩ := hrel
    have hll : (q k ++ [t]).length = (q k).length + 1 := by simp
    by_cases hjl : j < (q k).length + 1
    · have hjl2 : j < (q k ++ [t]).length := by omega
      have hsl := hJ.out.sl
      rw [ints_append] at hsl
      obtain ⟨gg, off, rfl, _, _, hc⟩ := hsl.rd.at hjl2
      have hcj := hc j hjl2
      have hput := hid (effF_put gf (q k ++ [t]) j hjl2)
      have hxb : 1 ≤ (q k ++ [t])[j] ∧ (q k ++ [t])[j] ≤ (N : Int) := by
        rcases List.mem_append.1 (List.getElem_mem hjl2) with h | h
        · exact hJ.out.l.s.row k hk _ h
        · have : (q k ++ [t])[j] = t := by simpa using h
          rw [this]; exact ⟨ho1, hob.2⟩
      have hjL : (j : Int) < ((q k).length : Int) + 1 := by omega
      by_cases hjq : j < (q k).length
      · have hxe : (q k ++ [t])[j] = (q k)[j] := List.getElem_append_left hjq
        have hsn := hid (mostM_snoc gf (q k) j hjq)
        rw [hxe] at hcj hput hxb
        have hxt : (q k)[j] ≠ t := fun hh => htr.out (by rw [← hh]; exact List.getElem_mem hjq)
        obtain ⟨x, hx⟩ : ∃ x, x = (q k)[j] := ⟨_, rfl⟩
        rw [← hx] at hcj hput hxb hxt hsn
        have hb : (x != t) = true := by rw [bne_iff_ne]; exact hxt
        have HE := hid (leff_ok wr F p N (prZ z) o q hJ.out.l gf HG.out x hxb.1 hxb.2)
        have hwf := hid (wf_key (i := x) (by omega) (by omega))
        have HM := hid hJ.out.mp
        clear hc hsl hxe hx hxt
        go_wp2_with (first | (go_at_call 18; refine HE.out.mono ?_; rintro e w' ⟨rfl, rfl⟩) | (at_mapUpdate; refine wpList_store _ rfl _ _ _ 36 rfl Try.underlying3 Try.underlying36 mb _ _ rfl HM.out (by omega) x (.int .i64 (gf x)) rfl rfl hwf.out ?_; intro w6 m1 m2; replace m1 := hid m1; replace m2 := hid m2))
        have hm := m1.out
        rw [hput.out] at hm
        refine ⟨⟨j + 1, by omega, by go_num, ?_, hJ.out.put hm m2.out⟩, by simp [intOf]; omega⟩
        rw [hsn.out]
        congr 1
        split <;> omega
      · have hje : j = (q k).length := by omega
        have hxe : (q k ++ [t])[j] = t := by simp [hje]
        rw [hxe] at hcj hput hxb
        have hb : (t != t) = false := by simp
        have HE := hid (leff_ok wr F p N (prZ z) o q hJ.out.l gf HG.out t hxb.1 hxb.2)
        have hwf := hid (wf_key (i := t) (by omega) (by omega))
        have HM := hid hJ.out.mp
        have hmm2 : mostM gf ((q k).take (j + 1)) = mostM gf ((q k).take j) := by rw [List.take_of_length_le (by omega), List.take_of_length_le (by omega)]
        replace hmm2 := hid hmm2
        clear hc hsl hxe hje
        go_wp2_with (first | (go_at_call 18; refine HE.out.mono ?_; rintro e w' ⟨rfl, rfl⟩) | (at_mapUpdate; refine wpList_store _ rfl _ _ _ 36 rfl Try.underlying3 Try.underlying36 mb _ _ rfl HM.out (by omega) t (.int .i64 (gf t)) rfl rfl hwf.out ?_; intro w6 m1 m2; replace m1 := hid m1; replace m2 := hid m2))
        go_roundw
        case rel =>
          have hm := m1.out
          rw [hput.out] at hm
          exact ⟨j + 1, by omega, by go_num, by rw [hmm2.out], hJ.out.put hm m2.out⟩
        case measure => simp [intOf]; omega
    · have hq1 : (q k).take j = q k := List.take_of_length_le (by omega)
      have hq2 : (q k ++ [t]).take j = q k ++ [t] := List.take_of_length_le (by omega)
      rw [hq1]
      have hj17 : j ≤ 17 := by omega
      have hjge : ((q k).length : Int) + 1 ≤ (j : Int) := by omega
      have V := hJ
      have VM := hJ.out.mp
      rw [hq2] at VM
      replace VM := hid VM
      have hft : effF gf (q k ++ [t]) t = some (.int .i64 (gf t)) := if_pos (by simp)
      have htw := wf_key (i := t) (by omega) (by omega)
      have LKt : Hid (∀ W', MpAt W' Try.prog 3 mb j (effF gf (q k ++ [t])) → (Instr.lookup 36 (.map (some mb)) (.int .i64 t) false).run Try.prog W' = .ok (.int .i64 (gf t)) W') := hid (fun W' hM => by
        have := hM.look (t := 36) Try.underlying3 Try.underlying36 (zeroIntL _) t htw
        rw [hft] at this
        exact this)
      clear hq1 hq2 hJ hft htw hjl
      cases hw : waitK q t with
      | some jj =>
        obtain ⟨hjj, htj⟩ := (waitK_some V.out.l.s).1 hw
        have HF := hid (lfor_some wr F p N (prZ z) o q t jj V.out.l ho1 hob.2 hw)
        have HFR := hid (lfree_waits wr F p N (prZ z) o q t k V.out.l hk ho1 hob.2 HT.out.symm (by rw [hw]; rfl))
        have HDR := hid (ldrop_ok wr F p N (prZ z) o q t jj V.out.l ho1 hob.2 hw)
        have HTJ := hid htj
        clear hw htj
        go_wp2_with fail
        refine HF.out.mono ?_
        rintro e w' ⟨rfl, rfl⟩
        go_wp2_with fail
        refine HFR.out.mono ?_
        rintro e w' ⟨rfl, rfl⟩
        go_wp2_with fail
        refine HDR.out.mono ?_
        rintro e w6 ⟨rfl, F', x1, x2, x3⟩
        obtain ⟨g', hg'⟩ := x1.s.eff (prZ z)
        have hgt := eff_drop V.out.l.s HG.out hjj HTJ.out hg' ho1 hob.2
        have HE9 := leff_ok w6 F' p N (prZ z) o _ x1 g' hg' t ho1 hob.2
        rw [hgt] at HE9
        replace HE9 := hid HE9
        have LK := LKt.out w6 (VM.out.chg x2 V.out.nF)
        replace x1 := hid x1
        replace x2 := hid x2
        clear hgt hg'
        go_wp2_with fail
        refine HE9.out.mono ?_
        rintro e w' ⟨rfl, rfl⟩
        go_wp2
        go_ret
        exact ⟨rfl, below_chg V.out.bel x2.out V.out.gF⟩
      | none =>
        have HF := hid (lfor_none wr F p N (prZ z) o q t V.out.l ho1 hob.2 hw)
        have HFR := hid (lfree_ok wr F p N (prZ z) o q t k V.out.l hk ho1 hob.2 HT.out.symm hw)
        clear hw
        go_wp2_with fail
        refine HF.out.mono ?_
        rintro e w' ⟨rfl, rfl⟩
        go_wp2_with fail
        refine HFR.out.mono ?_
        rintro e w6 hP
        rcases hP with ⟨hr, rfl, u1, u2⟩ | ⟨b, hb, hr, rfl, F', u1, u2, u3⟩
        · have hb0 : (((q k).length : Int) == 0) = true := by rw [hr]; rfl
          have hbel := hid (below_chg V.out.bel u2 V.out.gF)
          clear hr u1 u2
          go_wp2
          go_ret
          exact ⟨rfl, below_nil hbel.out ((Chg.refl Nil _).alloc _)⟩
        · have hxm := List.getElem_mem hb
          have hxb := V.out.l.s.row k hk _ hxm
          obtain ⟨r1, r2⟩ := hr gf HG.out
          have hmost := mostM_is (g := gf) hb (by have := HG.out.own hxb.1 hxb.2; have := prZ_bd z ((q k)[b]); omega) r1
          obtain ⟨g', hg'⟩ := u1.s.eff (prZ z)
          obtain ⟨e1, e2⟩ := eff_hand V.out.l.s HG.out hk hb r1 u1.s hg'
          have e3 := e1 t ho1 hob.2
          have hcut : keepI (q k)[b] (q k) = cutI (q k) b := keep_cut (V.out.l.s.nd k hk) hb
          have hcl := cutI_len (q k) b hb
          have hnF' : ¬ F' mb := fun hh => (u3 mb hh).elim V.out.nF (fun h => by have := VM.out.lt; omega)
          have hgF' := grew_ge u3 V.out.gF V.out.bel.size
          have hbel6 := below_chg V.out.bel u2 V.out.gF
          have hM6 := VM.out.chg u2 V.out.nF
          have hR6 := V.out.rd.chg u2 (fun i _ h1 h2 => V.out.g3 i h1 h2)
          obtain ⟨x, hx⟩ : ∃ x, x = (q k)[b] := ⟨_, rfl⟩
          rw [← hx] at hxm hxb hmost u1 hg' e2 hcut r1 ⊢
          have hfx : effF gf (q k ++ [t]) x = some (.int .i64 (gf x)) := if_pos (by simp [hxm])
          have hxw := wf_key (i := x) (by omega) (by omega)
          have LKx : Hid (∀ W', MpAt W' Try.prog 3 mb j (effF gf (q k ++ [t])) → (Instr.lookup 36 (.map (some mb)) (.int .i64 x) false).run Try.prog W' = .ok (.int .i64 (gf x)) W') := hid (fun W' hM => by
            have := hM.look (t := 36) Try.underlying3 Try.underlying36 (zeroIntL _) x hxw
            rw [hfx] at this
            exact this)
          rw [hmost]
          have hxz : (x == 0) = false := by rw [beq_eq_false_iff_ne]; omega
          have hnz : (((q k).length : Int) == 0) = false := by rw [beq_eq_false_iff_ne]; omega
          have U1 := hid u1
          have U2 := hid u2
          have HGN := hid hg'
          have HCUT := hid hcut
          have HCL := hid hcl
          have HXM := hid hxm
          have HB6 := hid hbel6
          have HM6 := hid hM6
          have HR6 := hid hR6
          have HX := hid hx
          have E2 := hid e2
          have E3 := hid e3
          clear u1 u2 u3 hr r1 r2 e1 hg' hcut hcl hnF' hgF' hbel6 hM6 hR6 hxm hmost hfx hxw hx HF HFR
          go_upto_region 34 with fail
          obtain ⟨W, hW⟩ : ∃ W, W = w6.alloc (.cells #[.int .i64 x] 3) := ⟨_, rfl⟩
          have cW : Chg Nil w6 W := by rw [hW]; exact (Chg.refl _ _).alloc _
          obtain ⟨sb, hsb⟩ : ∃ sb, sb = w6.heap.size := ⟨_, rfl⟩
          have bW : Blk W sb 3 [.int .i64 x] := by rw [hW, hsb]; exact Blk.new w6 3 [.int .i64 x]
          have hsbW : sb < W.heap.size := bW.lt
          rw [← hW, ← hsb]
          have c25 : W.cell? ⟨sb, 0, none⟩ = some (.int .i64 x) := bW.cell 0
          have LW := hid (U1.out.nil cW)
          have BW := hid (below_nil HB6.out cW)
          have MW := hid (HM6.out.chg cW (fun h => h))
          have RW := hid (HR6.out.chg cW (fun _ _ _ h => h))
          have BLW := hid bW
          clear hW hsb cW bW
          have HE1 := hid (leff_ok W F' p N (prZ z) _ _ LW.out g' HGN.out x hxb.1 hxb.2)
          have HE2 := hid (leff_ok W F' p N (prZ z) _ _ LW.out g' HGN.out t ho1 hob.2)
          have HRW2 := lrow_ok W F' p N (prZ z) _ _ k LW.out hk
          rw [upN_same, HCL.out] at HRW2
          replace HRW2 := hid HRW2
          go_wp2_with fail
          refine HE1.out.mono ?_
          rintro e w' ⟨rfl, rfl⟩
          go_wp2_with fail
          refine HE2.out.mono ?_
          rintro e w' ⟨rfl, rfl⟩
          go_wp2_with fail
          refine HRW2.out.mono ?_
          rintro e w7 ⟨a7, c7, G7, rfl, v1, v2, v3⟩
          have c25' : w7.cell? ⟨sb, 0, none⟩ = some (.int .i64 x) := (BLW.out.chg v2 (fun h => h)).cell 0
          have R7 := RW.out.chg v2 (fun _ _ _ h => h)
          have M7 := MW.out.chg v2 (fun h => h)
          have L1 := LKx.out w7 M7
          have L2 := LKt.out w7 M7
          have hhas : hasI (q k) x = true := by
            have := HXM.out
            unfold hasI
            simpa using this
          have HCT := contains_int _ _ _ _ (q k) x w7 R7 (by omega)
          rw [hhas] at HCT
          replace HCT := hid HCT
          have HCN := hid (clone_int _ _ _ _ (ints .i64 (q k)) w7 R7 (ints_one _ _) (by omega))
          have B7 := hid (below_nil BW.out v2)
          have BL7 := hid (BLW.out.chg v2 (fun h => h))
          replace v1 := hid v1
          replace v2 := hid v2
          replace v3 := hid v3
          have e2 := E2.out
          have e3 := E3.out
          clear R7 M7 hhas c25
          go_wp2_with fail
          refine HCT.out.mono ?_
          rintro e w' ⟨rfl, rfl⟩
          go_wp2_with fail
          refine HCN.out.mono ?_
          rintro e w8 ⟨a8, c8, G8, rfl, x1, x2, x3⟩
          have c25'' : w8.cell? ⟨sb, 0, none⟩ = some (.int .i64 x) := (BL7.out.chg x2 (fun h => h)).cell 0
          have hG8 : G8 ≠ some sb := fun hh => by have := x3 sb hh; have := BL7.out.lt; omega
          have HDF := hid (handsDel a8 _ c8 sb G8 (q k) x w8 x1 (by omega) c25'' hG8 HXM.out)
          have X2 := hid x2
          have X3 := hid x3
          have B8 := hid (below_nil B7.out x2)
          clear x1 x2 x3 c25''
          go_wp2_with fail
          refine HDF.out.mono ?_
          rintro e w9 ⟨rfl, d1, d2⟩
          have hl9 := (v1.out.chg X2.out (fun _ _ h => h)).chg d2 (fun g hg hh => by have h1 := X3.out g hh; have h2 := v1.out.lt g hg; omega)
          have heq : eqI (cutI (q k) b) (keepI x (q k)) = true := by rw [HCUT.out]; unfold eqI; simp
          have HEQ := equal_int _ _ _ _ _ _ _ _ (cutI (q k) b) (keepI x (q k)) w9 hl9.rd d1.rd (by omega) (by have := keepI_len x (q k); omega)
          rw [heq] at HEQ
          replace HEQ := hid HEQ
          have D2 := hid d2
          clear hl9 heq d1 d2
          go_wp2_with fail
          refine HEQ.out.mono ?_
          rintro e w10 ⟨rfl, kq, rfl⟩
          go_wp2
          go_ret
          exact ⟨rfl, below_nil (below_chg B8.out D2.out (fun i hi => by have := X3.out i hi; have := B7.out.size; omega)) ((Chg.refl Nil w9).drewN kq)⟩
end Go.Proofs.Ythbkmjigplolgaa
