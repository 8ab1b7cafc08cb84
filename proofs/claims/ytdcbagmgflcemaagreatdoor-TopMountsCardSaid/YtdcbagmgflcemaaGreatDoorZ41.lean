/- Package fs: add, Make: a node more, under a name. Conditions: a directory of at most one entry; a name that is new and lies behind it; room · Package fs: add, Make: the walk. Conditions: a directory of at most one entry; a name that is new and lies behind it; room · Package fs: Make, Hold, Read. Conditions: as for add; a node that is there; a file of at most one block, read from its beginning · Package fs: Write, of a file that has no sector yet, from its beginning. Conditions: just that; at most 64 bytes, at least one; room · Package fs: Write in plain words. Conditions: a file that has no sector yet, from its beginning; at most 64 bytes; room. -/
import Derived.Test.YtdcbagmgflcemaaGreatDoorZ39
import Derived.Test.YtdcbagmgflcemaaGreatDoorZ35
namespace Go.Proofs.YtdcbagmgflcemaaGreatDoor
open Go.ChangeShapes Go.WideShapes Go.ChangeAt Go.RowKit
set_option linter.unusedVariables false
def ndNew (kd md up : Nat) : Nd := ⟨kd, md, 0, 1, up, 0, none, 0⟩
def upOf (kd k : Nat) : Nat := if kd = 2 then k + 1 else 0
/-- The nodes behind a new one. -/
def mAdd (M : Nat → FM) (mx k m kd md : Nat) (l : List En) (x : UInt8) : Nat → FM :=
  updF (updF M m ⟨kd, md, 0, 1, upOf kd k, 0, []⟩) k ⟨(M k).kd, (M k).md, 16 * (l.length + 1), (M k).ln, (M k).up, if (M k).pt = 0 then 53 + mx else (M k).pt, dirB (l ++ [⟨x, m + 1⟩])⟩
theorem add_plain {w2 w' : World} {FF FD : Nat → Prop} {f p q bt bh : Nat} {zs : List Int} {X X' : FX} {M : Nat → FM} (hM : XM X zs M) (k m kd md : Nat) (l : List En) (hd : DirM M k l) (hm : m < 32) (hkm : k ≠ m) (x : UInt8) (hs : EnS (l ++ [⟨x, m + 1⟩])) (T0 : TX) (hT0 : T0.ns = X.ns ∧ T0.m = X.m ∧ T0.pu = fun _ => none)
    (s : Sec) (pa : Option Addr) (pc : Nat) (hsl : s.l = padB (dirB (l ++ [⟨x, m + 1⟩]))) (T : TX) (hT : T = (T0.set m (ndNew kd md (upOf kd k))).set m ((T0.set m (ndNew kd md (upOf kd k))).ns m))
    (e1 : X'.ns = (((nxT T (X.ns k).pt).putS ((nxP T (X.ns k).pt : Nat) : Int) s).set k ((T.ns k).one (dirB (l ++ [⟨x, m + 1⟩])).length (nxP T (X.ns k).pt) pa pc)).ns)
    (e2 : X'.m = (((nxT T (X.ns k).pt).putS ((nxP T (X.ns k).pt : Nat) : Int) s).set k ((T.ns k).one (dirB (l ++ [⟨x, m + 1⟩])).length (nxP T (X.ns k).pt) pa pc)).m)
    (e4 : ∀ i : Int, 53 ≤ i → X'.td i = ((((nxT T (X.ns k).pt).putS ((nxP T (X.ns k).pt : Nat) : Int) s).set k ((T.ns k).one (dirB (l ++ [⟨x, m + 1⟩])).length (nxP T (X.ns k).pt) pa pc)).pu i).or (X.td i)) :
    XM X' zs (mAdd M X.m k m kd md l x) ∧ X'.m = if (M k).pt = 0 then X.m + 1 else X.m := by
  obtain ⟨t1, t2, t3⟩ := hT0
  have hpt : (X.ns k).pt = (M k).pt := (hM.nd k hd.lt).2.2.2.2.2
  have hTm : T.m = X.m := by rw [hT]; exact t2
  have hTp : T.pu = fun _ => none := by rw [hT]; exact t3
  have hTn : ∀ j, T.ns j = if j = m then ndNew kd md (upOf kd k) else X.ns j := by
    intro j
    rw [hT]
    show updN (updN T0.ns m _) m (updN T0.ns m _ m) j = _
    unfold updN
    by_cases hj : j = m
    · rw [if_pos hj, if_pos hj, if_pos rfl]
    · rw [if_neg hj, if_neg hj, if_neg hj, t1]
  have hTk : T.ns k = X.ns k := by rw [hTn, if_neg hkm]
  have hlen : (dirB (l ++ [⟨x, m + 1⟩])).length = 16 * (l.length + 1) := by rw [dirB_len hs, List.length_append]; rfl
  have hl2 : l.length + 1 ≤ 2 := by have := hs.len; rw [List.length_append] at this; exact this
  rw [hpt] at e1 e2 e4
  have hp1 : nxP T (M k).pt = if (M k).pt = 0 then 53 + X.m else (M k).pt := by unfold nxP; rw [hTm]
  obtain ⟨p1, hp⟩ : ∃ p1, p1 = nxP T (M k).pt := ⟨_, rfl⟩
  rw [← hp] at e1 e2 e4 hp1
  have hXm : X'.m = if (M k).pt = 0 then X.m + 1 else X.m := by
    rw [e2]
    show (nxT T (M k).pt).m = _
    unfold nxT
    split
    · show T.m + 1 = _; rw [hTm]
    · exact hTm
  have hpu : ∀ i : Int, 53 ≤ i → X'.td i = if i = (p1 : Int) then some s else X.td i := by
    intro i hi
    rw [e4 i hi]
    show (updS (nxT T (M k).pt).pu (p1 : Int) s i).or _ = _
    have : (nxT T (M k).pt).pu = fun _ => none := by unfold nxT; split <;> exact hTp
    rw [this]
    unfold updS
    split <;> rfl
  have hns : ∀ j, X'.ns j = if j = k then (X.ns k).one (dirB (l ++ [⟨x, m + 1⟩])).length p1 pa pc else if j = m then ndNew kd md (upOf kd k) else X.ns j := by
    intro j
    rw [e1]
    show updN (nxT T (M k).pt).ns k _ j = _
    have : (nxT T (M k).pt).ns = T.ns := by unfold nxT; split <;> rfl
    rw [this]
    unfold updN
    by_cases hj : j = k
    · rw [if_pos hj, if_pos hj, hTk]
    · rw [if_neg hj, if_neg hj, hTn]
  have hrk := hM.rng k hd.lt
  refine ⟨hM.next k p1 s hd.lt (fun j hj => ?_) hpu ?_ (by rw [hXm]; split <;> omega) ?_ ?_ (fun j hj hjk => ?_), hXm⟩
  · rw [hns]
    unfold mAdd updF
    by_cases hjk : j = k
    · subst hjk
      rw [if_pos rfl, if_pos rfl, hlen]
      obtain ⟨a1, a2, a3, a4, a5, a6⟩ := hM.nd j hj
      exact ⟨a1, a2, rfl, a4, a5, hp1⟩
    · rw [if_neg hjk, if_neg hjk]
      by_cases hjm : j = m
      · rw [if_pos hjm, if_pos hjm]; exact ⟨rfl, rfl, rfl, rfl, rfl, rfl⟩
      · rw [if_neg hjm, if_neg hjm]; exact hM.nd j hj
  · rw [hXm, hp1]
    split <;> omega
  · unfold mAdd updF
    rw [if_pos rfl]
    exact hp1.symm
  · unfold mAdd updF
    rw [if_pos rfl, hsl]
    exact padB_take _ _ hlen.symm
  · unfold mAdd updF
    rw [if_neg hjk]
    by_cases hjm : j = m
    · rw [if_pos hjm]; exact .inl ⟨rfl, rfl⟩
    · rw [if_neg hjm]
      refine .inr ⟨rfl, rfl, rfl, ?_⟩
      have hrj := hM.rng j hj
      have ha := hM.apart j k hj hd.lt hjk
      rw [hp1]
      split <;> omega
end Go.Proofs.YtdcbagmgflcemaaGreatDoor
namespace Go.Proofs.YtdcbagmgflcemaaGreatDoor
open Go.ChangeShapes Go.WideShapes Go.ChangeAt Go.RowKit
set_option linter.unusedVariables false
theorem FPost.of {w w2 w' : World} {FF FD : Nat → Prop} {f p q bt bh : Nat} {zs : List Int} {M : Nat → FM} {X : FX} {N t gn bd bp m : Nat} {hd : Int → Option Value} (hf : FsA w' (fun k => FF k ∨ (N ≤ k ∧ k < w'.heap.size)) FD f p q bt bh zs X) (hM : XM X zs M) (hm : X.m = m) (hh : X.hd = hd) (hN : w.heap.size ≤ N) (hnew : ∀ k, Mt t gn bd bp k → w.heap.size ≤ k) (hin : FF f ∧ FF bt)
    (c1 : Chg Nil w w2) (c2 : Chg (fun k => Mt t gn bd bp k ∨ k = f ∨ k = bt) w2 w') : FPost w FF FD f p q bt bh zs M m hd w' :=
  ⟨X, _, hf, hM, hm, hh, (c1.mono (fun _ _ h => h.elim)).trans c2 (fun k hk hh => by
    rcases hh with hh | rfl | rfl
    · have := hnew k hh; omega
    · exact hin.1
    · exact hin.2), fun k hk => .inl hk, fun k hk => hk.imp (fun h => h) (fun h => Nat.le_trans hN h.1)⟩
set_option maxRecDepth 100000 in
set_option maxHeartbeats 4000000 in
theorem fadd_ok {w : World} {FF FD : Nat → Prop} {f p q bt bh : Nat} {zs : List Int} {X : FX} {M : Nat → FM} (h : FsA w FF FD f p q bt bh zs X) (hM : XM X zs M) (k m kd md : Nat) (l : List En) (hd : DirM M k l) (hm : m < 32) (hm0 : (M m).kd = 0) (hm1 : ∀ j, j < m → 0 < (M j).kd) (x : UInt8) (hx : IsNm x) (hno : dle l x = 4) (hs : EnS (l ++ [⟨x, m + 1⟩])) (hln : 0 < (M k).ln) (hXm : X.m < 8) (hkd : kd = 1 ∨ kd = 2) (hmd : md ≤ 511) (ki : Int) (hki : ki = (k : Int) + 1) :
    Calls Tryz.prog 128 #[.pointer (some ⟨f, 0, none⟩), .int .i64 ki, .string ⟨#[x]⟩, .agg #[.int .i64 (kd : Int), .int .i64 (md : Int), .int .i64 0, .int .i64 0, .int .i64 0, .int .i64 0, .int .i64 0, .slice none 0 0], .slice none 0 0] w fun e w' => e = .returned (.tuple #[.int .i64 ((m : Int) + 1), .int .i64 0]) ∧ FPost w FF FD f p q bt bh zs (mAdd M X.m k m kd md l x) (if (M k).pt = 0 then X.m + 1 else X.m) X.hd w' := by
  have hkm : k ≠ m := fun hh => by have := hd.kd; rw [hh, hm0] at this; cases this
  have hD := hM.dir hd
  have CA := (Chg.refl Nil w).alloc (.cells #[.int .i64 (kd : Int), .int .i64 (md : Int), .int .i64 0, .int .i64 0, .int .i64 0, .int .i64 0, .int .i64 0, .slice none 0 0] 120)
  have BA := Blk.new w 120 [.int .i64 (kd : Int), .int .i64 (md : Int), .int .i64 0, .int .i64 0, .int .i64 0, .int .i64 0, .int .i64 0, .slice none 0 0]
  have HP := hid (fplace_ok (h.nil CA) k l hD ki hki x hx hno (by rw [(hM.nd k hd.lt).2.2.2.1]; exact hln))
  have HF := hid (fun W (hc : Chg Nil w W) => ffree_ok (h.nil hc) m hm (by rw [(hM.nd m hm).1]; exact hm0) (fun j hj => by rw [(hM.nd j (by omega)).1]; exact hm1 j hj))
  have H := hid h
  have HM := hid hM
  have HD := hid hd
  have HDI := hid hD
  have HS := hid hs
  have hno' := hid hno
  have hki' := hid hki
  have hkm' := hid hkm
  have hm' := hid hm
  have hXm' := hid hXm
  have hmd' := hid hmd
  have hkl := hid hd.lt
  have hfl := hid h.lt
  replace CA := hid CA
  replace BA := hid BA
  clear h hM hd hD hs hno hki hkm hm hm0 hm1 hln hx hXm hmd
  obtain ⟨mm, hmm⟩ : ∃ mm, mm = if (M k).pt = 0 then X.m + 1 else X.m := ⟨_, rfl⟩
  rw [← hmm]
  replace hmm := hid hmm
  rcases hkd with rfl | rfl
  · go_enter Tryz.func128, Tryz.ntmps128
    go_wp2_with fail
    refine HP.out.mono ?_
    rintro e w1 ⟨rfl, d1⟩
    have D1 := CA.out.trans d1 (fun _ _ h => h)
    have HF1 := hid (HF.out _ D1)
    have B1 := BA.out.chg d1 (fun h => h)
    have D1 := hid D1
    replace B1 := hid B1
    clear d1
    go_wp2_with fail
    refine HF1.out.mono ?_
    rintro e w2 ⟨rfl, d2⟩
    have B2 := B1.out.chg d2 (fun h => h)
    have D2 := D1.out.trans d2 (fun _ _ h => h)
    have f5 := B2.frozen 5
    have g5 := B2.cell 5
    simp only [List.getElem?_cons_succ, List.getElem?_cons_zero] at g5
    have B3 := B2.set 5 (.int .i64 1)
    have h0 : (w2.setCell ⟨w.heap.size, 5, none⟩ (.int .i64 1)).cell? ⟨w.heap.size, 0, none⟩ = some (.int .i64 1) := B3.cell 0
    have C3 := D2.setCell (p := ⟨w.heap.size, 5, none⟩) (.inr (Nat.le_refl _)) (.int .i64 1)
    obtain ⟨W3, hW3⟩ : ∃ W3, W3 = w2.setCell ⟨w.heap.size, 5, none⟩ (.int .i64 1) := ⟨_, rfl⟩
    rw [← hW3] at B3 C3
    have BW : Blk W3 w.heap.size 120 [.int .i64 1, .int .i64 (md : Int), .int .i64 0, .int .i64 0, .int .i64 0, .int .i64 1, .int .i64 0, .slice none 0 0] := B3
    have HB := hid (fbegin_ok (H.out.nil C3))
    have CW := hid C3
    have BW' := hid BW
    have hW3' := hid hW3
    clear BW B3 C3 hW3 B2 D2
    go_wp2_with fail
    rw [← hW3'.out]
    refine HB.out.mono ?_
    rintro e w4 ⟨v, rfl, R, t, gn, go, gc, bd, bp, rfl, T0, c4⟩
    have LB := load_blk (P := Tryz.prog) (ty := 120) (BW'.out.chg c4 (fun h => h)) Tryz.underlying120 rfl (by kernel_rfl)
    obtain ⟨d, hd⟩ : ∃ d, d = ndNew 1 md (upOf 1 k) := ⟨_, rfl⟩
    have hnd : NdAt w4 R d := by rw [hd]; exact .inl ⟨rfl, rfl, rfl⟩
    have hok : NdOk d := by
      rw [hd]
      have := hmd'.out
      have := hkl.out
      refine .inr ⟨?_, hmd'.out, Nat.zero_le _, (by show 1 ≤ 200; omega), (by show 0 < 256; omega), ⟨fun _ => rfl, fun _ => rfl⟩⟩
      exact .inl ⟨rfl, rfl⟩
    have HSET := fset_ok T0 m hm'.out ((m : Int) + 1) rfl d hnd hok
    have hdr : d.row.toArray = #[.int .i64 1, .int .i64 (md : Int), .int .i64 0, .int .i64 0, .int .i64 0, .int .i64 1, .int .i64 0, .slice none 0 0] := by rw [hd]; rfl
    rw [hdr] at HSET
    replace HSET := hid HSET
    have CB := hid (CW.out.trans c4 (fun _ _ h => h))
    have hnew := hid T0.new
    have hNw := hid CW.out.size
    replace hd := hid hd
    clear hnd hok hdr T0 c4
    go_wp2_with (refine wpList_load_run LB (by rfl) (by rfl) (by rfl) ?_)
    refine HSET.out.mono ?_
    rintro e w5 ⟨rfl, T1, c5⟩
    have HFI := hid (ffill_nil T1 m hm'.out ((m : Int) + 1) rfl (by show (updN X.ns m d m).pt = 0; unfold updN; rw [if_pos rfl, hd.out]; rfl) (by show (updN X.ns m d m).sz = 0; unfold updN; rw [if_pos rfl, hd.out]; rfl))
    replace c5 := hid c5
    clear T1 LB
    go_wp2_with fail
    refine HFI.out.mono ?_
    rintro e w6 ⟨rfl, T2, c6⟩
    obtain ⟨T, hT⟩ : ∃ T, T = ((⟨X.ns, X.m, fun _ => none, fun _ => none⟩ : TX).set m d).set m (((⟨X.ns, X.m, fun _ => none, fun _ => none⟩ : TX).set m d).ns m) := ⟨_, rfl⟩
    rw [← hT] at T2
    have hTk : T.ns k = X.ns k := by
      rw [hT]
      show updN (updN X.ns m d) m _ k = _
      unfold updN
      rw [if_neg hkm'.out, if_neg hkm'.out]
    have hTp : ∀ i, T.pu i = none := by rw [hT]; exact fun _ => rfl
    have hTm : T.m = X.m := by rw [hT]; rfl
    have hrk := HM.out.rng k hkl.out
    have hptk : (X.ns k).pt = (M k).pt := (HM.out.nd k hkl.out).2.2.2.2.2
    have HEN := fenter_ok T2 k l HDI.out hTk (hTp _) ki hki'.out ⟨x, m + 1⟩ hno'.out HS.out (by rw [hTm]; exact hXm'.out) (by rw [hptk, hTm]; exact hrk)
    rw [show (((⟨x, m + 1⟩ : En).i : Nat) : Int) = (m : Int) + 1 from Int.natCast_succ m] at HEN
    replace HEN := hid HEN
    replace c6 := hid c6
    replace hTm := hid hTm
    replace hT := hid hT
    clear hTk hTp hrk hptk T2
    go_wp2_with fail
    refine HEN.out.mono ?_
    rintro e w7 ⟨rfl, s, pa, pc, hsl, T3, c7⟩
    have HEND := hid (fend_ok T3 (by
      show X.m ≤ (nxT T (X.ns k).pt).m
      unfold nxT
      split
      · show X.m ≤ T.m + 1
        have := hTm.out; omega
      · have := hTm.out; omega))
    have hin := hid T3.fs.inF
    replace c7 := hid c7
    replace hsl := hid hsl
    clear T3
    go_wp2_with fail
    refine HEND.out.mono ?_
    rintro e w8 ⟨rfl, hX⟩
    have hX' := hid hX
    clear hX
    go_wp2
    go_ret2
    obtain ⟨X', e1, e2, e3, e4, e5, c8⟩ := hX'.out.out
    obtain ⟨p1, p2⟩ := add_plain (w2 := w) (w' := w) (FF := FF) (FD := FD) (f := f) (p := p) (q := q) (bt := bt) (bh := bh) HM.out k m 1 md l HD.out hm'.out hkm'.out x HS.out ⟨X.ns, X.m, fun _ => none, fun _ => none⟩ ⟨rfl, rfl, rfl⟩ s pa pc hsl.out T (by rw [hT.out, hd.out]) e1 e2 e4
    refine ⟨rfl, FPost.of e5 p1 (p2.trans hmm.out.symm) e3 hNw.out (fun k hk => ?_) ⟨hin.out.1, hin.out.2.1⟩ CB.out (((((c5.out.trans c6.out (fun _ _ h => h)).trans c7.out (fun _ _ h => h)).mono (fun _ _ h => Or.inl h)).trans c8 (fun _ _ h => h)))⟩
    have := hnew.out
    have := hNw.out
    rcases hk with hk | hk | hk | hk <;> omega
  · go_enter Tryz.func128, Tryz.ntmps128
    go_wp2_with fail
    refine HP.out.mono ?_
    rintro e w1 ⟨rfl, d1⟩
    have D1 := CA.out.trans d1 (fun _ _ h => h)
    have HF1 := hid (HF.out _ D1)
    have B1 := BA.out.chg d1 (fun h => h)
    have D1 := hid D1
    replace B1 := hid B1
    clear d1
    go_wp2_with fail
    refine HF1.out.mono ?_
    rintro e w2 ⟨rfl, d2⟩
    have B2 := B1.out.chg d2 (fun h => h)
    have D2 := D1.out.trans d2 (fun _ _ h => h)
    have f5 := B2.frozen 5
    have g5 := B2.cell 5
    simp only [List.getElem?_cons_succ, List.getElem?_cons_zero] at g5
    have B3 := B2.set 5 (.int .i64 1)
    have h0 : (w2.setCell ⟨w.heap.size, 5, none⟩ (.int .i64 1)).cell? ⟨w.heap.size, 0, none⟩ = some (.int .i64 2) := B3.cell 0
    have C3 := D2.setCell (p := ⟨w.heap.size, 5, none⟩) (.inr (Nat.le_refl _)) (.int .i64 1)
    have f6 := B3.frozen 6
    have g6 : (w2.setCell ⟨w.heap.size, 5, none⟩ (.int .i64 1)).cell? ⟨w.heap.size, 6, none⟩ = some (.int .i64 0) := B3.cell 6
    have B4 := B3.set 6 (.int .i64 ki)
    have C4 := C3.setCell (p := ⟨w.heap.size, 6, none⟩) (.inr (Nat.le_refl _)) (.int .i64 ki)
    obtain ⟨W3, hW3⟩ : ∃ W3, W3 = (w2.setCell ⟨w.heap.size, 5, none⟩ (.int .i64 1)).setCell ⟨w.heap.size, 6, none⟩ (.int .i64 ki) := ⟨_, rfl⟩
    rw [← hW3] at B4 C4
    have BW : Blk W3 w.heap.size 120 [.int .i64 2, .int .i64 (md : Int), .int .i64 0, .int .i64 0, .int .i64 0, .int .i64 1, .int .i64 ki, .slice none 0 0] := B4
    have HB := hid (fbegin_ok (H.out.nil C4))
    have CW := hid C4
    have BW' := hid BW
    have hW3' := hid hW3
    clear BW B4 C4 hW3 B2 D2 B3 C3
    go_wp2_with fail
    rw [← hW3'.out]
    refine HB.out.mono ?_
    rintro e w4 ⟨v, rfl, R, t, gn, go, gc, bd, bp, rfl, T0, c4⟩
    have LB := load_blk (P := Tryz.prog) (ty := 120) (BW'.out.chg c4 (fun h => h)) Tryz.underlying120 rfl (by kernel_rfl)
    obtain ⟨d, hd⟩ : ∃ d, d = ndNew 2 md (upOf 2 k) := ⟨_, rfl⟩
    have hnd : NdAt w4 R d := by rw [hd]; exact .inl ⟨rfl, rfl, rfl⟩
    have hok : NdOk d := by
      rw [hd]
      have := hmd'.out
      have := hkl.out
      refine .inr ⟨?_, hmd'.out, Nat.zero_le _, (by show 1 ≤ 200; omega), (by show 0 < 256; omega), ⟨fun _ => rfl, fun _ => rfl⟩⟩
      exact .inr ⟨rfl, by show 1 ≤ k + 1; omega, by show k + 1 ≤ 32; omega⟩
    have HSET := fset_ok T0 m hm'.out ((m : Int) + 1) rfl d hnd hok
    have hdr : d.row.toArray = #[.int .i64 2, .int .i64 (md : Int), .int .i64 0, .int .i64 0, .int .i64 0, .int .i64 1, .int .i64 ki, .slice none 0 0] := by rw [hd, hki'.out]; rfl
    rw [hdr] at HSET
    replace HSET := hid HSET
    have CB := hid (CW.out.trans c4 (fun _ _ h => h))
    have hnew := hid T0.new
    have hNw := hid CW.out.size
    replace hd := hid hd
    clear hnd hok hdr T0 c4
    go_wp2_with (refine wpList_load_run LB (by rfl) (by rfl) (by rfl) ?_)
    refine HSET.out.mono ?_
    rintro e w5 ⟨rfl, T1, c5⟩
    have HFI := hid (ffill_nil T1 m hm'.out ((m : Int) + 1) rfl (by show (updN X.ns m d m).pt = 0; unfold updN; rw [if_pos rfl, hd.out]; rfl) (by show (updN X.ns m d m).sz = 0; unfold updN; rw [if_pos rfl, hd.out]; rfl))
    replace c5 := hid c5
    clear T1 LB
    go_wp2_with fail
    refine HFI.out.mono ?_
    rintro e w6 ⟨rfl, T2, c6⟩
    obtain ⟨T, hT⟩ : ∃ T, T = ((⟨X.ns, X.m, fun _ => none, fun _ => none⟩ : TX).set m d).set m (((⟨X.ns, X.m, fun _ => none, fun _ => none⟩ : TX).set m d).ns m) := ⟨_, rfl⟩
    rw [← hT] at T2
    have hTk : T.ns k = X.ns k := by
      rw [hT]
      show updN (updN X.ns m d) m _ k = _
      unfold updN
      rw [if_neg hkm'.out, if_neg hkm'.out]
    have hTp : ∀ i, T.pu i = none := by rw [hT]; exact fun _ => rfl
    have hTm : T.m = X.m := by rw [hT]; rfl
    have hrk := HM.out.rng k hkl.out
    have hptk : (X.ns k).pt = (M k).pt := (HM.out.nd k hkl.out).2.2.2.2.2
    have HEN := fenter_ok T2 k l HDI.out hTk (hTp _) ki hki'.out ⟨x, m + 1⟩ hno'.out HS.out (by rw [hTm]; exact hXm'.out) (by rw [hptk, hTm]; exact hrk)
    rw [show (((⟨x, m + 1⟩ : En).i : Nat) : Int) = (m : Int) + 1 from Int.natCast_succ m] at HEN
    replace HEN := hid HEN
    replace c6 := hid c6
    replace hTm := hid hTm
    replace hT := hid hT
    clear hTk hTp hrk hptk T2
    go_wp2_with fail
    refine HEN.out.mono ?_
    rintro e w7 ⟨rfl, s, pa, pc, hsl, T3, c7⟩
    have HEND := hid (fend_ok T3 (by
      show X.m ≤ (nxT T (X.ns k).pt).m
      unfold nxT
      split
      · show X.m ≤ T.m + 1
        have := hTm.out; omega
      · have := hTm.out; omega))
    have hin := hid T3.fs.inF
    replace c7 := hid c7
    replace hsl := hid hsl
    clear T3
    go_wp2_with fail
    refine HEND.out.mono ?_
    rintro e w8 ⟨rfl, hX⟩
    have hX' := hid hX
    clear hX
    go_wp2
    go_ret2
    obtain ⟨X', e1, e2, e3, e4, e5, c8⟩ := hX'.out.out
    obtain ⟨p1, p2⟩ := add_plain (w2 := w) (w' := w) (FF := FF) (FD := FD) (f := f) (p := p) (q := q) (bt := bt) (bh := bh) HM.out k m 2 md l HD.out hm'.out hkm'.out x HS.out ⟨X.ns, X.m, fun _ => none, fun _ => none⟩ ⟨rfl, rfl, rfl⟩ s pa pc hsl.out T (by rw [hT.out, hd.out]) e1 e2 e4
    refine ⟨rfl, FPost.of e5 p1 (p2.trans hmm.out.symm) e3 hNw.out (fun k hk => ?_) ⟨hin.out.1, hin.out.2.1⟩ CB.out (((((c5.out.trans c6.out (fun _ _ h => h)).trans c7.out (fun _ _ h => h)).mono (fun _ _ h => Or.inl h)).trans c8 (fun _ _ h => h)))⟩
    have := hnew.out
    have := hNw.out
    rcases hk with hk | hk | hk | hk <;> omega
end Go.Proofs.YtdcbagmgflcemaaGreatDoor
namespace Go.Proofs.YtdcbagmgflcemaaGreatDoor
open Go.ChangeShapes Go.WideShapes Go.ChangeAt Go.RowKit
set_option linter.unusedVariables false
set_option maxRecDepth 100000 in
set_option maxHeartbeats 1000000 in
theorem fmake_ok {w : World} {FF FD : Nat → Prop} {f p q bt bh : Nat} {zs : List Int} {X : FX} {M : Nat → FM} (h : FsA w FF FD f p q bt bh zs X) (hM : XM X zs M) (k m kd md : Nat) (l : List En) (hd : DirM M k l) (hm : m < 32) (hm0 : (M m).kd = 0) (hm1 : ∀ j, j < m → 0 < (M j).kd) (x : UInt8) (hx : IsNm x) (hno : dle l x = 4) (hs : EnS (l ++ [⟨x, m + 1⟩])) (hln : 0 < (M k).ln) (hXm : X.m < 8) (hkd : kd = 1 ∨ kd = 2) (hmd : md ≤ 511) (ki : Int) (hki : ki = (k : Int) + 1) :
    Calls Tryz.prog 62 #[.pointer (some ⟨f, 0, none⟩), .int .i64 ki, .string ⟨#[x]⟩, .int .i64 (kd : Int), .int .i64 (md : Int), .int .i64 0, .int .i64 0] w fun e w' => e = .returned (.tuple #[.int .i64 ((m : Int) + 1), .int .i64 0]) ∧ FPost w FF FD f p q bt bh zs (mAdd M X.m k m kd md l x) (if (M k).pt = 0 then X.m + 1 else X.m) X.hd w' := by
  have HA := hid (fadd_ok h hM k m kd md l hd hm hm0 hm1 x hx hno hs hln hXm hkd hmd ki hki)
  have HW := hid (fun W => fwho_ok W)
  have i1 : ¬ ((md : Int) < 0) := by omega
  have i2 : ¬ ((md : Int) > 511) := by omega
  obtain ⟨mm, hmm⟩ : ∃ mm, mm = if (M k).pt = 0 then X.m + 1 else X.m := ⟨_, rfl⟩
  rw [← hmm] at HA ⊢
  replace hmm := hid hmm
  clear h hM hd hm hm0 hm1 hx hno hs hln hXm hmd hki
  rcases hkd with rfl | rfl
  all_goals
    go_enter Tryz.func62, Tryz.ntmps62
    go_wp2_with fail
    refine (HW.out _).mono ?_
    rintro e w1 ⟨rfl, rfl⟩
    go_wp2_with fail
    refine HA.out.mono ?_
    rintro e w2 ⟨rfl, hp⟩
    replace hp := hid hp
    go_wp2
    go_ret2
    exact ⟨rfl, hp.out⟩
/-- How often the nodes are held. -/
def hdV (g : Nat → Nat) : Int → Option Value := fun i => if 0 ≤ i ∧ i ≤ 32 ∧ g i.toNat ≠ 0 then some (.int .i64 (g i.toNat : Int)) else none
def FX.setH (X : FX) (hd : Int → Option Value) : FX := ⟨X.ns, X.na, X.nc, X.m, X.td, hd⟩
theorem FsA.setH {w w' : World} {FF FD : Nat → Prop} {f p q bt bh : Nat} {zs : List Int} {X : FX} (h : FsA w FF FD f p q bt bh zs X) (hc : Chg (One bh) w w') (hd : Int → Option Value) (hm : MpAt w' Tryz.prog 3 bh 1000 hd) : FsA w' FF FD f p q bt bh zs (X.setH hd) :=
  ⟨h.blk.chg hc (fun hh => h.ne.2.1 hh), h.log.chg hc (fun hh => h.inQ.2.2.2 hh), h.dk.chg hc (fun k hk hh => (h.inD k hk).2.2.2 hh), h.nz, h.nodes.chg hc (fun g _ hg hh => hg.2.2.2 hh), fun i hi => (h.pts i hi).chg hc (fun g _ hg hh => hg.2.2.2 hh), h.nok, h.todo.chg hc (fun hh => h.ne.2.2 hh), fun k s hs => (h.tsec k s hs).chg hc (fun g _ hg hh => hg.2.2.2 hh), h.tkey, hm, h.mle, h.inF, h.inQ, h.inD, h.ne, fun k hk => Nat.lt_of_lt_of_le (h.lt k hk) hc.size⟩
theorem hdV_get (g : Nat → Nat) (i : Nat) (hi : i ≤ 32) : (hdV g (i : Int)).getD (.int .i64 0) = .int .i64 (g i : Int) := by
  unfold hdV
  by_cases h : g i = 0
  · rw [if_neg (by simp [h]), h]; rfl
  · rw [if_pos ⟨by omega, by omega, by simpa using h⟩]; rfl
theorem hdV_upd (g : Nat → Nat) (i : Nat) (hi : i ≤ 32) : updM (hdV g) (i : Int) (some (.int .i64 ((g i : Int) + 1))) = hdV (updF g i (g i + 1)) := by
  funext j
  unfold updM hdV updF
  by_cases h : j = (i : Int)
  · subst h
    rw [if_pos rfl, if_pos ⟨by omega, by omega, by simp⟩]
    simp
  · rw [if_neg h]
    by_cases h2 : 0 ≤ j ∧ j ≤ 32
    · have : ¬ j.toNat = i := by omega
      simp only [this, if_false]
    · rw [if_neg (by omega), if_neg (by omega)]
set_option maxRecDepth 100000 in
set_option maxHeartbeats 1000000 in
theorem fhold_ok {w : World} {FF FD : Nat → Prop} {f p q bt bh : Nat} {zs : List Int} {X : FX} (h : FsA w FF FD f p q bt bh zs X) (g : Nat → Nat) (hg : X.hd = hdV g) (k : Nat) (hk : k < 32) (hkd : 0 < (X.ns k).kd) (hb : g (k + 1) ≤ 100) (ki : Int) (hki : ki = (k : Int) + 1) :
    Calls Tryz.prog 154 #[.pointer (some ⟨f, 0, none⟩), .int .i64 ki] w fun e w' => e = .returned (.int .i64 0) ∧ FsA w' FF FD f p q bt bh zs (X.setH (hdV (updF g (k + 1) (g (k + 1) + 1)))) ∧ Chg (One bh) w w' := by
  have HT := hid (fthere_ok h k hk ki hki hkd)
  have k197 := h.c197
  have hwf : (Lit.int .i64 ki).wf = true := wf_key (by omega) (by omega)
  have HM := h.held
  have L := HM.look (t := 135) (e := 3) (z := .int .i64 0) Tryz.underlying3 Tryz.underlying135 (by kernel_rfl) ki hwf
  have hki2 : ki = ((k + 1 : Nat) : Int) := by omega
  have e1 := hdV_get g (k + 1) (by omega)
  have e2 := hdV_upd g (k + 1) (by omega)
  rw [← hki2] at e1 e2
  rw [hg, e1] at L
  have e3 : IntKind.i64.wrap ((g (k + 1) : Int) + 1) = (g (k + 1) : Int) + 1 := IntWalk.i64_in _ (by omega)
  obtain ⟨gi, hgi⟩ : ∃ gi : Int, gi = (g (k + 1) : Int) := ⟨_, rfl⟩
  rw [← hgi] at L e2 e3
  have HS : Hid (∀ w2 n, MpAt w2 Tryz.prog 3 bh n (updM X.hd ki (some (.int .i64 (gi + 1)))) → Chg (One bh) w w2 → FsA w2 FF FD f p q bt bh zs (X.setH (hdV (updF g (k + 1) (g (k + 1) + 1)))) ∧ Chg (One bh) w w2) := by
    intro w2 n hm hc
    rw [hg, e2] at hm
    refine ⟨h.setH hc _ ((hm.small Tryz.underlying3 Tryz.underlying135 0 33 (fun i hi => ?_)).mono (by omega)), hc⟩
    unfold hdV at hi
    split at hi
    · rename_i hh; omega
    · cases hi
  replace HM := hid HM
  replace hgi := hid hgi
  clear h hg hkd hb hki hki2 e1 e2
  go_enter Tryz.func154, Tryz.ntmps154
  go_wp2_with fail
  refine HT.out.mono ?_
  rintro e w1 ⟨rfl, rfl⟩
  go_wp2_with (at_mapUpdate; refine wpList_store _ (by rfl) _ _ _ 135 (by rfl) Tryz.underlying3 Tryz.underlying135 bh 1000 X.hd (by rfl) HM.out (by omega) ki (.int .i64 (gi + 1)) (by rfl) (by rfl) hwf ?_; intro w2 q1 q2; have H2 := hid (HS.out _ _ q1 q2); clear q1 q2)
  go_ret
  exact ⟨rfl, H2.out⟩
set_option maxRecDepth 100000 in
set_option maxHeartbeats 1000000 in
theorem fpiece_ok (R : Nat → Prop) (a : Option Addr) (n c : Nat) (bs : List Int) (w : World) (h : Rd w R 1 a n c (bys bs)) (hn : n ≤ 64) :
    Calls Tryz.prog 229 #[.slice a n c, .int .i64 0, .int .i64 100] w fun e w' => ∃ a' c' G, e = .returned (.slice a' n c') ∧ Sl w' 5 1 a' n c' (bys bs) G ∧ Chg Nil w w' ∧ ∀ g, G = some g → w.heap.size ≤ g := by
  by_cases h0 : n = 0
  · subst h0
    have hb : bs = [] := List.eq_nil_of_length_eq_zero h.ilen
    subst hb
    clear h
    go_enter Tryz.func229, Tryz.ntmps229
    go_wp2
    go_ret
    exact ⟨none, 0, none, rfl, Sl.empty _ _ _ _, Chg.refl _ _, fun g hg => (by cases hg)⟩
  · obtain ⟨g, off, rfl, _, _, _⟩ := h.cellAt (by omega)
    have i1 : ¬ (0 ≥ (n : Int)) := by omega
    have i2 : (n : Int) ≤ 100 := by omega
    have i3 : (n : Int) < 100 := by omega
    have hnc : n ≤ c := h.1
    have hmn : min (n : Int) 100 = (n : Int) := by omega
    have HC := hid (clone_u8 R (some ⟨g, off, none⟩) n c (bys bs) w h (ints_one _ _) (by omega))
    clear h
    go_enter Tryz.func229, Tryz.ntmps229
    go_wp2_with fail
    refine HC.out.mono ?_
    rintro e w1 ⟨a1, c1, G1, rfl, q1, q2, q3⟩
    replace q1 := hid q1
    replace q2 := hid q2
    replace q3 := hid q3
    go_wp2
    go_ret
    exact ⟨a1, c1, G1, rfl, q1.out, q2.out, q3.out⟩
/-- What a file holds, read through a file system. -/
theorem fbytes_ok {w : World} {FF FD : Nat → Prop} {f p q bt bh : Nat} {zs : List Int} {X : FX} (h : FsA w FF FD f p q bt bh zs X) (k : Nat) (hk : k < 32) (b : List Int) (hb : entB X zs (X.ns k) = b) (hkd : (X.ns k).kd = 1) :
    Calls Tryz.prog 230 #[rdV f, .agg (X.ns k).row.toArray] w fun e w' => ∃ a c, e = .returned (.slice a b.length c) ∧ Rd w' (fun g => w.heap.size ≤ g) 1 a b.length c (bys b) ∧ Chg Nil w w' := by
  have hok : ((X.ns k).sz = 0 ↔ (X.ns k).pt = 0) ∧ (X.ns k).pt < 256 ∧ (X.ns k).sz ≤ 64 := by
    rcases h.nok k hk with hh | hh
    · rw [hh] at hkd; cases hkd
    · exact ⟨hh.2.2.2.2.2, hh.2.2.2.2.1, hh.2.2.1⟩
  have hp := h.pts k hk
  unfold entB at hb
  by_cases h0 : (X.ns k).pt = 0
  · rw [if_pos h0] at hb
    subst hb
    rcases hp with ⟨_, p1, p2⟩ | ⟨p1, _⟩
    · exact (cbytes_0 w f (X.ns k) h0 p1 p2 (hok.1.2 h0)).mono (fun e w' ⟨e1, e2⟩ => ⟨none, 0, e1, Rd.of_none _ _ _ _ _ (by decide), e2⟩)
    · omega
  · rw [if_neg h0] at hb
    rcases hp with ⟨p1, _⟩ | ⟨p1, p2⟩
    · omega
    · refine (cbytes_1 h _ (X.ns k) p1 hok.2.1 hok.2.2 p2).mono ?_
      rintro e w' ⟨a, c, G, rfl, s1, c1, hG⟩
      have hl := s1.rd.ilen
      rw [hb] at s1 hl
      rw [← hl] at s1 ⊢
      exact ⟨a, c, rfl, s1.rd.mono (fun g hg => hG g hg), c1⟩
set_option maxRecDepth 100000 in
set_option maxHeartbeats 1000000 in
theorem fread_ok {w : World} {FF FD : Nat → Prop} {f p q bt bh : Nat} {zs : List Int} {X : FX} (h : FsA w FF FD f p q bt bh zs X) (k : Nat) (hk : k < 32) (b : List Int) (hb : entB X zs (X.ns k) = b) (hkd : (X.ns k).kd = 1) (hbl : b.length ≤ 64) (ki : Int) (hki : ki = (k : Int) + 1) :
    Calls Tryz.prog 159 #[.pointer (some ⟨f, 0, none⟩), .int .i64 ki, .int .i64 0, .int .i64 100] w fun e w' => ∃ a c G, e = .returned (.tuple #[.slice a b.length c, .int .i64 0]) ∧ Sl w' 5 1 a b.length c (bys b) G ∧ Chg Nil w w' ∧ ∀ g, G = some g → w.heap.size ≤ g := by
  subst hki
  have HT := hid (ffile_ok h k hk ((k : Int) + 1) rfl hkd)
  obtain ⟨g, off, hna, _⟩ := h.nd hk
  have k1 := h.c195
  rw [hna] at k1
  have L := h.ndLoad hk hna
  have HB := fbytes_ok h k hk b hb hkd
  obtain ⟨r, hr⟩ : ∃ r, r = (X.ns k).row.toArray := ⟨_, rfl⟩
  rw [← hr] at L HB
  have i1 : (k : Int) < 32 := by omega
  obtain ⟨n, hn⟩ : ∃ n, n = b.length := ⟨_, rfl⟩
  rw [← hn] at HB hbl ⊢
  unfold rdV at HB
  replace HB := hid HB
  replace hr := hid hr
  replace hn := hid hn
  replace hna := hid hna
  clear h hb hkd
  go_enter Tryz.func159, Tryz.ntmps159
  go_wp2_with fail
  refine HT.out.mono ?_
  rintro e w1 ⟨rfl, rfl⟩
  go_wp2_with (refine wpList_load_run L (by rfl) (by rfl) (by rfl) ?_)
  refine HB.out.mono ?_
  rintro e w2 ⟨a, c, rfl, r2, c2⟩
  have HP := hid (fpiece_ok _ a n c b w2 r2 hbl)
  replace c2 := hid c2
  clear r2
  go_wp2_with fail
  refine HP.out.mono ?_
  rintro e w3 ⟨a3, c3, G3, rfl, s3, d3, g3⟩
  replace s3 := hid s3
  replace d3 := hid d3
  replace g3 := hid g3
  have hz := hid c2.out.size
  go_wp2
  go_ret2
  exact ⟨a3, c3, G3, rfl, s3.out, c2.out.trans d3.out (fun _ _ h => h), fun g hg => Nat.le_trans hz.out (g3.out g hg)⟩
end Go.Proofs.YtdcbagmgflcemaaGreatDoor
namespace Go.Proofs.YtdcbagmgflcemaaGreatDoor
open Go.ChangeShapes Go.WideShapes Go.ChangeAt Go.RowKit
set_option linter.unusedVariables false
theorem padB_len (l : List Int) (h : l.length ≤ 64) : (padB l).length = 64 := by unfold padB; rw [List.length_append, List.length_replicate]; omega
theorem padB_nil : bys (padB []) = zr 64 := rfl
theorem padB_set (l : List Int) (i : Nat) (hi : i < l.length) (hl : l.length ≤ 64) : (padB (l.take i)).set i l[i] = padB (l.take (i + 1)) := by
  have h1 : (l.take i).length = i := by rw [List.length_take]; omega
  have h2 : (l.take (i + 1)).length = i + 1 := by rw [List.length_take]; omega
  unfold padB
  rw [h1, h2, List.set_append_right _ _ (by omega), h1, Nat.sub_self, show 64 - i = (64 - (i + 1)) + 1 by omega, List.replicate_succ, List.set_cons_zero, List.take_succ_eq_append_getElem hi, List.append_assoc]
  rfl
theorem padB_same (l : List Int) (i : Nat) (hi : l.length ≤ i) : l.take (i + 1) = l.take i := by rw [List.take_of_length_le (by omega), List.take_of_length_le hi]
/-- The node's variable, while sectors are counted. -/
def WrA (w1 : World) (bn : Nat) (r : List Value) (j : Nat) (wr : World) : Prop :=
  ∃ a c G, Blk wr bn 120 (r.set 7 (.slice a j c)) ∧ Sl wr 3 1 a j c (List.replicate j (.int .i64 0)) G ∧ (∀ g, G = some g → bn < g) ∧ Chg Nil w1 wr
set_option maxRecDepth 100000 in
set_option maxHeartbeats 8000000 in
theorem fwr_ok {w : World} {FF FD : Nat → Prop} {f p q bt bh : Nat} {zs : List Int} {X : FX} (h : FsA w FF FD f p q bt bh zs X) (k : Nat) (hk : k < 32) (i : Int) (hi : i = (k : Int) + 1) (hkd : (X.ns k).kd = 1) (h0 : (X.ns k).pt = 0) (hsz : (X.ns k).sz = 0) (hm : X.m < 8) (l : List Int) (hl0 : 0 < l.length) (hl6 : l.length ≤ 64) (Rb : Nat → Prop) (ba : Option Addr) (bc : Nat) (hb : Rd w Rb 1 ba l.length bc (bys l)) :
    Calls Tryz.prog 63 #[.pointer (some ⟨f, 0, none⟩), .int .i64 i, .int .i64 0, .slice ba l.length bc] w fun e w' => e = .returned (.tuple #[.int .i64 (l.length : Int), .int .i64 0]) ∧ ∃ X' FF' s pa pc, s.l = padB l ∧ FsA w' FF' FD f p q bt bh zs X' ∧ X'.ns = updN X.ns k ((X.ns k).one l.length (53 + X.m) pa pc) ∧ X'.m = X.m + 1 ∧ X'.hd = X.hd ∧ (∀ j : Int, 53 ≤ j → X'.td j = if j = ((53 + X.m : Nat) : Int) then some s else X.td j) ∧ Chg FF w w' ∧ (∀ k, FF k → FF' k) ∧ Grew w.heap.size FF FF' := by
  have HFL := hid (ffile_ok h k hk i hi hkd)
  have HBG := hid (fbegin_ok h)
  obtain ⟨n, hn⟩ : ∃ n, n = l.length := ⟨_, rfl⟩
  rw [← hn] at hl0 hl6 hb ⊢
  have HB := hid (fun w => blocks_1 w n hl0 hl6)
  have hok := h.nok k hk
  have hkd2 : (X.ns k).up = 0 ∧ (X.ns k).md ≤ 511 ∧ (X.ns k).ln ≤ 200 := by
    rcases hok with hh | hh
    · rw [hh] at hkd; cases hkd
    · refine ⟨?_, hh.2.1, hh.2.2.2.1⟩
      rcases hh.1 with hh | hh
      · exact hh.2
      · rw [hkd] at hh; omega
  obtain ⟨d, hdd⟩ : ∃ d, d = X.ns k := ⟨_, rfl⟩
  have hd0 := h.pts k hk
  rw [← hdd] at hd0 h0 hkd hkd2 hsz ⊢
  obtain ⟨_, e1, e2⟩ : d.pt = 0 ∧ d.pa = none ∧ d.pc = 0 := by
    rcases hd0 with hd | hd
    · exact hd
    · omega
  have hr := Nd.row0 h0 e1 e2
  have hS := fun w => nd_laid d.row d.row_len d.row_one w
  obtain ⟨r, hrr⟩ : ∃ r, r = d.row := ⟨_, rfl⟩
  rw [← hrr] at hS hr
  have hl : r.length = 8 := by rw [hrr, Nd.row_len]
  have k7 : r[7]? = some (.slice none 0 0) := by rw [hr]; rfl
  have k4 : r[4]? = some (.int .i64 0) := by rw [hrr]; unfold Nd.row; rw [hsz]; rfl
  have hr7 : r.set 7 (.slice none 0 0) = r := by rw [hr]; rfl
  obtain ⟨g0, o0, hba, _, _, _⟩ := hb.cellAt hl0
  subst hba
  have HB2 := hid (fun w' (hc : Chg Nil w w') => hb.chg hc (fun _ _ _ h => h))
  have hbc := hb.1
  have v1 : ¬ ((n : Int) > 512) := by omega
  have v2 : ¬ ((0 : Int) > 512 - (n : Int)) := by omega
  have v3 : ((n : Int) == 0) = false := by rw [beq_eq_false_iff_ne]; omega
  have v4 : ((n : Int) - 1) / 64 = 0 := by omega
  have v5 : max (0 : Int) (n : Int) = (n : Int) := by omega
  have u1 : IntKind.i64.wrap (n : Int) = (n : Int) := IntWalk.i64_in _ (by omega)
  have u2 : IntKind.i64.wrap ((n : Int) - 1) = (n : Int) - 1 := IntWalk.i64_in _ (by omega)
  have u3 : IntKind.i64.wrap (512 - (n : Int)) = 512 - (n : Int) := IntWalk.i64_in _ (by omega)
  have u4 : IntKind.i64.wrap 0 = 0 := IntWalk.i64_in _ (by omega)
  replace hr := hid hr
  replace hrr := hid hrr
  replace hn := hid hn
  replace hdd := hid hdd
  replace hi := hid hi
  replace hr7 := hid hr7
  replace hkd := hid hkd
  replace hkd2 := hid hkd2
  replace hm := hid hm
  clear hd0 h e1 e2 hok hsz h0
  go_enter Tryz.func63, Tryz.ntmps63
  go_wp2_with fail
  refine HFL.out.mono ?_
  rintro e w0 ⟨rfl, rfl⟩
  go_wp2_with fail
  refine HBG.out.mono ?_
  rintro e w1 ⟨v, rfl, R, t, gn, go, gc, bd, bp, rfl, H0, c1⟩
  have HN := fnode_ok H0 k hk i hi.out
  rw [show ((⟨X.ns, X.m, fun _ => none, fun _ => none⟩ : TX).ns k) = d from hdd.out.symm, ← hrr.out] at HN
  replace HN := hid HN
  have H := hid H0
  have CW := hid c1
  clear H0 c1
  go_wp2_with fail
  refine HN.out.mono ?_
  rintro e w2 ⟨rfl, c2⟩
  have B1 := Blk.new w2 120 r
  have x7 := B1.cell 7
  have f7 := B1.frozen 7
  rw [k7] at x7
  have S1 := hS w2
  have C2 := c2.alloc (.cells r.toArray 120)
  have hbz := hid c2.size
  have B2 := B1.set 7 (.slice none 0 0)
  rw [hr7.out] at B2
  have C3 := C2.setCell (p := ⟨w2.heap.size, 7, none⟩) (.inr c2.size) (.slice none 0 0)
  generalize w2.alloc (.cells r.toArray 120) = W at S1 x7 f7 C2 C3 B1 B2
  have St : Hid (WrA w1 w2.heap.size r 0 (W.setCell ⟨w2.heap.size, 7, none⟩ (.slice none 0 0))) := hid ⟨none, 0, none, (by rw [hr7.out]; exact B2), Sl.empty _ _ _ _, fun g hg => (by cases hg), C3⟩
  clear hS c2 HN C2 C3 B1 B2
  go_wp2_with (refine wpList_store_run S1 (by rfl) (by rfl) (by rfl) (by rfl) ?_)
  refine (clone_int_nil _).mono ?_
  rintro e w3 ⟨rfl, rfl⟩
  go_wp2_with fail
  clear x7 f7 S1 k7
  go_loopw [55] (fun _ wr => ∃ j : Nat, j ≤ 1 ∧ Hid (WrA w1 w2.heap.size r j wr)) (fun _ wr => match wr.cell? ⟨w2.heap.size, 7, none⟩ with | some (.slice _ m _) => 1 - m | _ => 0)
  case atStart => exact ⟨0, by omega, St.out⟩
  case round =>
    clear St
    obtain ⟨j, hj, hA⟩ := hrel
    obtain ⟨a, c, G, BA, SA, hG, CA⟩ := hA.out
    have e7 : (r.set 7 (.slice a j c))[7]? = some (.slice a j c) := by rw [List.getElem?_set_self (by omega)]
    have y7 := BA.cell 7
    rw [e7] at y7
    have y7d := (show wr.drew.cell? ⟨w2.heap.size, 7, none⟩ = _ from y7)
    have hbl := BA.lt
    by_cases hlt : j < 1
    · have hj0 : j = 0 := by omega
      subst hj0
      have HG := hid hG
      have CA' := hid CA
      have NB := hid (Rd.of_blk (n := 1) (s := 1) (Blk.new wr.drew 3 [.int .i64 0]) rfl (by decide))
      have SB := hid ((SA.drewN 1).alloc (.cells #[.int .i64 0] 3))
      have BB := hid ((BA.drewN 1).alloc (.cells #[.int .i64 0] 3))
      have CB := hid ((CA.drewN 1).alloc (.cells #[.int .i64 0] 3))
      have hGn : Hid (G ≠ some w2.heap.size) := hid (fun hh => by have := hG _ hh; omega)
      clear hG CA BA SA hA
      go_upto_region 14 with fail
      go_region_law (go_simp; go_at_call 131; refine (HB.out _).mono ?_; rintro e w' ⟨rfl, rfl⟩)
      all_goals
        go_wp2_with (at_builtin; refine wpList_append_sl rfl _ _ eInt rfl rfl rfl SB.out NB.out (fun u hu => by simp only [List.mem_cons, List.not_mem_nil, or_false] at hu; rw [hu]; rfl) (by omega) (by omega) ?_; intro a' c' w' G' y1 y2 y3; have B3 := BB.out.chg y2 (fun hh => hGn.out hh); have z7 := B3.cell 7; rw [e7] at z7; have f7 := B3.frozen 7; replace B3 := hid B3; replace y1 := hid y1; replace y2 := hid y2; replace y3 := hid y3)
        have hG3 : ∀ g, G' = some g → w2.heap.size < g := fun g hg => by
          rcases y3.out with y3 | y3
          · rw [y3] at hg; exact HG.out g hg
          · rw [y3] at hg; injection hg with hg; rw [← hg]; show w2.heap.size < (wr.alloc _).heap.size; rw [alloc_size]; omega
        have B4 := B3.out.set 7 (.slice a' 1 c')
        rw [List.set_set] at B4
        have z4 := B4.cell 7
        rw [List.getElem?_set_self (by omega)] at z4
        refine ⟨⟨1, by omega, hid ⟨a', c', G', B4, y1.out.set_far (p := ⟨w2.heap.size, 7, none⟩) (fun hh => by have := hG3 _ hh; exact absurd this (Nat.lt_irrefl _)) _, hG3, (CB.out.trans y2.out (fun k hk hh => by have := HG.out k hh; have := hbz.out; omega)).setCell (p := ⟨w2.heap.size, 7, none⟩) (.inr hbz.out) _⟩⟩, ?_⟩
        rw [z4, y7]
        show 1 - 1 < 1 - 0
        omega
    · have hj1 : j = 1 := by omega
      subst hj1
      obtain ⟨gp, op, rfl, rfl, hltp⟩ := SA.block (by omega)
      have hgp := hG gp rfl
      have e4 : (r.set 7 (.slice (some ⟨gp, op, none⟩) 1 c))[4]? = some (.int .i64 0) := by rw [List.getElem?_set_ne (by decide)]; exact k4
      have y4 : wr.drew.cell? ⟨w2.heap.size, 4, none⟩ = some (.int .i64 0) := (BA.cell 4).trans e4
      have f4 : wr.drew.frozen? ⟨w2.heap.size, 4, none⟩ = false := BA.frozen 4
      obtain ⟨rr, hrr2⟩ : ∃ rr, rr = (d.one n 0 none 0).r7 := ⟨_, rfl⟩
      have hrr7 : rr.length = 7 := by rw [hrr2]; rfl
      have e74 : (r.set 7 (.slice (some ⟨gp, op, none⟩) 1 c)).set 4 (.int .i64 (n : Int)) = rr ++ [Value.slice (some ⟨gp, op, none⟩) 1 c] := by rw [hrr2, hrr.out]; rfl
      have B3 : Blk (wr.setCell ⟨w2.heap.size, 4, none⟩ (.int .i64 (n : Int))).drew w2.heap.size 120 _ := (BA.set 4 (.int .i64 (n : Int))).drew
      rw [e74] at B3
      have C3 : Chg Nil w1 (wr.setCell ⟨w2.heap.size, 4, none⟩ (.int .i64 (n : Int))).drew := (CA.setCell (p := ⟨w2.heap.size, 4, none⟩) (.inr hbz.out) (.int .i64 (n : Int))).drew
      have S3 : Rd (wr.setCell ⟨w2.heap.size, 4, none⟩ (.int .i64 (n : Int))).drew (Opt (some gp)) 1 (some ⟨gp, op, none⟩) 1 c [.int .i64 0] := (SA.set_far (p := ⟨w2.heap.size, 4, none⟩) (fun hh => absurd (Option.some.inj hh) (fun h3 => by have h4 : gp = w2.heap.size := h3; omega)) (.int .i64 (n : Int))).rd
      have B3' := hid B3
      have C3' := hid C3
      have S3' := hid S3
      replace hrr2 := hid hrr2
      clear B3 C3 S3 CA SA hA hG BA e74 e7
      go_upto_region 14 with fail
      go_region_law (go_simp; go_at_call 131; refine (HB.out _).mono ?_; rintro e w' ⟨rfl, rfl⟩)
      all_goals
        go_wp2_with fail
        clear y4 f4 y7 y7d e4
        generalize (wr.setCell ⟨w2.heap.size, 4, none⟩ (.int .i64 (n : Int))).drew = V at B3' C3' S3' ⊢
        go_loopw [14] (fun i wq => ∃ j : Nat, j ≤ 1 ∧ i = .int .i64 j ∧ Hid (if j = 0 then wq = V else ∃ s a' c', s.l = padB l ∧ Blk wq w2.heap.size 120 (rr ++ [Value.slice a' 1 c']) ∧ Rd wq (But R (One w2.heap.size)) 1 a' 1 c' [.int .i64 ((53 + X.m : Nat) : Int)] ∧ TxA wq FF FD f p q bt bh zs X w.heap.size (But R (One w2.heap.size)) t gn go gc bd bp ((⟨X.ns, X.m, fun _ => none, fun _ => none⟩ : TX).next.putS ((53 + X.m : Nat) : Int) s) ∧ Chg (Mt t gn bd bp) w1 wq)) (fun i _ => 1 - (intOf i).toNat)
        case atStart => exact ⟨0, by omega, rfl, hid (by rw [if_pos rfl])⟩
        case round =>
          obtain ⟨jj, hjj, rfl, hE⟩ := hrel
          by_cases hlt5 : jj < 1
          · have hj0 : jj = 0 := by omega
            subst hj0
            have hE' := hE.out
            rw [if_pos rfl] at hE'
            subst hE'
            clear hE
            obtain ⟨wv, hwv⟩ : ∃ wv, wv = wr := ⟨_, rfl⟩
            subst hwv
            have LV := load_blk (P := Tryz.prog) (ty := 120) B3'.out Tryz.underlying120 rfl (by rw [List.length_append, hrr7]; kernel_rfl)
            have HBL := hid (fblock_0 wv (.pointer (some ⟨t, 0, none⟩)) rr hrr7 (some ⟨gp, op, none⟩) c _ S3'.out)
            go_wp2_with (refine wpList_load_run LV (by rfl) (by rfl) (by rfl) ?_)
            refine HBL.out.mono ?_
            rintro e w5 ⟨rfl, SZ, c5⟩
            rw [← padB_nil] at SZ
            obtain ⟨bb, hbb⟩ : ∃ bb, bb = wv.heap.size + 1 := ⟨_, rfl⟩
            rw [← hbb] at SZ ⊢
            have SZ' := hid SZ
            have c5' := hid c5
            have hbb' := hid hbb
            clear SZ c5 hbb LV HBL
            go_wp2
            go_loopw [86] (fun i wq => ∃ q : Nat, q ≤ 64 ∧ i = .int .i64 (q : Int) ∧ Hid (Sl wq 5 1 (some ⟨bb, 0, none⟩) 64 64 (bys (padB (l.take q))) (some bb)) ∧ Hid (Chg Nil wv wq)) (fun i _ => 64 - (intOf i).toNat)
            case atStart => exact ⟨0, by omega, rfl, SZ'.out, c5'.out⟩
            case round =>
              clear SZ'
              obtain ⟨q, hq, rfl, SQ, CQ⟩ := hrel
              by_cases hq4 : q < 64
              · have i1 : (q : Int) < 64 := by omega
                have q1 : IntKind.i64.wrap (q : Int) = (q : Int) := IntWalk.i64_in _ (by omega)
                by_cases hqn : q < n
                · have i2 : (q : Int) < (n : Int) := by omega
                  have RD := HB2.out _ ((CW.out.trans C3'.out (fun _ _ h => h)).trans CQ.out (fun _ _ h => h))
                  have hql : q < l.length := by rw [← hn.out]; exact hqn
                  obtain ⟨g9, o9, e9, _, _, hcd⟩ := RD.cellAt hl0
                  obtain ⟨rfl, rfl⟩ : g0 = g9 ∧ o0 = o9 := by simpa using e9
                  have zd := hcd q hqn
                  rw [ints_get _ _ hql] at zd
                  obtain ⟨x, hx⟩ : ∃ x, x = l[q] := ⟨_, rfl⟩
                  rw [← hx] at zd
                  obtain ⟨g8, o8, e8, _, _, hcb⟩ := SQ.out.rd.cellAt (by omega)
                  obtain ⟨rfl, rfl⟩ : bb = g8 ∧ 0 = o8 := by simpa using e8
                  have zb := hcb q hq4
                  have hpl : (padB (l.take q)).length = 64 := padB_len _ (by rw [List.length_take]; omega)
                  rw [Nat.zero_add, ints_get _ _ (by rw [hpl]; exact hq4)] at zb
                  have fb := SQ.out.free q (by omega)
                  have SP := SQ.out.put (i := q) hq4 (.int .u8 x)
                  rw [Nat.zero_add, ints_set, hx, padB_set l q hql (by rw [← hn.out]; exact hl6), ← hx] at SP
                  have CP := CQ.out.setCell (p := ⟨bb, q, none⟩) (.inr (by have := hbb'.out; show wv.heap.size ≤ bb; omega)) (.int .u8 x)
                  generalize (padB (l.take q))[q] = xo at zb
                  have SP' := hid SP
                  have CP' := hid CP
                  replace hx := hid hx
                  replace hpl := hid hpl
                  clear SP CP hcd hcb RD e8 e9 SQ CQ
                  go_wp2
                  go_roundw
                  case rel => exact ⟨q + 1, by omega, by go_num, SP'.out, CP'.out⟩
                  case measure => simp [intOf]; omega
                · have i2 : ¬ (q : Int) < (n : Int) := by omega
                  go_wp2
                  go_roundw
                  case rel => exact ⟨q + 1, by omega, by go_num, hid (by rw [padB_same l q (by rw [← hn.out]; omega)]; exact SQ.out), CQ.out⟩
                  case measure => simp [intOf]; omega
              · obtain rfl : q = 64 := by omega
                have S5 := SQ.out
                rw [List.take_of_length_le (by rw [← hn.out]; exact hl6)] at S5
                have C5 := C3'.out.trans CQ.out (fun _ _ h => h)
                have B5 := B3'.out.chg CQ.out (fun h => h)
                have R5 := S3'.out.chg CQ.out (fun _ _ _ h => h)
                have hbv := B3'.out.lt
                have hqn : w2.heap.size ≠ bb := by have := hbb'.out; omega
                have TX5 := H.out.cut C5 (L := One w2.heap.size) (fun k hk => by rw [show k = w2.heap.size from hk]; exact ⟨hbz.out, B5.lt⟩)
                have SS : SecAt wr (But R (One w2.heap.size)) ⟨padB l, some ⟨bb, 0, none⟩, 64⟩ := S5.rd.mono (fun k hk => by
                  have hk' : bb = k := by injection hk
                  subst hk'
                  refine ⟨H.out.rup _ (.inr ?_), fun hh => hqn (Eq.symm hh)⟩
                  have := hbb'.out
                  have := C3'.out.size
                  omega)
                have hb1 : ¬ But R (One w2.heap.size) w2.heap.size := fun hh => hh.2 rfl
                have hb2 : ¬ FF w2.heap.size := fun hh => by have := H.out.old _ hh; have := H.out.new.1; have := H.out.lt.1; have := hbz.out; omega
                have hb3 : ¬ Mt t gn bd bp w2.heap.size := fun hh => by have := H.out.lt; have := hbz.out; rcases hh with hh | hh | hh | hh <;> omega
                have HW := hid (fwrite_0 TX5 hm.out w2.heap.size rr hrr7 _ c _ B5 R5 ⟨padB l, some ⟨bb, 0, none⟩, 64⟩ SS hb1 hb2 hb3)
                have C5' := hid C5
                clear B5 R5 SS TX5 hb1 hb2 hb3 C5 S5
                go_wp2_with fail
                refine HW.out.mono ?_
                rintro e w6 ⟨rfl, a', c', b6, r6, t6, d6⟩
                have D6 : Hid (Chg (Mt t gn bd bp) w1 w6) := hid ((C5'.out.mono (fun _ _ h => h.elim)).trans d6 (fun k hk hh => by
                  rcases hh with hh | hh
                  · exact hh
                  · have := hbz.out
                    rw [show k = w2.heap.size from hh] at hk; omega))
                replace b6 := hid b6
                replace r6 := hid r6
                replace t6 := hid t6
                clear d6 HW
                go_wp2
                go_roundw
                case rel => exact ⟨1, by omega, by go_num, hid (by rw [if_neg (by omega)]; exact ⟨⟨padB l, some ⟨bb, 0, none⟩, 64⟩, a', c', rfl, b6.out, r6.out, t6.out, D6.out⟩)⟩
                case measure => simp [intOf]
          · have hj1 : jj = 1 := by omega
            subst hj1
            have hE' := hE.out
            rw [if_neg (by omega)] at hE'
            obtain ⟨s, a', c', hsl, b6, r6, t6, d6⟩ := hE'
            clear hE
            obtain ⟨p1, hp1⟩ : ∃ p1, p1 = 53 + X.m := ⟨_, rfl⟩
            have hmm := hm.out
            have hp0 : 0 < p1 := by omega
            have hp2 : p1 < 256 := by omega
            have hrow : rr ++ [Value.slice a' 1 c'] = (d.one n p1 a' c').row := by
              rw [Nd.row1 (d := d.one n p1 a' c') hp0, hrr2.out]; rfl
            rw [hrow] at b6
            rw [← hp1] at r6 t6
            have LR := load_blk (P := Tryz.prog) (ty := 120) b6 Tryz.underlying120 rfl (by rw [Nd.row_len]; kernel_rfl)
            have HST := fset_ok t6 k hk i hi.out (d.one n p1 a' c') (.inr ⟨hp0, r6⟩) (.inr ⟨.inl ⟨hkd.out, hkd2.out.1⟩, hkd2.out.2.1, hl6, hkd2.out.2.2, hp2, by show n = 0 ↔ p1 = 0; omega⟩)
            obtain ⟨row, hro⟩ : ∃ row, row = (d.one n p1 a' c').row := ⟨_, rfl⟩
            rw [← hro] at LR HST
            replace HST := hid HST
            replace hro := hid hro
            replace d6 := hid d6
            replace hp1 := hid hp1
            replace hsl := hid hsl
            clear b6 r6 t6 hrow hmm
            go_wp2_with (refine wpList_load_run LR (by rfl) (by rfl) (by rfl) ?_)
            refine HST.out.mono ?_
            rintro e w9 ⟨rfl, h1, h2⟩
            have h1' := h1.grow H.out (Nat.le_trans d6.out.size h2.size)
            have D9 := hid (d6.out.trans h2 (fun _ _ h => h))
            have HEND := hid (fend_ok h1' (show X.m ≤ X.m + 1 by omega))
            have hin := hid h1'.fs.inF
            have hnew := hid h1'.new
            clear h1 h2 h1'
            go_wp2_with fail
            refine HEND.out.mono ?_
            rintro e w10 ⟨rfl, hX⟩
            have hX' := hid hX
            clear hX
            go_wp2
            go_ret2
            obtain ⟨X', z1, z2, z3, z4, z5, c8⟩ := hX'.out.out
            refine ⟨rfl, X', _, s, a', c', hsl.out, z5, ?_, z2, z3, fun j hj => ?_, ?_, fun k hk => .inl hk, fun k hk => hk.imp (fun h => h) (fun h => h.1)⟩
            · rw [z1, ← hp1.out]; rfl
            · rw [z4 j hj, ← hp1.out]
              show (updS (fun _ => none) ((p1 : Nat) : Int) s j).or _ = _
              unfold updS
              split <;> rfl
            · refine ((CW.out.mono (fun _ _ h => h.elim)).trans D9.out (fun k hk hh => ?_)).trans c8 (fun k hk hh => ?_)
              · have := hnew.out
                rcases hh with hh | hh | hh | hh <;> omega
              · have := hnew.out
                rcases hh with (hh | hh | hh | hh) | rfl | rfl
                · omega
                · omega
                · omega
                · omega
                · exact hin.out.1
                · exact hin.out.2.1
end Go.Proofs.YtdcbagmgflcemaaGreatDoor
namespace Go.Proofs.YtdcbagmgflcemaaGreatDoor
open Go.ChangeShapes Go.WideShapes Go.ChangeAt Go.RowKit
set_option linter.unusedVariables false
/-- The nodes when a file has these bytes. -/
def mWr (M : Nat → FM) (mx k : Nat) (l : List Int) : Nat → FM := if l.length = 0 then M else updF M k ⟨(M k).kd, (M k).md, l.length, (M k).ln, (M k).up, 53 + mx, l⟩
def mxWr (mx : Nat) (l : List Int) : Nat := if l.length = 0 then mx else mx + 1
theorem FPost.same {w w' : World} {FF FD : Nat → Prop} {f p q bt bh : Nat} {zs : List Int} {M : Nat → FM} {X : FX} (h : FsA w FF FD f p q bt bh zs X) (hM : XM X zs M) (hc : Chg Nil w w') : FPost w FF FD f p q bt bh zs M X.m X.hd w' :=
  ⟨X, FF, h.nil hc, hM, rfl, rfl, hc.mono (fun _ _ h => h.elim), fun _ h => h, Grew.refl _ _⟩
set_option maxRecDepth 100000 in
set_option maxHeartbeats 1000000 in
theorem fwr_0 {w : World} {FF FD : Nat → Prop} {f p q bt bh : Nat} {zs : List Int} {X : FX} (h : FsA w FF FD f p q bt bh zs X) (k : Nat) (hk : k < 32) (i : Int) (hi : i = (k : Int) + 1) (hkd : (X.ns k).kd = 1) (ba : Option Addr) (bc : Nat) :
    Calls Tryz.prog 63 #[.pointer (some ⟨f, 0, none⟩), .int .i64 i, .int .i64 0, .slice ba 0 bc] w fun e w' => e = .returned (.tuple #[.int .i64 0, .int .i64 0]) ∧ w' = w := by
  have HFL := hid (ffile_ok h k hk i hi hkd)
  have u3 : IntKind.i64.wrap 512 = 512 := IntWalk.i64_in _ (by omega)
  clear h hkd hi
  go_enter Tryz.func63, Tryz.ntmps63
  go_wp2_with fail
  refine HFL.out.mono ?_
  rintro e w0 ⟨rfl, rfl⟩
  go_wp2
  go_ret2
  exact ⟨rfl, rfl⟩
theorem fwm_ok {w : World} {FF FD : Nat → Prop} {f p q bt bh : Nat} {zs : List Int} {X : FX} {M : Nat → FM} (h : FsA w FF FD f p q bt bh zs X) (hM : XM X zs M) (k : Nat) (hk : k < 32) (i : Int) (hi : i = (k : Int) + 1) (hkd : (M k).kd = 1) (h0 : (M k).pt = 0) (hsz : (M k).sz = 0) (hm : X.m < 8) (l : List Int) (hl6 : l.length ≤ 64) (Rb : Nat → Prop) (ba : Option Addr) (bc : Nat) (hb : Rd w Rb 1 ba l.length bc (bys l)) :
    Calls Tryz.prog 63 #[.pointer (some ⟨f, 0, none⟩), .int .i64 i, .int .i64 0, .slice ba l.length bc] w fun e w' => e = .returned (.tuple #[.int .i64 (l.length : Int), .int .i64 0]) ∧ FPost w FF FD f p q bt bh zs (mWr M X.m k l) (mxWr X.m l) X.hd w' := by
  obtain ⟨d1, d2, d3, d4, d5, d6⟩ := hM.nd k hk
  by_cases hl : l.length = 0
  · have e1 : mWr M X.m k l = M := if_pos hl
    have e2 : mxWr X.m l = X.m := if_pos hl
    rw [e1, e2]
    have := fwr_0 h k hk i hi (d1.trans hkd) ba bc
    rw [hl] at hb ⊢
    refine this.mono ?_
    rintro e w' ⟨rfl, rfl⟩
    exact ⟨rfl, FPost.same h hM (Chg.refl _ _)⟩
  · have e1 : mWr M X.m k l = updF M k ⟨(M k).kd, (M k).md, l.length, (M k).ln, (M k).up, 53 + X.m, l⟩ := if_neg hl
    have e2 : mxWr X.m l = X.m + 1 := if_neg hl
    rw [e1, e2]
    refine (fwr_ok h k hk i hi (d1.trans hkd) (d6.trans h0) (d3.trans hsz) hm l (by omega) hl6 Rb ba bc hb).mono ?_
    rintro e w' ⟨rfl, X', FF', s, pa, pc, hs, f1, f2, f3, f4, f5, f6, f7, f8⟩
    refine ⟨rfl, X', FF', f1, hM.next k (53 + X.m) s hk (fun j hj => ?_) f5 (by rw [f3]; omega) (by rw [f3]; omega) ?_ ?_ (fun j hj hjk => ?_), f3, f4, f6, f7, f8⟩
    · rw [f2]
      unfold updN updF
      by_cases hjk : j = k
      · rw [if_pos hjk, if_pos hjk]
        exact ⟨d1, d2, rfl, d4, d5, rfl⟩
      · rw [if_neg hjk, if_neg hjk]
        exact hM.nd j hj
    · unfold updF; rw [if_pos rfl]
    · unfold updF
      rw [if_pos rfl, hs]
      exact padB_take _ _ rfl
    · unfold updF
      rw [if_neg hjk]
      refine .inr ⟨rfl, rfl, rfl, ?_⟩
      have := hM.rng j hj
      omega
end Go.Proofs.YtdcbagmgflcemaaGreatDoor
