/- Package fs: Stat, find, Look, place: what a name in a directory leads to. Conditions: a directory of at most two entries, names of one letter · package path: a walker: where it is, whether it may go on. Conditions: it stands at a directory that is there · package path: a walker goes on by pieces. Conditions: names of one letter; no links; what each piece leads to is told · package path: a way begins. Conditions: at most one mount; the first user with all capabilities; a way of at most two pieces · Package fs: enter, Hold; what a file system holds, in plain words. Conditions: a directory of at most two entries, names of one letter. -/
import Derived.Test.YtdcbagmgflcemaaGreatDoorZ36
import Derived.Test.YtdcbagmgflcemaaGreatDoorZ38
import Derived.Test.YtdcbagmgflcemaaGreatDoorZ30
import Derived.Test.YtdcbagmgflcemaaGreatDoorZ27
import Derived.Test.YtdcbagmgflcemaaGreatDoorZ31
namespace Go.Proofs.YtdcbagmgflcemaaGreatDoor
open Go.ChangeShapes Go.WideShapes Go.ChangeAt Go.RowKit
set_option linter.unusedVariables false
/-- A directory's node, and what it holds. -/
structure DirIs (X : FX) (zs : List Int) (k : Nat) (l : List En) : Prop where
  lt : k < 32
  kd : (X.ns k).kd = 2
  en : EnS l
  sz : (X.ns k).sz = 16 * l.length
  by_ : entB X zs (X.ns k) = dirB l
set_option maxRecDepth 100000 in
set_option maxHeartbeats 1000000 in
theorem fstat_ok {w : World} {FF FD : Nat → Prop} {f p q bt bh : Nat} {zs : List Int} {X : FX} (h : FsA w FF FD f p q bt bh zs X) (k : Nat) (hk : k < 32) (i : Int) (hi : i = (k : Int) + 1) (hkd : 0 < (X.ns k).kd) :
    Calls Tryz.prog 161 #[.pointer (some ⟨f, 0, none⟩), .int .i64 i] w fun e w' => e = .returned (.tuple #[.agg #[.int .i64 ((X.ns k).kd : Int), .int .i64 ((X.ns k).md : Int), .int .i64 0, .int .i64 0, .int .i64 ((X.ns k).sz : Int), .int .i64 ((X.ns k).ln : Int)], .int .i64 0]) ∧ Chg Nil w w' := by
  subst hi
  have C0 : Chg Nil w (w.alloc (.cells #[.int .i64 0, .int .i64 0, .int .i64 0, .int .i64 0, .int .i64 0, .int .i64 0] 31)) := (Chg.refl Nil w).alloc _
  have h0 := h.nil C0
  have HT := hid (fthere_ok h0 k hk _ rfl hkd)
  obtain ⟨g, off, hna, _⟩ := h0.nd hk
  have k1 := h0.c195
  rw [hna] at k1
  have L := h0.ndLoad hk hna
  have hrow : ((X.ns k).row.toArray) = #[.int .i64 ((X.ns k).kd : Int), .int .i64 ((X.ns k).md : Int), .int .i64 0, .int .i64 0, .int .i64 ((X.ns k).sz : Int), .int .i64 ((X.ns k).ln : Int), .int .i64 ((X.ns k).up : Int), .slice (X.ns k).pa (X.ns k).pn (X.ns k).pc] := rfl
  rw [hrow] at L
  have HS := hid (fun W => ndstat_ok W ((X.ns k).kd : Int) ((X.ns k).md : Int) ((X.ns k).sz : Int) ((X.ns k).ln : Int) ((X.ns k).up : Int) (.slice (X.ns k).pa (X.ns k).pn (X.ns k).pc) rfl)
  have B0 := Blk.new w 31 [.int .i64 0, .int .i64 0, .int .i64 0, .int .i64 0, .int .i64 0, .int .i64 0]
  have i1 : (k : Int) < 32 := by omega
  obtain ⟨kd, hkd'⟩ : ∃ x : Int, x = ((X.ns k).kd : Int) := ⟨_, rfl⟩
  obtain ⟨md, hmd'⟩ : ∃ x : Int, x = ((X.ns k).md : Int) := ⟨_, rfl⟩
  obtain ⟨sz, hsz'⟩ : ∃ x : Int, x = ((X.ns k).sz : Int) := ⟨_, rfl⟩
  obtain ⟨ln, hln'⟩ : ∃ x : Int, x = ((X.ns k).ln : Int) := ⟨_, rfl⟩
  rw [← hkd', ← hmd', ← hsz', ← hln'] at L HS ⊢
  clear hkd' hmd' hsz' hln' hrow hkd h
  replace C0 := hid C0
  replace B0 := hid B0
  replace h0 := hid h0
  replace hna := hid hna
  go_enter Tryz.func161, Tryz.ntmps161
  go_wp2_with fail
  refine HT.out.mono ?_
  rintro e w1 ⟨rfl, rfl⟩
  go_wp2_with (refine wpList_load_run L (by rfl) (by rfl) (by rfl) ?_)
  refine (HS.out _).mono ?_
  rintro e w1 ⟨rfl, d1⟩
  have B1 := B0.out.chg d1 (fun h => h)
  obtain ⟨S1, B2⟩ := store_blk (P := Tryz.prog) (ty := 31) B1 (vs := [.int .i64 kd, .int .i64 md, .int .i64 0, .int .i64 0, .int .i64 sz, .int .i64 ln]) rfl (by kernel_rfl) (fun u hu => by simp at hu; rcases hu with rfl | rfl | rfl | rfl | rfl | rfl <;> rfl)
  have hC := hid ((C0.out.trans d1 (fun _ _ h => h)).one (.inr (Nat.le_refl _)) (setCells_chg w1 w.heap.size 0 [.int .i64 kd, .int .i64 md, .int .i64 0, .int .i64 0, .int .i64 sz, .int .i64 ln] (One w.heap.size) rfl))
  obtain ⟨W, hW⟩ : ∃ W, W = w1.setCells w.heap.size 0 [.int .i64 kd, .int .i64 md, .int .i64 0, .int .i64 0, .int .i64 sz, .int .i64 ln] := ⟨_, rfl⟩
  rw [← hW] at S1 B2 hC
  replace hW := hid hW
  have LW := load_blk (P := Tryz.prog) (ty := 31) B2 Tryz.underlying31 rfl (by kernel_rfl)
  replace B2 := hid B2
  replace B1 := hid B1
  clear d1 L
  go_wp2_with (refine wpList_store_run S1 (by rfl) (by rfl) (by rfl) (by rfl) ?_)
  refine bodyPost_ret (results_blk2 rfl B2.out rfl Tryz.underlying31 rfl (by kernel_rfl)) rfl ?_
  exact ⟨rfl, hC.out⟩
/-- What a directory holds, as a change begins to see it. -/
theorem fents_ok {w : World} {FF FD : Nat → Prop} {f p q bt bh : Nat} {zs : List Int} {X : FX} {N : Nat} {R : Nat → Prop} {t gn go gc bd bp : Nat} {T : TX} (h : TxA w FF FD f p q bt bh zs X N R t gn go gc bd bp T) (k : Nat) (l : List En) (hd : DirIs X zs k l) (hT : T.ns k = X.ns k) (hp : T.pu ((X.ns k).pt : Int) = none) (i : Int) (hi : i = (k : Int) + 1) :
    Calls Tryz.prog 207 #[.pointer (some ⟨t, 0, none⟩), .int .i64 i] w fun e w' => ∃ a c, e = .returned (.slice a (16 * l.length) c) ∧ Rd w' (fun g => w.heap.size ≤ g) 1 a (16 * l.length) c (bys (dirB l)) ∧ Chg Nil w w' := by
  have hb := hd.by_
  have hs := hd.sz
  have hok := h.nok k hd.lt
  rw [hT] at hok
  have hsz : (X.ns k).sz = 0 ↔ (X.ns k).pt = 0 := by
    rcases hok with hh | hh
    · have := hd.kd; rw [hh] at this; cases this
    · exact hh.2.2.2.2.2
  have hlt : (X.ns k).pt < 256 ∧ (X.ns k).sz ≤ 64 := by
    rcases hok with hh | hh
    · have := hd.kd; rw [hh] at this; cases this
    · exact ⟨hh.2.2.2.2.1, hh.2.2.1⟩
  by_cases h0 : (X.ns k).pt = 0
  · have hz := hsz.2 h0
    have hl : l = [] := List.eq_nil_of_length_eq_zero (by omega)
    subst hl
    refine (fentries_0 h k hd.lt i hi (by rw [hT]; exact h0) (by rw [hT]; exact hz)).mono ?_
    rintro e w' ⟨rfl, c⟩
    exact ⟨none, 0, rfl, Rd.of_none _ _ _ _ _ (by decide), c⟩
  · refine (fentries_1 h k hd.lt i hi (by rw [hT]; omega) (by rw [hT]; exact hlt.1) (by rw [hT]; exact hlt.2) (by rw [hT]; exact hp)).mono ?_
    rintro e w' ⟨a, c, G, rfl, s1, c1, hG⟩
    rw [hT] at s1
    rw [hT, hs]
    unfold entB at hb
    rw [if_neg h0] at hb
    rw [hb, hs] at s1
    exact ⟨a, c, rfl, s1.rd.mono (fun g hg => hG g hg), c1⟩
set_option maxRecDepth 100000 in
set_option maxHeartbeats 1000000 in
theorem ffind_ok {w : World} {FF FD : Nat → Prop} {f p q bt bh : Nat} {zs : List Int} {X : FX} (h : FsA w FF FD f p q bt bh zs X) (k : Nat) (l : List En) (hd : DirIs X zs k l) (i : Int) (hi : i = (k : Int) + 1) (x : UInt8) (hx : IsNm x) :
    Calls Tryz.prog 126 #[.pointer (some ⟨f, 0, none⟩), .int .i64 i, .string ⟨#[x]⟩] w fun e w' => e = .returned (.tuple #[.int .i64 (dlk l x), .int .i64 (dle l x)]) ∧ Chg Nil w w' := by
  have HN := hid (fun W => dname_ok W x hx)
  have HD := hid (fdirectory_ok h k hd.lt i hi hd.kd)
  have HB := hid (fbegin_ok h)
  have hd' := hid hd
  have hx' := hid hx
  have hi' := hid hi
  clear h hd hx hi
  go_enter Tryz.func126, Tryz.ntmps126
  go_wp2_with fail
  refine (HN.out _).mono ?_
  rintro e w1 ⟨rfl, rfl⟩
  go_wp2_with fail
  refine HD.out.mono ?_
  rintro e w1 ⟨rfl, rfl⟩
  go_wp2_with fail
  refine HB.out.mono ?_
  rintro e w1 ⟨v, rfl, R, t, gn, go, gc, bd, bp, rfl, T1, c1⟩
  have HE := hid (fents_ok T1 k l hd'.out rfl rfl i hi'.out)
  replace c1 := hid c1
  clear T1
  go_wp2_with fail
  refine HE.out.mono ?_
  rintro e w2 ⟨a, c, rfl, r2, c2⟩
  have HF := hid (dfind_ok _ a _ c l w2 r2 rfl hd'.out.en x hx'.out)
  have C2 := hid (c1.out.trans c2 (fun _ _ h => h))
  clear r2 c2
  go_wp2_with fail
  refine HF.out.mono ?_
  rintro e w3 ⟨lo, rfl, c3⟩
  replace c3 := hid c3
  go_wp2
  go_ret2
  exact ⟨rfl, C2.out.trans c3.out (fun _ _ h => h)⟩
set_option maxRecDepth 100000 in
theorem flook_ok {w : World} {FF FD : Nat → Prop} {f p q bt bh : Nat} {zs : List Int} {X : FX} (h : FsA w FF FD f p q bt bh zs X) (k : Nat) (l : List En) (hd : DirIs X zs k l) (i : Int) (hi : i = (k : Int) + 1) (x : UInt8) (hx : IsNm x) :
    Calls Tryz.prog 60 #[.pointer (some ⟨f, 0, none⟩), .int .i64 i, .string ⟨#[x]⟩] w fun e w' => e = .returned (.tuple #[.int .i64 (dlk l x), .int .i64 (dle l x)]) ∧ Chg Nil w w' := by
  have HF := hid (ffind_ok h k l hd i hi x hx)
  clear h hd hx hi
  go_enter Tryz.func60, Tryz.ntmps60
  go_wp2_with fail
  refine HF.out.mono ?_
  rintro e w3 ⟨rfl, c3⟩
  replace c3 := hid c3
  go_wp2
  go_ret2
  exact ⟨rfl, c3.out⟩
set_option maxRecDepth 100000 in
set_option maxHeartbeats 1000000 in
theorem fplace_ok {w : World} {FF FD : Nat → Prop} {f p q bt bh : Nat} {zs : List Int} {X : FX} (h : FsA w FF FD f p q bt bh zs X) (k : Nat) (l : List En) (hd : DirIs X zs k l) (i : Int) (hi : i = (k : Int) + 1) (x : UInt8) (hx : IsNm x) (hno : dle l x = 4) (hln : 0 < (X.ns k).ln) :
    Calls Tryz.prog 208 #[.pointer (some ⟨f, 0, none⟩), .int .i64 i, .string ⟨#[x]⟩] w fun e w' => e = .returned (.int .i64 0) ∧ Chg Nil w w' := by
  have HF := hid (ffind_ok h k l hd i hi x hx)
  rw [hno] at HF
  have hkl := hd.lt
  have hkd := hid hd.kd
  have H := hid h
  clear h hd hx hno
  subst hi
  have i1 : (k : Int) < 32 := by omega
  go_enter Tryz.func208, Tryz.ntmps208
  go_wp2_with fail
  refine HF.out.mono ?_
  rintro e w1 ⟨rfl, c1⟩
  have h1 := H.out.nil c1
  have HT := hid (fthere_ok h1 k hkl ((k : Int) + 1) rfl (by have := hkd.out; omega))
  obtain ⟨g, off, hna, hc⟩ := h1.nd hkl
  have k1 := h1.c195
  rw [hna] at k1
  have k2 := hc 5 (by omega)
  simp only [Nd.row, List.getElem?_cons_zero, List.getElem?_cons_succ] at k2
  have i2 : ((X.ns k).ln : Int) > 0 := by omega
  generalize ((X.ns k).ln : Int) = ln at k2 i2
  replace c1 := hid c1
  clear hc h1 hna H hkd hln
  go_wp2_with fail
  refine HT.out.mono ?_
  rintro e w2 ⟨rfl, rfl⟩
  go_wp2
  go_ret
  exact ⟨rfl, c1.out⟩
end Go.Proofs.YtdcbagmgflcemaaGreatDoor
namespace Go.Proofs.YtdcbagmgflcemaaGreatDoor
open Go.ChangeShapes Go.WideShapes Go.ChangeAt Go.RowKit
set_option linter.unusedVariables false
/-- The file system, as path sees it. -/
def trV (f : Nat) : Value := .iface 63 (.pointer (some ⟨f, 0, none⟩))
/-- A walker: the tree, the mounts, its way. -/
structure WkA (w : World) (pw f : Nat) (mv : Value) (sa : Option Addr) (sc : Nat) (G : Option Nat) (st : List Nat) : Prop where
  blk : Blk w pw 367 [trV f, mv, .int .i64 0, .int .i64 0, .slice none 0 0, .int .i64 127, .int .i64 0, .int .i64 0, .slice sa st.length sc, .int .i64 0]
  sl : Sl w 3 1 sa st.length sc (ints .i64 (st.map fun (n : Nat) => (n : Int))) G
theorem WkA.nil {w w' : World} {pw f : Nat} {mv : Value} {sa : Option Addr} {sc : Nat} {G : Option Nat} {st : List Nat} (h : WkA w pw f mv sa sc G st) (c : Chg Nil w w') : WkA w' pw f mv sa sc G st :=
  ⟨h.blk.chg c (fun h => h), h.sl.chg c (fun _ _ h => h)⟩
set_option maxRecDepth 100000 in
set_option maxHeartbeats 1000000 in
theorem ptop_ok {w : World} {pw f : Nat} {mv : Value} {sa : Option Addr} {sc : Nat} {G : Option Nat} {st : List Nat} (h : WkA w pw f mv sa sc G st) (n : Nat) (hn : st.getLast? = some n) (hl : st.length ≤ 8) :
    Calls Tryz.prog 298 #[.pointer (some ⟨pw, 0, none⟩)] w fun e w' => e = .returned (.int .i64 (n : Int)) ∧ Chg Nil w w' := by
  have k8 := h.blk.cell 8
  simp only [List.getElem?_cons_succ, List.getElem?_cons_zero] at k8
  have h0 : 0 < st.length := by
    cases st with
    | nil => cases hn
    | cons _ _ => simp
  obtain ⟨g, off, rfl, _, _, hc⟩ := h.sl.rd.cellAt h0
  have z0 := hc (st.length - 1) (by omega)
  have hx : (ints .i64 (st.map fun (n : Nat) => (n : Int)))[st.length - 1]? = some (.int .i64 (n : Int)) := by
    rw [List.getLast?_eq_getElem?] at hn
    simp [ints, hn]
  rw [hx] at z0
  obtain ⟨m, hm⟩ : ∃ m, m = st.length := ⟨_, rfl⟩
  rw [← hm] at k8 z0 h0 hl
  have i1 : (m : Int) - 1 < (m : Int) := by omega
  have i2 : 0 ≤ (m : Int) - 1 := by omega
  have i3 : ((m : Int) - 1).toNat = m - 1 := by omega
  have i5 : (1 : Int) ≤ (m : Int) := by omega
  have i4 : IntKind.i64.wrap ((m : Int) - 1) = (m : Int) - 1 := IntWalk.i64_in _ (by omega)
  have k8d := (show w.drew.cell? ⟨pw, 8, none⟩ = _ from k8)
  have z0d := (show w.drew.cell? ⟨g, off + (m - 1), none⟩ = _ from z0)
  replace hm := hid hm
  clear h hc hx hn
  go_enter Tryz.func298, Tryz.ntmps298
  go_upto_region 1 with fail
  go_region_law (fail)
  all_goals
    go_wp2
    go_ret
    exact ⟨rfl, (Chg.refl Nil w).drew⟩
/-- A node's numbers, as Stat tells them. -/
def stN (kd md sz ln : Int) : Value := .agg #[.int .i64 kd, .int .i64 md, .int .i64 0, .int .i64 0, .int .i64 sz, .int .i64 ln]
/-- Stat's numbers laid into a variable that is new. -/
theorem st_cells {w : World} {b : Nat} (B : Blk w b 31 [.int .i64 0, .int .i64 0, .int .i64 0, .int .i64 0, .int .i64 0, .int .i64 0]) : (∀ i, w.frozen? ⟨b, i, none⟩ = false) ∧ w.cell? ⟨b, 0, none⟩ = some (.int .i64 0) ∧ w.cell? ⟨b, 1, none⟩ = some (.int .i64 0) ∧ w.cell? ⟨b, 2, none⟩ = some (.int .i64 0) ∧ w.cell? ⟨b, 3, none⟩ = some (.int .i64 0) ∧ w.cell? ⟨b, 4, none⟩ = some (.int .i64 0) ∧ w.cell? ⟨b, 5, none⟩ = some (.int .i64 0) :=
  ⟨fun i => B.frozen i, B.cell 0, B.cell 1, B.cell 2, B.cell 3, B.cell 4, B.cell 5⟩
theorem st_six {w0 w : World} {b : Nat} (md sz ln : Int) (B : Blk w b 31 [.int .i64 0, .int .i64 0, .int .i64 0, .int .i64 0, .int .i64 0, .int .i64 0]) (hb : w0.heap.size ≤ b) (C : Chg Nil w0 w) : Blk ((((((w.setCell ⟨b, 0, none⟩ (.int .i64 2)).setCell ⟨b, 1, none⟩ (.int .i64 md)).setCell ⟨b, 2, none⟩ (.int .i64 0)).setCell ⟨b, 3, none⟩ (.int .i64 0)).setCell ⟨b, 4, none⟩ (.int .i64 sz)).setCell ⟨b, 5, none⟩ (.int .i64 ln)) b 31 [.int .i64 2, .int .i64 md, .int .i64 0, .int .i64 0, .int .i64 sz, .int .i64 ln] ∧ Chg Nil w0 ((((((w.setCell ⟨b, 0, none⟩ (.int .i64 2)).setCell ⟨b, 1, none⟩ (.int .i64 md)).setCell ⟨b, 2, none⟩ (.int .i64 0)).setCell ⟨b, 3, none⟩ (.int .i64 0)).setCell ⟨b, 4, none⟩ (.int .i64 sz)).setCell ⟨b, 5, none⟩ (.int .i64 ln)) :=
  ⟨(((((B.set 0 (.int .i64 2)).set 1 (.int .i64 md)).set 2 (.int .i64 0)).set 3 (.int .i64 0)).set 4 (.int .i64 sz)).set 5 (.int .i64 ln), (((((C.setCell (p := ⟨b, 0, none⟩) (.inr hb) _).setCell (p := ⟨b, 1, none⟩) (.inr hb) _).setCell (p := ⟨b, 2, none⟩) (.inr hb) _).setCell (p := ⟨b, 3, none⟩) (.inr hb) _).setCell (p := ⟨b, 4, none⟩) (.inr hb) _).setCell (p := ⟨b, 5, none⟩) (.inr hb) _⟩
set_option maxRecDepth 100000 in
set_option maxHeartbeats 16000000 in
theorem pmay_ok {w : World} {pw f : Nat} {mv : Value} {sa : Option Addr} {sc : Nat} {G : Option Nat} {st : List Nat} (h : WkA w pw f mv sa sc G st) (n : Nat) (hn : st.getLast? = some n) (hl : st.length ≤ 8) (md sz ln : Int) (m1 : 0 ≤ md) (m2 : md ≤ 511)
    (HST : ∀ W, Chg Nil w W → Calls Tryz.prog 161 #[.pointer (some ⟨f, 0, none⟩), .int .i64 (n : Int)] W fun e W' => e = .returned (.tuple #[stN 2 md sz ln, .int .i64 0]) ∧ Chg Nil W W') :
    Calls Tryz.prog 292 #[.pointer (some ⟨pw, 0, none⟩)] w fun e w' => e = .returned (.int .i64 0) ∧ Chg Nil w w' := by
  have HT := hid (fun W (hc : Chg Nil w W) => ptop_ok (h.nil hc) n hn hl)
  have HS := hid HST
  have H := hid h
  have k0 := h.blk.cell 0
  simp only [List.getElem?_cons_zero] at k0
  have hpl := h.blk.lt
  have k0d := (show w.drew.cell? ⟨pw, 0, none⟩ = _ from k0)
  unfold trV at k0 k0d
  unfold stN at HS
  have hmS : ∀ w, (method 619 63 (.pointer (some ⟨f, 0, none⟩)) "Stat").run Tryz.prog w = .ok (161, .pointer (some ⟨f, 0, none⟩)) w := fun _ => by kernel_rfl
  clear h hn HST
  go_enter Tryz.func292, Tryz.ntmps292
  go_upto_region 1 with fail
  go_cut [3, 4] (fun s3 s4 wx => ∃ b, s3 = .pointer (some ⟨b, 0, none⟩) ∧ s4 = .int .i64 0 ∧ Hid (Blk wx b 31 [.int .i64 2, .int .i64 md, .int .i64 0, .int .i64 0, .int .i64 sz, .int .i64 ln]) ∧ Hid (Chg Nil w wx))
  case first =>
    go_region_law (first | (go_simp; go_at_call 298; refine (HT.out _ (by first | exact (Chg.refl Nil w).drew | exact ((Chg.refl Nil w).drew).alloc _ | exact ((Chg.refl Nil w).alloc _).drew)).mono ?_; rintro e w1 ⟨rfl, d1⟩; have D1 : Hid (Chg Nil w w1) := hid (by first | exact ((Chg.refl Nil w).drew).trans d1 (fun _ _ h => h) | exact (((Chg.refl Nil w).drew).alloc _).trans d1 (fun _ _ h => h) | exact (((Chg.refl Nil w).alloc _).drew).trans d1 (fun _ _ h => h)); have hp1 : pw < w1.heap.size := Nat.lt_of_lt_of_le hpl D1.out.size; have k01 : w1.cell? ⟨pw, 0, none⟩ = some (.iface 63 (.pointer (some ⟨f, 0, none⟩))) := (D1.out.cell (a := ⟨pw, 0, none⟩) hpl (fun h => h)).trans k0; (first | have B0 : Hid (Blk w1 w.heap.size 31 [.int .i64 0, .int .i64 0, .int .i64 0, .int .i64 0, .int .i64 0, .int .i64 0]) := hid (((Blk.new w 31 [.int .i64 0, .int .i64 0, .int .i64 0, .int .i64 0, .int .i64 0, .int .i64 0]).drew).chg d1 (fun h => h)) | have B0n := hid True.intro); replace d1 := hid d1) | (go_simp; refine (HS.out _ (by first | exact D1.out | exact D1.out.alloc _)).mono ?_; rintro e w2 ⟨rfl, d2⟩; have D2 : Hid (Chg Nil w w2) := hid (by first | exact D1.out.trans d2 (fun _ _ h => h) | exact (D1.out.alloc _).trans d2 (fun _ _ h => h)); (first | (have BB := hid ((Blk.new w1 31 [.int .i64 0, .int .i64 0, .int .i64 0, .int .i64 0, .int .i64 0, .int .i64 0]).chg d2 (fun h => h)); obtain ⟨qf, z0, z1, z2, z3, z4, z5⟩ := st_cells BB.out) | (have BB := hid (B0.out.chg d2 (fun h => h)); obtain ⟨qf, z0, z1, z2, z3, z4, z5⟩ := st_cells BB.out) | have BB0 := hid True.intro); replace d2 := hid d2))
    all_goals
      go_wp2
      go_meet
      first
      | (clear BB0; exact ⟨w2.heap.size, rfl, rfl, Blk.new w2 31 [.int .i64 2, .int .i64 md, .int .i64 0, .int .i64 0, .int .i64 sz, .int .i64 ln], D2.out.alloc _⟩)
      | (clear B0n; exact ⟨w1.heap.size, rfl, rfl, (st_six (w0 := w) md sz ln BB.out D1.out.size D2.out).1, (st_six (w0 := w) md sz ln BB.out D1.out.size D2.out).2⟩)
      | exact ⟨w.heap.size, rfl, rfl, (st_six (w0 := w) md sz ln BB.out (Nat.le_refl _) D2.out).1, (st_six (w0 := w) md sz ln BB.out (Nat.le_refl _) D2.out).2⟩
  case rest =>
    obtain ⟨b, rfl, rfl, BS, CS⟩ := hcut
    have HB' := H.out.nil CS.out
    have p0 := BS.out.cell 0
    have p1 := BS.out.cell 1
    have p2 := BS.out.cell 2
    have p3 := BS.out.cell 3
    have p4 := BS.out.cell 4
    have p5 := BS.out.cell 5
    have c2 := HB'.blk.cell 2
    have c3 := HB'.blk.cell 3
    have c4 := HB'.blk.cell 4
    have c5 := HB'.blk.cell 5
    have c6 := HB'.blk.cell 6
    have c7 := HB'.blk.cell 7
    simp only [List.getElem?_cons_succ, List.getElem?_cons_zero] at p0 p1 p2 p3 p4 p5 c2 c3 c4 c5 c6 c7
    have HMY := hid (fun W => mdmay_ok W 2 md sz ln 4 1 7 m1 m2 (.inr (.inr (.inr ⟨rfl, rfl⟩))) (.inl ⟨rfl, rfl⟩) an_1_7)
    unfold stV crV at HMY
    clear HB' k0 k0d
    go_upto_region 6 with fail
    go_region_law (go_simp; go_at_call 170; refine (HMY.out _).mono ?_; rintro e w3 ⟨rfl, d3⟩; replace d3 := hid d3)
    all_goals
      go_wp2
      go_ret
      exact ⟨rfl, (CS.out.drewN 1).trans d3.out (fun _ _ h => h)⟩
end Go.Proofs.YtdcbagmgflcemaaGreatDoor
namespace Go.Proofs.YtdcbagmgflcemaaGreatDoor
open Go.ChangeShapes Go.WideShapes Go.ChangeAt Go.RowKit
set_option linter.unusedVariables false
/-- What a way does: its stacks, its tops, what each piece leads to, the errors, where one comes to. -/
structure Way where
  S : Nat → List Nat
  t : Nat → Nat
  n : Nat → Nat
  e : Nat → Int
  d : Nat → Nat
  kd : Nat → Int
/-- Where a walker is after k pieces. -/
def WkR (w : World) (pw f : Nat) (mv : Value) (G0 : Option Nat) (l : List UInt8) (R : Nat → Prop) (y : Way) (k : Nat) (s1 : Value) (wr : World) : Prop :=
  ∃ A C sa sc G, s1 = .slice A (l.length - k) C ∧ Rd wr R 1 A (l.length - k) C (nmV (l.drop k)) ∧ WkA wr pw f mv sa sc G (y.S k) ∧ (G = G0 ∨ ∃ g, G = some g ∧ w.heap.size ≤ g) ∧ Chg (fun j => j = pw ∨ Opt G0 j) w wr
/-- What is left when a piece was gone. -/
theorem wk_after {w wr w1 w6 w6' w7 : World} {pw f k : Nat} {mv : Value} {G0 G G' : Option Nat} {l : List UInt8} {R : Nat → Prop} {y : Way} {A : Option Addr} {m C : Nat} {sa a' : Option Addr} {sc c' : Nat}
    (hlt : k < l.length) (hm : m = l.length - k) (RN : Rd wr R 1 A (m - 1) C (List.drop (1 * 1) (nmV (List.drop k l)))) (hRF : ∀ g, R g → g < w.heap.size ∧ g ≠ pw ∧ ¬ Opt G0 g) (hG : G = G0 ∨ ∃ g, G = some g ∧ w.heap.size ≤ g) (hGp : G ≠ some pw) (d1 : Chg Nil wr w1) (E6 : Chg Nil w1 w6) (D6 : Chg (fun j => j = pw ∨ Opt G0 j) w w6) (a6 : Chg Nil w6 w6') (hz : w6.heap.size ≤ w6'.heap.size) (hpl : pw < w6.heap.size)
    (q1 : Sl w7 3 1 a' ((y.S k).length + 1) c' (ints .i64 ((y.S k).map fun (n : Nat) => (n : Int)) ++ [.int .i64 (y.d k : Int)]) G') (q2 : Chg (Opt G) w6' w7) (q3 : G' = G ∨ G' = some w6'.heap.size) (hS : y.S (k + 1) = y.S k ++ [y.d k])
    (B7 : Blk w7 pw 367 [trV f, mv, .int .i64 0, .int .i64 0, .slice none 0 0, .int .i64 127, .int .i64 0, .int .i64 0, .slice sa (y.S k).length sc, .int .i64 0]) :
    WkR w pw f mv G0 l R y (k + 1) (.slice A (m - 1) C) (w7.setCell ⟨pw, 8, none⟩ (.slice a' ((y.S k).length + 1) c')) := by
  have hlen : (y.S (k + 1)).length = (y.S k).length + 1 := by rw [hS, List.length_append]; rfl
  have hG3 : G' ≠ some pw := fun hh => by
    rcases q3 with q3 | q3
    · exact hGp (q3.symm.trans hh)
    · rw [q3] at hh; injection hh with hh; omega
  have E7 : Chg (Opt G) wr w7 := (((d1.trans E6 (fun _ _ h => h)).trans a6 (fun _ _ h => h)).mono (fun _ _ h => h.elim)).trans q2 (fun _ _ h => h)
  have E8 : Chg (fun j => j = pw ∨ Opt G j) wr (w7.setCell ⟨pw, 8, none⟩ (.slice a' ((y.S k).length + 1) c')) := (E7.mono (G := fun j => j = pw ∨ Opt G j) (fun j _ h => .inr h)).setCell (p := ⟨pw, 8, none⟩) (.inl (.inl rfl)) _
  have D7 : Chg (fun j => j = pw ∨ Opt G0 j) w w7 := (D6.trans a6 (fun _ _ h => h.elim)).trans q2 (fun j hj hh => by
    rcases hG with hG | ⟨g, hG, hg⟩
    · rw [hG] at hh; exact .inr hh
    · rw [hG] at hh
      have : g = j := by injection hh
      omega)
  refine ⟨A, C, a', c', G', by rw [hm]; rfl, ?_, ⟨?_, ?_⟩, ?_, D7.setCell (p := ⟨pw, 8, none⟩) (.inl (.inl rfl)) _⟩
  · have e : List.drop (1 * 1) (nmV (List.drop k l)) = nmV (List.drop (k + 1) l) := by
      unfold nmV
      rw [← List.map_drop, List.drop_drop]
    rw [e] at RN
    rw [show l.length - (k + 1) = m - 1 by omega]
    refine RN.chg E8 (fun g _ hg hh => ?_)
    obtain ⟨r1, r2, r3⟩ := hRF g hg
    rcases hh with hh | hh
    · exact r2 hh
    · rcases hG with hG | ⟨g2, hG, hg2⟩
      · rw [hG] at hh; exact r3 hh
      · rw [hG] at hh
        have : g2 = g := by injection hh
        omega
  · rw [hlen]
    exact B7.set 8 _
  · rw [hlen, hS]
    have := q1.set_far (p := ⟨pw, 8, none⟩) hG3 (.slice a' ((y.S k).length + 1) c')
    have e : ints .i64 ((y.S k).map fun (n : Nat) => (n : Int)) ++ [Value.int .i64 (y.d k : Int)] = ints .i64 ((y.S k ++ [y.d k]).map fun (n : Nat) => (n : Int)) := by simp [ints]
    rw [e] at this
    exact this
  · rcases q3 with q3 | q3
    · rw [q3]; exact hG
    · exact .inr ⟨_, q3, Nat.le_trans D6.size hz⟩
set_option maxRecDepth 100000 in
set_option maxHeartbeats 8000000 in
theorem pwalk_ok {w : World} {pw f : Nat} {mv : Value} {sa : Option Addr} {sc : Nat} {G0 : Option Nat} {l : List UInt8} {R : Nat → Prop} {a : Option Addr} {c : Nat} (y : Way) (hW : WkA w pw f mv sa sc G0 (y.S 0)) (hl : l.length ≤ 2) (hnm : ∀ x, x ∈ l → IsNm x) (hR : Rd w R 1 a l.length c (nmV l)) (hRF : ∀ g, R g → g < w.heap.size ∧ g ≠ pw ∧ ¬ Opt G0 g) (hms : ∃ ma mc mn, mv = .slice ma mn mc)
    (hlen : ∀ k, k ≤ l.length → (y.S k).length ≤ 6) (htop : ∀ k, k < l.length → (y.S k).getLast? = some (y.t k))
    (HM : ∀ k, k < l.length → ∀ W, Chg (fun j => j = pw ∨ Opt G0 j) w W → ∃ md sz ln : Int, 0 ≤ md ∧ md ≤ 511 ∧ ∀ W', Chg Nil W W' → Calls Tryz.prog 161 #[.pointer (some ⟨f, 0, none⟩), .int .i64 (y.t k : Int)] W' fun e W'' => e = .returned (.tuple #[stN 2 md sz ln, .int .i64 0]) ∧ Chg Nil W' W'')
    (HL : ∀ k (hk : k < l.length), ∀ W, Chg (fun j => j = pw ∨ Opt G0 j) w W → Calls Tryz.prog 60 #[.pointer (some ⟨f, 0, none⟩), .int .i64 (y.t k : Int), .string ⟨#[l[k]]⟩] W fun e W' => e = .returned (.tuple #[.int .i64 (y.n k : Int), .int .i64 (y.e k)]) ∧ Chg Nil W W')
    (HS : ∀ k, k < l.length → y.e k = 0 → ∀ W, Chg (fun j => j = pw ∨ Opt G0 j) w W → ∃ md sz ln : Int, Calls Tryz.prog 161 #[.pointer (some ⟨f, 0, none⟩), .int .i64 (y.n k : Int)] W fun e W' => e = .returned (.tuple #[stN (y.kd k) md sz ln, .int .i64 0]) ∧ Chg Nil W W')
    (HD : ∀ k, k < l.length → y.e k = 0 → ∀ W, Chg (fun j => j = pw ∨ Opt G0 j) w W → Calls Tryz.prog 300 #[mv, .int .i64 (y.n k : Int)] W fun e W' => e = .returned (.tuple #[.int .i64 (y.d k : Int), .int .i64 0]) ∧ Chg Nil W W')
    (hkd : ∀ k, k < l.length → y.kd k = 1 ∨ y.kd k = 2) (hS : ∀ k, k < l.length → y.e k = 0 → y.S (k + 1) = y.S k ++ [y.d k])
    (fin : Int) (he : ∀ k, k < l.length → y.e k = 0 ∨ (y.e k = 4 ∧ fin = 4)) (hfin : (∀ k, k < l.length → y.e k = 0) → fin = 0) :
    Calls Tryz.prog 242 #[.pointer (some ⟨pw, 0, none⟩), .slice a l.length c, .bool true] w fun e w' => e = .returned (.int .i64 fin) ∧ Chg (fun j => j = pw ∨ Opt G0 j) w w' ∧ ∃ sa sc G, (fin = 0 → WkA w' pw f mv sa sc G (y.S l.length)) ∧ (G = G0 ∨ ∃ g, G = some g ∧ w.heap.size ≤ g) := by
  have HMh := hid HM
  have HLh := hid HL
  have HSh := hid HS
  have HDh := hid HD
  have hnm' := hid hnm
  have hRF' := hid hRF
  have hlen' := hid hlen
  have htop' := hid htop
  have hkd' := hid hkd
  have hS' := hid hS
  have he' := hid he
  have hfin' := hid hfin
  obtain ⟨ma, mc, mn, rfl⟩ := hms
  have hmL : ∀ w, (method 619 63 (.pointer (some ⟨f, 0, none⟩)) "Look").run Tryz.prog w = .ok (60, .pointer (some ⟨f, 0, none⟩)) w := fun _ => by kernel_rfl
  have hmS : ∀ w, (method 619 63 (.pointer (some ⟨f, 0, none⟩)) "Stat").run Tryz.prog w = .ok (161, .pointer (some ⟨f, 0, none⟩)) w := fun _ => by kernel_rfl
  have St : Hid (WkR w pw f (.slice ma mn mc) G0 l R y 0 (.slice a l.length c) w) := hid ⟨a, c, sa, sc, G0, rfl, hR, hW, .inl rfl, Chg.refl _ _⟩
  clear HM HL HS HD hnm hRF hlen htop hkd hS he hfin hR hW
  go_enter Tryz.func242, Tryz.ntmps242
  go_wp2
  go_loopw [1] (fun s1 wr => ∃ k : Nat, k ≤ l.length ∧ Hid (∀ j, j < k → y.e j = 0) ∧ Hid (WkR w pw f (.slice ma mn mc) G0 l R y k s1 wr)) (fun s1 _ => match s1 with | .slice _ m _ => m | _ => 0)
  case atStart => exact ⟨0, Nat.zero_le _, hid (fun j hj => absurd hj (Nat.not_lt_zero _)), St.out⟩
  case round =>
    clear St
    obtain ⟨k, hk, hz, hA⟩ := hrel
    obtain ⟨A, C, sa, sc, G, rfl, RA, WA, hG, CA⟩ := hA.out
    by_cases hlt : k < l.length
    · obtain ⟨g, off, rfl, hg1, hg2, hc⟩ := RA.cellAt (by omega)
      have z0 := hc 0 (by omega)
      clear hc
      have hx : (nmV (l.drop k))[0]? = some (.string ⟨#[l[k]]⟩) := by simp [nmV, List.getElem?_eq_getElem hlt]
      rw [hx, Nat.add_zero] at z0
      clear hx
      have hcx := hnm'.out l[k] (List.getElem_mem hlt)
      obtain ⟨x, hxx⟩ : ∃ x, x = l[k] := ⟨_, rfl⟩
      have HLk := HLh.out k hlt
      rw [← hxx] at z0 hcx HLk
      have b1 : ((⟨#[x]⟩ : ByteArray) == ⟨#[46]⟩) = false := by rcases hcx with rfl | rfl | rfl <;> rfl
      have b3 : (x == 46) = false := by rcases hcx with rfl | rfl | rfl <;> rfl
      have b2 : ((⟨#[x]⟩ : ByteArray) == ⟨#[46, 46]⟩) = false := by rcases hcx with rfl | rfl | rfl <;> rfl
      obtain ⟨m, hm⟩ : ∃ m, m = l.length - k := ⟨_, rfl⟩
      have hm0 : 0 < m := by omega
      have RN := RA.drop_n (k := 1) (by omega)
      rw [← hm] at RN RA ⊢
      have hsl := fun W => run_from eStr (some ⟨g, off, none⟩) m C 1 1 rfl (by omega) W
      obtain ⟨md, sz, ln, m1, m2, HM1⟩ := HMh.out k hlt wr CA
      have HMAY := hid (pmay_ok WA (y.t k) (htop'.out k hlt) (by have := hlen'.out k hk; omega) md sz ln m1 m2 HM1)
      have i1 : (0 : Int) < (m : Int) := by omega
      replace hxx := hid hxx
      replace hm := hid hm
      have RA' := hid RA
      have RN' := hid RN
      have WA' := hid WA
      have CA' := hid CA
      have hG' := hid hG
      have HLk' := hid HLk
      clear RA RN WA CA hG HLk HM1 m1 m2 hA hcx
      go_wp2_with fail
      refine HMAY.out.mono ?_
      rintro e w1 ⟨rfl, d1⟩
      have WA1 := WA'.out.nil d1
      have D1 := hid (CA'.out.trans d1 (fun _ _ h => h.elim))
      have k0 := WA1.blk.cell 0
      simp only [List.getElem?_cons_zero] at k0
      have hpl := WA1.blk.lt
      have k0d := (show w1.drew.cell? ⟨pw, 0, none⟩ = _ from k0)
      unfold trV at k0 k0d
      have HT := hid (fun W (hc : Chg Nil w1 W) => ptop_ok (WA1.nil hc) (y.t k) (htop'.out k hlt) (by have := hlen'.out k hk; omega))
      have WA1' := hid WA1
      replace d1 := hid d1
      clear WA1 hsl
      rcases he'.out k hlt with he0 | ⟨he4, hf4⟩
      · rw [he0] at HLk'
        have HS1 := hid (fun W hc => HSh.out k hlt he0 W hc)
        have HD1 := hid (fun W hc => HDh.out k hlt he0 W hc)
        have he0' := hid he0
        clear he0
        go_upto_region 12 with fail
        go_region_law (first | (go_simp; go_at_call 298; refine (HT.out _ (Chg.refl Nil w1).drew).mono ?_; rintro e w2 ⟨rfl, d2⟩; have D2 := hid (D1.out.trans (((Chg.refl Nil w1).drew).trans d2 (fun _ _ h => h)) (fun _ _ h => h.elim)); have E2 : Hid (Chg Nil w1 w2) := hid (((Chg.refl Nil w1).drew).trans d2 (fun _ _ h => h)); have k01 := (d2.cell (a := ⟨pw, 0, none⟩) hpl (fun h => h)).trans k0d; replace d2 := hid d2) | (go_simp; refine (HLk'.out _ D2.out).mono ?_; rintro e w3 ⟨rfl, d3⟩; have D3 := hid (D2.out.trans d3 (fun _ _ h => h.elim)); have E3 : Hid (Chg Nil w1 w3) := hid (E2.out.trans d3 (fun _ _ h => h)); replace d3 := hid d3))
        all_goals
          obtain ⟨md2, sz2, ln2, HS2⟩ := HS1.out w3 D3.out
          have HS2' := hid HS2
          obtain ⟨kdv, hkv⟩ : ∃ v, v = y.kd k := ⟨_, rfl⟩
          have hk3 : (kdv == 3) = false := by
            rw [beq_eq_false_iff_ne, hkv]
            rcases hkd'.out k hlt with h | h <;> omega
          unfold stN at HS2'
          rw [← hkv] at HS2'
          have k03 := (E3.out.cell (a := ⟨pw, 0, none⟩) hpl (fun h => h)).trans k0
          replace hkv := hid hkv
          clear HS2
          go_wp2_with fail
          refine HS2'.out.mono ?_
          rintro e w4 ⟨rfl, d4⟩
          have D4 := D3.out.trans d4 (fun _ _ h => h.elim)
          have E4 := E3.out.trans d4 (fun _ _ h => h)
          have D5 := D4.alloc (.cells #[.int .i64 kdv, .int .i64 md2, .int .i64 0, .int .i64 0, .int .i64 sz2, .int .i64 ln2] 31)
          have E5 := E4.alloc (.cells #[.int .i64 kdv, .int .i64 md2, .int .i64 0, .int .i64 0, .int .i64 sz2, .int .i64 ln2] 31)
          have HD2 := hid (HD1.out _ D5)
          have WA5 := WA1'.out.nil E5
          have y1 := WA5.blk.cell 1
          simp only [List.getElem?_cons_succ, List.getElem?_cons_zero] at y1
          have WA5' := hid WA5
          have D5' := hid D5
          have E5' := hid E5
          clear d4 D4 E4 D5 E5 WA5
          go_wp2_with fail
          refine HD2.out.mono ?_
          rintro e w6 ⟨rfl, d6⟩
          have WA6 := WA5'.out.nil d6
          have y8 := WA6.blk.cell 8
          simp only [List.getElem?_cons_succ, List.getElem?_cons_zero] at y8
          have D6 := hid (D5'.out.trans d6 (fun _ _ h => h.elim))
          have hsl6 := hlen'.out k hk
          have SB := hid (WA6.sl.alloc (.cells #[.int .i64 (y.d k : Int)] 3))
          have NB := hid (Rd.of_blk (n := 1) (s := 1) (Blk.new w6 3 [.int .i64 (y.d k : Int)]) rfl (by decide))
          have WB := hid (WA6.blk.alloc (.cells #[.int .i64 (y.d k : Int)] 3))
          have DB := hid (D6.out.alloc (.cells #[.int .i64 (y.d k : Int)] 3))
          have hGp : Hid (G ≠ some pw) := hid (WA6.sl.ne_blk WA6.blk (by decide))
          have hpl6 := WA6.blk.lt
          have E6 := hid (E5'.out.trans d6 (fun _ _ h => h))
          clear d6 WA6
          go_wp2_with (at_builtin; refine wpList_append_sl rfl _ _ eInt rfl rfl rfl SB.out NB.out (fun u hu => by simp only [List.mem_cons, List.not_mem_nil, or_false] at hu; rw [hu]; rfl) (by omega) (by omega) ?_; intro a' c' w7 G' q1 q2 q3; have B7 := WB.out.chg q2 (fun hh => hGp.out hh); have y8' := B7.cell 8; have f8 := B7.frozen 8; simp only [List.getElem?_cons_succ, List.getElem?_cons_zero] at y8'; replace B7 := hid B7; replace q1 := hid q1; replace q2 := hid q2; replace q3 := hid q3)
          have hz0 : ∀ j, j < k + 1 → y.e j = 0 := fun j hj => by
            by_cases hjk : j = k
            · rw [hjk]; exact he0'.out
            · exact hz.out j (by omega)
          refine ⟨⟨k + 1, by omega, hid hz0, hid (wk_after hlt hm.out RN'.out hRF'.out hG'.out hGp.out d1.out E6.out D6.out ((Chg.refl Nil w6).alloc _) (by rw [alloc_size]; omega) hpl6 q1.out q2.out q3.out (hS'.out k hlt he0'.out) B7.out)⟩, ?_⟩
          show m - 1 < m
          omega
      · rw [he4] at HLk'
        have hf4' := hid hf4
        clear he4
        go_upto_region 12 with fail
        go_region_law (first | (go_simp; go_at_call 298; refine (HT.out _ (Chg.refl Nil w1).drew).mono ?_; rintro e w2 ⟨rfl, d2⟩; have D2 := hid (D1.out.trans (((Chg.refl Nil w1).drew).trans d2 (fun _ _ h => h)) (fun _ _ h => h.elim)); have k01 := (d2.cell (a := ⟨pw, 0, none⟩) hpl (fun h => h)).trans k0d; replace d2 := hid d2) | (go_simp; refine (HLk'.out _ D2.out).mono ?_; rintro e w3 ⟨rfl, d3⟩; have D3 := hid (D2.out.trans d3 (fun _ _ h => h.elim)); replace d3 := hid d3))
        all_goals
          go_wp2
          go_ret
          exact ⟨by rw [hf4'.out]; rfl, D3.out, sa, sc, G, fun h0 => absurd (hf4'.out.symm.trans h0) (by decide), hG'.out⟩
    · obtain rfl : k = l.length := by omega
      have hm0 : l.length - l.length = 0 := Nat.sub_self _
      rw [hm0]
      have hf := hfin'.out hz.out
      have WA' := hid WA
      have CA' := hid CA
      have hG' := hid hG
      have hf' := hid hf
      clear RA WA CA hG hA hf hm0
      go_wp2
      go_ret
      exact ⟨by rw [hf'.out]; rfl, CA'.out, sa, sc, G, fun _ => WA'.out, hG'.out⟩
end Go.Proofs.YtdcbagmgflcemaaGreatDoor
namespace Go.Proofs.YtdcbagmgflcemaaGreatDoor
open Go.ChangeShapes Go.WideShapes Go.ChangeAt Go.RowKit
set_option linter.unusedVariables false
def stI (st : List Nat) : List Int := st.map fun (n : Nat) => (n : Int)
/-- A way that has begun. -/
def StPost (w : World) (f : Nat) (mv : Value) (st : List Nat) (l : List UInt8) (e : Ending) (w' : World) : Prop :=
  ∃ pw a c sa sc G Gl, e = .returned (.tuple #[.pointer (some ⟨pw, 0, none⟩), .slice a l.length c, .int .i64 0]) ∧ WkA w' pw f mv sa sc G st ∧ Sl w' 9 1 a l.length c (nmV l) Gl ∧ Chg Nil w w' ∧ w.heap.size ≤ pw ∧ (∀ g, G = some g → w.heap.size ≤ g) ∧ ∀ g, Gl = some g → w.heap.size ≤ g
set_option maxRecDepth 100000 in
set_option maxHeartbeats 8000000 in
theorem pstart_ok (w : World) (f : Nat) (Rm : Nat → Prop) (ma : Option Addr) (mn mc : Nat) (ms : List Mn) (hm : Rd w Rm 2 ma mn mc (moL ms)) (hmn : mn = ms.length) (hms : MoS ms) (Rc : Nat → Prop) (ca : Option Addr) (cc : Nat) (st : List Nat) (hc : Rd w Rc 1 ca st.length cc (ints .i64 (stI st))) (h0 : 0 < st.length) (h6 : st.length ≤ 4) (l : List UInt8) (hl : NmL l) :
    Calls Tryz.prog 241 #[trV f, .slice ma mn mc, crV, .slice ca st.length cc, .string (nmB l)] w fun e w' => StPost w f (.slice ma mn mc) st l e w' := by
  have CA := (Chg.refl Nil w).alloc (.cells #[.int .i64 0, .int .i64 0, .slice none 0 0, .int .i64 127, .int .i64 0, .int .i64 0] 55)
  have BA := Blk.new w 55 [.int .i64 0, .int .i64 0, .slice none 0 0, .int .i64 127, .int .i64 0, .int .i64 0]
  have HM := hid (mocheck_ok Rm ma mn mc ms _ (hm.alloc (.cells #[.int .i64 0, .int .i64 0, .slice none 0 0, .int .i64 127, .int .i64 0, .int .i64 0] 55)) hmn hms)
  have HC := hid (fun W => crcheck_ok W)
  have HK := hid (fun W (hcg : Chg Nil w W) => clone_int Rc ca st.length cc (ints .i64 (stI st)) W (hc.chg hcg (fun _ _ _ h => h)) (ints_one _ _) (by omega))
  have HS := hid (fun W => psplit_ok l hl W)
  obtain ⟨n, hn⟩ : ∃ n, n = st.length := ⟨_, rfl⟩
  obtain ⟨s, hs⟩ : ∃ s, s = nmB l := ⟨_, rfl⟩
  rw [← hn] at HK h0 h6 ⊢
  rw [← hs] at HS ⊢
  have i1 : ((n : Int) == 0) = false := by rw [beq_eq_false_iff_ne]; omega
  replace hn := hid hn
  replace hs := hid hs
  replace CA := hid CA
  replace BA := hid BA
  unfold crV at HC
  clear hm hmn hms hc hl
  unfold trV crV
  go_enter Tryz.func241, Tryz.ntmps241
  go_wp2_with fail
  refine HM.out.mono ?_
  rintro e w1 ⟨rfl, d1⟩
  have B1 := BA.out.chg d1 (fun h => h)
  have D1 := hid (CA.out.trans d1 (fun _ _ h => h))
  have L1 := load_blk (P := Tryz.prog) (ty := 55) B1 Tryz.underlying55 rfl (by kernel_rfl)
  replace B1 := hid B1
  clear d1
  go_wp2_with (refine wpList_load_run L1 (by rfl) (by rfl) (by rfl) ?_)
  refine (HC.out _).mono ?_
  rintro e w2 ⟨rfl, d2⟩
  have B2 := hid (B1.out.chg d2 (fun h => h))
  have D2 := hid (D1.out.trans d2 (fun _ _ h => h))
  clear L1 d2
  go_wp2_with fail
  refine (HS.out _).mono ?_
  rintro e w3 ⟨a3, c3, G3, rfl, s3, d3, g3⟩
  have B3 := B2.out.chg d3 (fun h => h)
  have D3 := D2.out.trans d3 (fun _ _ h => h)
  have hz2 := hid D2.out.size
  have k0 := B3.cell 0
  have k1 := B3.cell 1
  have k2 := B3.cell 2
  have k3 := B3.cell 3
  have k4 := B3.cell 4
  have k5 := B3.cell 5
  simp only [List.getElem?_cons_succ, List.getElem?_cons_zero] at k0 k1 k2 k3 k4 k5
  have HKK := hid (HK.out w3.drew D3.drew)
  have B3' := hid B3
  have D3' := hid D3
  replace s3 := hid s3
  replace g3 := hid g3
  clear d3 B3 D3
  go_upto_region 12 with fail
  go_region_law (go_simp; go_at_call 130; refine HKK.out.mono ?_; rintro e w4 ⟨a4, c4, G4, rfl, s4, d4, g4⟩; have B4 := (B3'.out.drewN 1).chg d4 (fun h => h); have z0 := B4.cell 0; have z1 := B4.cell 1; have z2 := B4.cell 2; have z3 := B4.cell 3; have z4 := B4.cell 4; have z5 := B4.cell 5; simp only [List.getElem?_cons_succ, List.getElem?_cons_zero] at z0 z1 z2 z3 z4 z5; have D4 := hid ((D3'.out.drewN 1).trans d4 (fun _ _ h => h)); have S4 := hid s4; have G4' := hid g4; have S34 := hid ((s3.out.drewN 1).chg d4 (fun _ _ h => h)); replace B4 := hid B4; clear d4 s4 g4)
  all_goals
    go_wp2
    go_ret3
    obtain rfl := hn.out
    have hz3 := D3'.out.size
    have hz4 := D4.out.size
    exact ⟨w4.heap.size, a3, c3, a4, c4, G4, G3, rfl, ⟨Blk.new w4 367 [trV f, .slice ma mn mc, .int .i64 0, .int .i64 0, .slice none 0 0, .int .i64 127, .int .i64 0, .int .i64 0, .slice a4 st.length c4, .int .i64 0], S4.out.alloc _⟩, S34.out.alloc _, D4.out.alloc _, hz4, fun g hg => Nat.le_trans hz3 (G4'.out g hg), fun g hg => Nat.le_trans hz2.out (g3.out g hg)⟩
/-- What a way meets, in a world and in all that grow of it. -/
structure WayOk (w : World) (f : Nat) (mv : Value) (l : List UInt8) (y : Way) (fin : Int) : Prop where
  len : ∀ k, k ≤ l.length → (y.S k).length ≤ 6
  top : ∀ k, k < l.length → (y.S k).getLast? = some (y.t k)
  may : ∀ k, k < l.length → ∀ W, Chg Nil w W → ∃ md sz ln : Int, 0 ≤ md ∧ md ≤ 511 ∧ ∀ W', Chg Nil W W' → Calls Tryz.prog 161 #[.pointer (some ⟨f, 0, none⟩), .int .i64 (y.t k : Int)] W' fun e W'' => e = .returned (.tuple #[stN 2 md sz ln, .int .i64 0]) ∧ Chg Nil W' W''
  look : ∀ k (hk : k < l.length), ∀ W, Chg Nil w W → Calls Tryz.prog 60 #[.pointer (some ⟨f, 0, none⟩), .int .i64 (y.t k : Int), .string ⟨#[l[k]]⟩] W fun e W' => e = .returned (.tuple #[.int .i64 (y.n k : Int), .int .i64 (y.e k)]) ∧ Chg Nil W W'
  stat : ∀ k, k < l.length → y.e k = 0 → ∀ W, Chg Nil w W → ∃ md sz ln : Int, Calls Tryz.prog 161 #[.pointer (some ⟨f, 0, none⟩), .int .i64 (y.n k : Int)] W fun e W' => e = .returned (.tuple #[stN (y.kd k) md sz ln, .int .i64 0]) ∧ Chg Nil W W'
  down : ∀ k, k < l.length → y.e k = 0 → ∀ W, Chg Nil w W → Calls Tryz.prog 300 #[mv, .int .i64 (y.n k : Int)] W fun e W' => e = .returned (.tuple #[.int .i64 (y.d k : Int), .int .i64 0]) ∧ Chg Nil W W'
  kd : ∀ k, k < l.length → y.kd k = 1 ∨ y.kd k = 2
  S : ∀ k, k < l.length → y.e k = 0 → y.S (k + 1) = y.S k ++ [y.d k]
  e : ∀ k, k < l.length → y.e k = 0 ∨ (y.e k = 4 ∧ fin = 4)
  fin : (∀ k, k < l.length → y.e k = 0) → fin = 0
theorem NmL.nm {l : List UInt8} (h : NmL l) : ∀ x, x ∈ l → IsNm x := by
  rcases h with rfl | rfl | rfl | rfl <;> intro c hc <;> simp at hc <;> unfold IsNm <;> rcases hc with rfl | rfl <;> simp
theorem NmL.len {l : List UInt8} (h : NmL l) : l.length ≤ 2 := by rcases h with rfl | rfl | rfl | rfl <;> simp
theorem Sl.ne_sl {w : World} {e e' : TypeId} {s s' n n' c c' : Nat} {a a' : Option Addr} {xs xs' : List Value} {G G' : Option Nat} (h : Sl w e s a n c xs G) (h' : Sl w e' s' a' n' c' xs' G') (hne : e ≠ e') : ∀ g, G = some g → G' = some g → False := by
  intro g hg hg'
  obtain ⟨_, _, _, ⟨_, hG⟩ | ⟨g1, off, cur, _, hG, hh, _, _⟩⟩ := h
  · rw [hG] at hg; cases hg
  obtain ⟨_, _, _, ⟨_, hG'⟩ | ⟨g2, off', cur', _, hG', hh', _, _⟩⟩ := h'
  · rw [hG'] at hg'; cases hg'
  rw [hG] at hg
  rw [hG'] at hg'
  injection hg with hg
  injection hg' with hg'
  subst hg
  rw [hg', hh] at hh'
  injection hh' with hh'
  injection hh' with _ hh'
  exact hne hh'
/-- A way goes on: what is told of it is of use. -/
theorem way_go {w w1 : World} {f pw : Nat} {mv : Value} {l : List UInt8} {y : Way} {fin : Int} (hy : WayOk w f mv l y fin) (hl : l.length ≤ 2) (hnm : ∀ x, x ∈ l → IsNm x) (hms : ∃ ma mc mn, mv = .slice ma mn mc) {a sa : Option Addr} {c sc : Nat} {G Gl : Option Nat} (W1 : WkA w1 pw f mv sa sc G (y.S 0)) (S1 : Sl w1 9 1 a l.length c (nmV l) Gl) (D1 : Chg Nil w w1) (g1 : w.heap.size ≤ pw) (g2 : ∀ g, G = some g → w.heap.size ≤ g) :
    Calls Tryz.prog 242 #[.pointer (some ⟨pw, 0, none⟩), .slice a l.length c, .bool true] w1 fun e w' => e = .returned (.int .i64 fin) ∧ Chg Nil w w' ∧ Chg (fun j => j = pw ∨ Opt G j) w1 w' ∧ ∃ sa sc G, (fin = 0 → WkA w' pw f mv sa sc G (y.S l.length)) ∧ ∀ g, G = some g → w.heap.size ≤ g := by
  have hcv : ∀ W, Chg (fun j => j = pw ∨ Opt G j) w1 W → Chg Nil w W := fun W h => D1.trans h (fun k hk hh => by
    rcases hh with hh | hh
    · omega
    · have := g2 k hh; omega)
  refine (pwalk_ok (R := Opt Gl) (a := a) (c := c) y W1 hl hnm S1.rd (fun g hg => ⟨S1.lt g hg, fun hh => S1.ne_blk W1.blk (by decide) (by rw [← hh]; exact hg), fun hh => S1.ne_sl W1.sl (by decide) g hg hh⟩) hms hy.len hy.top (fun k hk W hc => hy.may k hk W (hcv W hc)) (fun k hk W hc => hy.look k hk W (hcv W hc)) (fun k hk he W hc => hy.stat k hk he W (hcv W hc)) (fun k hk he W hc => hy.down k hk he W (hcv W hc)) hy.kd hy.S fin hy.e hy.fin).mono ?_
  rintro e w' ⟨rfl, c1, sa', sc', G', h1, h2⟩
  refine ⟨rfl, hcv _ c1, c1, sa', sc', G', h1, fun g hg => ?_⟩
  rcases h2 with h2 | ⟨g', h2, h3⟩
  · exact g2 g (by rw [← h2]; exact hg)
  · rw [h2] at hg
    injection hg with hg
    rw [← hg]
    exact Nat.le_trans D1.size h3
set_option maxRecDepth 100000 in
set_option maxHeartbeats 4000000 in
theorem pWalk_ok (w : World) (f : Nat) (Rm : Nat → Prop) (ma : Option Addr) (mn mc : Nat) (ms : List Mn) (hm : Rd w Rm 2 ma mn mc (moL ms)) (hmn : mn = ms.length) (hms : MoS ms) (Rc : Nat → Prop) (ca : Option Addr) (cc : Nat) (st : List Nat) (hc : Rd w Rc 1 ca st.length cc (ints .i64 (stI st))) (h0 : 0 < st.length) (h6 : st.length ≤ 4) (l : List UInt8) (hl : NmL l) (y : Way) (fin : Int) (hy : WayOk w f (.slice ma mn mc) l y fin) (hy0 : y.S 0 = st) (hf : fin = 0 ∨ fin = 4) :
    Calls Tryz.prog 169 #[trV f, .slice ma mn mc, crV, .slice ca st.length cc, .string (nmB l), .bool true] w fun e w' => (fin = 4 → e = .returned (.tuple #[.slice none 0 0, .int .i64 4])) ∧ (fin = 0 → ∃ a c G, e = .returned (.tuple #[.slice a (y.S l.length).length c, .int .i64 0]) ∧ Sl w' 3 1 a (y.S l.length).length c (ints .i64 (stI (y.S l.length))) G ∧ ∀ g, G = some g → w.heap.size ≤ g) ∧ Chg Nil w w' := by
  have CA := (Chg.refl Nil w).alloc (.cells #[.int .i64 0, .int .i64 0, .slice none 0 0, .int .i64 127, .int .i64 0, .int .i64 0] 55)
  have BA := Blk.new w 55 [.int .i64 0, .int .i64 0, .slice none 0 0, .int .i64 127, .int .i64 0, .int .i64 0]
  have HST := hid (pstart_ok _ f Rm ma mn mc ms (hm.chg CA (fun _ _ _ h => h)) hmn hms Rc ca cc st (hc.chg CA (fun _ _ _ h => h)) h0 h6 l hl)
  have L1 := load_blk (P := Tryz.prog) (ty := 55) BA Tryz.underlying55 rfl (by kernel_rfl)
  have HY := hid hy
  have hl2 := hid hl.len
  have hnm := hid hl.nm
  obtain ⟨n, hn⟩ : ∃ n, n = st.length := ⟨_, rfl⟩
  obtain ⟨s, hs⟩ : ∃ s, s = nmB l := ⟨_, rfl⟩
  rw [← hn, ← hs] at HST ⊢
  replace hn := hid hn
  replace hs := hid hs
  replace CA := hid CA
  replace hy0 := hid hy0
  replace hf := hid hf
  unfold trV crV at HST
  clear hm hmn hms hc hl hy BA
  unfold trV crV
  go_enter Tryz.func169, Tryz.ntmps169
  go_wp2_with (refine wpList_load_run L1 (by rfl) (by rfl) (by rfl) ?_)
  refine HST.out.mono ?_
  rintro e w1 ⟨pw, a, c, sa, sc, G, Gl, rfl, W1, S1, d1, g1, g2, g3⟩
  have D1 := CA.out.trans d1 (fun _ _ h => h)
  have hz0 : w.heap.size ≤ (w.alloc (.cells #[.int .i64 0, .int .i64 0, .slice none 0 0, .int .i64 127, .int .i64 0, .int .i64 0] 55)).heap.size := CA.out.size
  rw [← hy0.out] at W1
  have HW := hid (way_go HY.out hl2.out hnm.out ⟨ma, mc, mn, rfl⟩ W1 S1 D1 (Nat.le_trans hz0 g1) (fun g hg => Nat.le_trans hz0 (g2 g hg)))
  clear W1 S1 d1 g1 g2 g3 D1 L1
  go_wp2_with fail
  refine HW.out.mono ?_
  rintro e w2 ⟨rfl, c2, _, sa2, sc2, G2, hw2, hg2⟩
  rcases hf.out with rfl | rfl
  · have W2 := hw2 rfl
    have y8 := W2.blk.cell 8
    simp only [List.getElem?_cons_succ, List.getElem?_cons_zero] at y8
    have HC := hid (clone_int _ _ _ _ _ w2 W2.sl.rd (ints_one _ _) (by have := HY.out.len l.length (Nat.le_refl _); omega))
    replace c2 := hid c2
    clear W2 hw2 hg2
    go_wp2_with fail
    refine HC.out.mono ?_
    rintro e w3 ⟨a3, c3, G3, rfl, s3, d3, g3⟩
    have hz2 := hid c2.out.size
    replace s3 := hid s3
    replace d3 := hid d3
    replace g3 := hid g3
    go_wp2
    go_ret2
    exact ⟨⟨a3, c3, rfl, G3, s3.out, fun g hg => Nat.le_trans hz2.out (g3.out g hg)⟩, c2.out.trans d3.out (fun _ _ h => h)⟩
  · replace c2 := hid c2
    clear hw2 hg2
    go_wp2
    go_ret2
    exact ⟨rfl, c2.out⟩
end Go.Proofs.YtdcbagmgflcemaaGreatDoor
namespace Go.Proofs.YtdcbagmgflcemaaGreatDoor
open Go.ChangeShapes Go.WideShapes Go.ChangeAt Go.RowKit
set_option linter.unusedVariables false
/-- A node in plain words: its numbers, its sector, its bytes. -/
structure FM where
  kd : Nat
  md : Nat
  sz : Nat
  ln : Nat
  up : Nat
  pt : Nat
  b : List Int
def FMn (d : Nd) (m : FM) : Prop := d.kd = m.kd ∧ d.md = m.md ∧ d.sz = m.sz ∧ d.ln = m.ln ∧ d.up = m.up ∧ d.pt = m.pt
/-- A file system in plain words. -/
structure XM (X : FX) (zs : List Int) (M : Nat → FM) : Prop where
  nd : ∀ k, k < 32 → FMn (X.ns k) (M k)
  by_ : ∀ k, k < 32 → entB X zs (X.ns k) = (M k).b
  rng : ∀ k, k < 32 → (M k).pt = 0 ∨ (53 ≤ (M k).pt ∧ (M k).pt < 53 + X.m)
  apart : ∀ j k, j < 32 → k < 32 → j ≠ k → (M j).pt = 0 ∨ (M j).pt ≠ (M k).pt
/-- A directory in plain words. -/
structure DirM (M : Nat → FM) (k : Nat) (l : List En) : Prop where
  lt : k < 32
  kd : (M k).kd = 2
  en : EnS l
  sz : (M k).sz = 16 * l.length
  by_ : (M k).b = dirB l
theorem XM.dir {X : FX} {zs : List Int} {M : Nat → FM} (h : XM X zs M) {k : Nat} {l : List En} (hd : DirM M k l) : DirIs X zs k l :=
  ⟨hd.lt, (h.nd k hd.lt).1.trans hd.kd, hd.en, (h.nd k hd.lt).2.2.1.trans hd.sz, (h.by_ k hd.lt).trans hd.by_⟩
def nxT (T : TX) (pt : Nat) : TX := if pt = 0 then T.next else T
def nxP (T : TX) (pt : Nat) : Nat := if pt = 0 then 53 + T.m else pt
set_option maxRecDepth 100000 in
set_option maxHeartbeats 1000000 in
theorem fenter_ok {w : World} {FF FD : Nat → Prop} {f p q bt bh : Nat} {zs : List Int} {X : FX} {N : Nat} {R : Nat → Prop} {t gn go gc bd bp : Nat} {T : TX} (h : TxA w FF FD f p q bt bh zs X N R t gn go gc bd bp T) (k : Nat) (l : List En) (hd : DirIs X zs k l) (hT : T.ns k = X.ns k) (hp : T.pu ((X.ns k).pt : Int) = none) (i : Int) (hi : i = (k : Int) + 1)
    (x : En) (hno : dle l x.c = 4) (hs : EnS (l ++ [x])) (hm : T.m < 8) (hpt : (X.ns k).pt = 0 ∨ (53 ≤ (X.ns k).pt ∧ (X.ns k).pt < 53 + T.m)) :
    Calls Tryz.prog 211 #[.pointer (some ⟨t, 0, none⟩), .int .i64 i, .string ⟨#[x.c]⟩, .int .i64 (x.i : Int)] w fun e w' => e = .returned (.int .i64 0) ∧ FiPost w FF FD f p q bt bh zs X N R t gn go gc bd bp T (nxT T (X.ns k).pt) k (nxP T (X.ns k).pt) (dirB (l ++ [x])) w' := by
  have HE := hid (fents_ok h k l hd hT hp i hi)
  have hlen : (dirB (l ++ [x])).length = 16 * (l.length + 1) := by rw [dirB_len hs, List.length_append]; rfl
  have hl2 : l.length + 1 ≤ 2 := by have := hs.len; rw [List.length_append] at this; exact this
  have hok := h.nok k hd.lt
  have hkd : ((T.ns k).kd = 1 ∧ (T.ns k).up = 0 ∨ (T.ns k).kd = 2 ∧ 1 ≤ (T.ns k).up ∧ (T.ns k).up ≤ 32) ∧ (T.ns k).md ≤ 511 ∧ (T.ns k).ln ≤ 200 := by
    rcases hok with hh | hh
    · have := hd.kd; rw [← hT, hh] at this; cases this
    · exact ⟨hh.1, hh.2.1, hh.2.2.2.1⟩
  have HFI : Hid (∀ (W : World) (Rb : Nat → Prop) (a : Option Addr) (c : Nat), Chg Nil w W → Rd W Rb 1 a (16 * (l.length + 1)) c (bys (dirB (l ++ [x]))) → Calls Tryz.prog 210 #[.pointer (some ⟨t, 0, none⟩), .int .i64 i, .slice a (16 * (l.length + 1)) c] W fun e w' => e = .returned (.tuple #[]) ∧ FiPost w FF FD f p q bt bh zs X N R t gn go gc bd bp T (nxT T (X.ns k).pt) k (nxP T (X.ns k).pt) (dirB (l ++ [x])) w') := by
    intro W Rb a c hc hr
    rw [← hlen] at hr ⊢
    have key : ∀ {T1 : TX} {p1 : Nat} {w' : World}, FiPost W FF FD f p q bt bh zs X N R t gn go gc bd bp T T1 k p1 (dirB (l ++ [x])) w' → FiPost w FF FD f p q bt bh zs X N R t gn go gc bd bp T T1 k p1 (dirB (l ++ [x])) w' := by
      rintro T1 p1 w' ⟨s, pa, pc, y1, y2, y3⟩
      exact ⟨s, pa, pc, y1, y2, (hc.mono (fun _ _ h => h.elim)).trans y3 (fun _ _ h => h)⟩
    by_cases h0 : (X.ns k).pt = 0
    · unfold nxT nxP
      rw [if_pos h0, if_pos h0]
      exact (ffill_B (h.nil hc) k hd.lt i hi (by rw [hT]; exact h0) hm _ (by omega) (by omega) hkd Rb a c hr).mono (fun e w' ⟨y1, y2⟩ => ⟨y1, key y2⟩)
    · unfold nxT nxP
      rw [if_neg h0, if_neg h0]
      have := ffill_C (h.nil hc) k hd.lt i hi (by rw [hT]; omega) (dirB (l ++ [x])) (by omega) (by omega) hkd Rb a c hr
      rw [hT] at this
      exact this.mono (fun e w' ⟨y1, y2⟩ => ⟨y1, key y2⟩)
  have hen := hid hd.en
  have hno' := hid hno
  have hs' := hid hs
  clear h hd hT hp hno hs hlen hok hkd hpt hm hi
  go_enter Tryz.func211, Tryz.ntmps211
  go_wp2_with fail
  refine HE.out.mono ?_
  rintro e w1 ⟨a, c, rfl, r1, c1⟩
  have HP := hid (dput_ok _ a _ c l w1 r1 rfl hen.out x hno'.out hs'.out)
  replace c1 := hid c1
  clear r1
  go_wp2_with fail
  refine HP.out.mono ?_
  rintro e w2 ⟨a2, c2, G, rfl, s2, d2, g2⟩
  have HG := hid (HFI.out w2 _ a2 c2 (c1.out.trans d2 (fun _ _ h => h)) s2.rd)
  clear s2 d2 g2
  go_wp2_with fail
  refine HG.out.mono ?_
  rintro e w3 ⟨rfl, hpost⟩
  replace hpost := hid hpost
  go_wp2
  go_ret
  exact ⟨rfl, hpost.out⟩
theorem padB_take (l : List Int) (n : Nat) (h : n = l.length) : (padB l).take n = l := by
  unfold padB
  rw [h, List.take_left]
/-- A sector more, or another one: what is left in plain words. -/
theorem XM.next {X X' : FX} {zs : List Int} {M M' : Nat → FM} (h : XM X zs M) (k p1 : Nat) (s : Sec) (hk : k < 32) (h1 : ∀ j, j < 32 → FMn (X'.ns j) (M' j)) (h2 : ∀ i : Int, 53 ≤ i → X'.td i = if i = (p1 : Int) then some s else X.td i)
    (hp : 53 ≤ p1 ∧ p1 < 53 + X'.m) (hm : X.m ≤ X'.m) (hk1 : (M' k).pt = p1) (hk2 : s.l.take (M' k).sz = (M' k).b)
    (ho : ∀ j, j < 32 → j ≠ k → ((M' j).pt = 0 ∧ (M' j).b = []) ∨ ((M' j).pt = (M j).pt ∧ (M' j).sz = (M j).sz ∧ (M' j).b = (M j).b ∧ (M j).pt ≠ p1)) : XM X' zs M' := by
  refine ⟨h1, fun j hj => ?_, fun j hj => ?_, fun i j hi hj hij => ?_⟩
  · obtain ⟨e1, e2, e3, e4, e5, e6⟩ := h1 j hj
    unfold entB FX.sec
    by_cases hjk : j = k
    · subst hjk
      rw [e6, e3, hk1, if_neg (by omega), h2 _ (by omega), if_pos rfl]
      exact hk2
    · rcases ho j hj hjk with ⟨o1, o2⟩ | ⟨o1, o2, o3, o4⟩
      · rw [e6, o1, if_pos rfl, o2]
      · have hb := h.by_ j hj
        obtain ⟨d1, d2, d3, d4, d5, d6⟩ := h.nd j hj
        unfold entB FX.sec at hb
        rw [d6, d3] at hb
        rw [e6, e3, o1, o2, o3]
        rcases h.rng j hj with hr | hr
        · rw [if_pos hr] at hb ⊢
          exact hb
        · rw [if_neg (by omega)] at hb ⊢
          rw [h2 _ (by omega), if_neg (by omega)]
          exact hb
  · by_cases hjk : j = k
    · subst hjk; rw [hk1]; exact .inr hp
    · rcases ho j hj hjk with ⟨o1, _⟩ | ⟨o1, _, _, _⟩
      · exact .inl o1
      · rw [o1]
        rcases h.rng j hj with hr | hr
        · exact .inl hr
        · exact .inr (by omega)
  · by_cases hik : i = k
    · subst hik
      rcases ho j hj (fun hh => hij hh.symm) with ⟨o1, _⟩ | ⟨o1, _, _, o4⟩
      · rw [hk1, o1]; exact .inr (by omega)
      · rw [hk1, o1]; exact .inr (fun hh => o4 hh.symm)
    · rcases ho i hi hik with ⟨o1, _⟩ | ⟨o1, _, _, o4⟩
      · exact .inl o1
      · by_cases hjk : j = k
        · subst hjk
          rw [hk1, o1]
          exact .inr o4
        · rcases ho j hj hjk with ⟨p1', _⟩ | ⟨p1', _, _, _⟩
          · rw [o1, p1']
            rcases h.rng i hi with hr | hr
            · exact .inl hr
            · exact .inr (by omega)
          · rw [o1, p1']
            exact h.apart i j hi hj hij
/-- What a change leaves. -/
def FPost (w : World) (FF FD : Nat → Prop) (f p q bt bh : Nat) (zs : List Int) (M : Nat → FM) (m : Nat) (hd : Int → Option Value) (w' : World) : Prop :=
  ∃ X FF', FsA w' FF' FD f p q bt bh zs X ∧ XM X zs M ∧ X.m = m ∧ X.hd = hd ∧ Chg FF w w' ∧ (∀ k, FF k → FF' k) ∧ Grew w.heap.size FF FF'
end Go.Proofs.YtdcbagmgflcemaaGreatDoor
