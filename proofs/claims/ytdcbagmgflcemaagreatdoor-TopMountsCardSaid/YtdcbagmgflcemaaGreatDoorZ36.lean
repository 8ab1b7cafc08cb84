/- Package inode: a node that is there, as bytes. Conditions: a node as package inode lets it be · Package fs: a node's bytes; a sector has something, if it hasn't. Conditions: a change that has begun · Package fs: what there will be is there. Conditions: a change that has begun, without limits on users · Package fs: a change ends. Conditions: a change that has begun, without limits on users, with nothing given back. -/
import Derived.Test.YtdcbagmgflcemaaGreatDoorZ35
import Derived.Deep.CutBlock
import Derived.Test.YtdcbagmgflcemaaGreatDoorZ13
namespace Go.Proofs.YtdcbagmgflcemaaGreatDoor
open Go.ChangeShapes Go.WideShapes Go.ChangeAt Go.RowKit
set_option linter.unusedVariables false
/-- The first nine bytes. -/
def b9 (kd md sz ln up : Nat) : List Int := [(kd : Int), ((md % 256 : Nat) : Int), ((md / 256 : Nat) : Int), 0, 0, ((sz % 256 : Nat) : Int), ((sz / 256 : Nat) : Int), (ln : Int), (up : Int)]
set_option maxRecDepth 100000 in
set_option maxHeartbeats 4000000 in
theorem ndpack_any (w : World) (kd md sz ln up n : Nat) (a : Option Addr) (c : Nat) (hk : kd = 1 ∧ up = 0 ∨ kd = 2 ∧ 1 ≤ up ∧ up ≤ 32) (h1 : md ≤ 511) (h2 : sz ≤ 64) (h3 : ln ≤ 200) (pb : List Int) (hpb : pb.length = 16)
    (hR : ∀ w', Chg Nil w w' → Calls Tryz.prog 190 #[.slice a n c] w' fun e w'' => e = .returned (.int .i64 0) ∧ w' = w'') (hB : ∀ w', Calls Tryz.prog 131 #[.int .i64 (sz : Int)] w' fun e w'' => e = .returned (.int .i64 (n : Int)) ∧ w' = w'')
    (hP : ∀ w', Chg Nil w w' → Calls Tryz.prog 111 #[.slice a n c] w' fun e w'' => ∃ b, e = .returned (.tuple #[.slice (some ⟨b, 0, none⟩) 16 16, .int .i64 0]) ∧ Blk w'' b 5 (bys pb) ∧ Chg Nil w' w'' ∧ w'.heap.size ≤ b) :
    Calls Tryz.prog 47 #[.agg #[.int .i64 (kd : Int), .int .i64 (md : Int), .int .i64 0, .int .i64 0, .int .i64 (sz : Int), .int .i64 (ln : Int), .int .i64 (up : Int), .slice a n c]] w fun e w' => ∃ a G, e = .returned (.tuple #[.slice a 32 32, .int .i64 0]) ∧ Sl w' 5 1 a 32 32 (bys (b9 kd md sz ln up ++ pb ++ List.replicate 7 0)) G ∧ Chg Nil w w' ∧ ∀ g, G = some g → w.heap.size ≤ g := by
  have hmk := mk_bytes 32 (by omega) 32 rfl
  have hkp : Hid ((kd : Int) < 256) := hid (by rcases hk with hk | hk <;> omega)
  have hkn : ((kd : Int) == 0) = false := by rw [beq_eq_false_iff_ne]; rcases hk with hk | hk <;> omega
  have hup : Hid (up ≤ 32) := hid (by rcases hk with hk | hk <;> omega)
  have HR := fun w' (hc : Chg Nil w w') => ndright_any w' kd md sz ln up n a c hk h1 h2 h3 (fun w2 h => hR w2 (hc.trans h (fun _ _ h => h))) hB
  have B0 := hid (Blk.new w 120 [.int .i64 (kd : Int), .int .i64 (md : Int), .int .i64 0, .int .i64 0, .int .i64 (sz : Int), .int .i64 (ln : Int), .int .i64 (up : Int), .slice a n c])
  have HR0 := hid (HR _ ((Chg.refl Nil w).alloc (.cells #[.int .i64 (kd : Int), .int .i64 (md : Int), .int .i64 0, .int .i64 0, .int .i64 (sz : Int), .int .i64 (ln : Int), .int .i64 (up : Int), .slice a n c] 120)))
  have HP := hid hP
  have Hm := hid h1
  have Hs := hid h2
  have Hl := hid h3
  have Hpb := hid hpb
  clear HR hR hB hP hk h1 h2 h3 hpb
  go_enter Tryz.func47, Tryz.ntmps47
  go_wp2_with fail
  refine HR0.out.mono ?_
  rintro e w1 ⟨rfl, c1⟩
  have hsz : w.heap.size < w1.heap.size := by have := c1.size; simp at this; omega
  have B1 := B0.out.chg c1 (fun h => h)
  have C1 := ((Chg.refl Nil w).alloc (.cells #[.int .i64 (kd : Int), .int .i64 (md : Int), .int .i64 0, .int .i64 0, .int .i64 (sz : Int), .int .i64 (ln : Int), .int .i64 (up : Int), .slice a n c] 120)).trans c1 (fun _ _ h => h)
  have BZ := Blk.new w1 5 (zr 32)
  have B2 := B1.alloc (.cells (zr 32).toArray 5)
  have C2 := C1.alloc (.cells (zr 32).toArray 5)
  have HP2 := hid (HP.out _ C2)
  have k0 := B2.cell 0
  have k7 := B2.cell 7
  simp only [List.getElem?_cons_succ, List.getElem?_cons_zero] at k0 k7
  replace BZ := hid BZ
  replace B2 := hid B2
  replace C2 := hid C2
  clear c1 B0 B1 HR0 C1
  go_wp2_with fail
  refine HP2.out.mono ?_
  rintro e w3 ⟨b, rfl, bb, c3, hb⟩
  have B3 := B2.out.chg c3 (fun h => h)
  have Z3 := BZ.out.chg c3 (fun h => h)
  have C3 := hid (C2.out.trans c3 (fun _ _ h => h))
  have hb' : w1.heap.size < b := by rw [alloc_size] at hb; omega
  have hsz3 := C3.out.size
  replace bb := hid bb
  clear k0 k7 HP2 c3 hb
  have b0 := B3.cell 0
  have b1 := B3.cell 1
  have b2 := B3.cell 2
  have b3 := B3.cell 3
  have b4 := B3.cell 4
  have b5 := B3.cell 5
  have b6 := B3.cell 6
  simp only [List.getElem?_cons_succ, List.getElem?_cons_zero] at b0 b1 b2 b3 b4 b5 b6
  have z0 := Z3.cell 0
  have z1 := Z3.cell 1
  have z2 := Z3.cell 2
  have z3 := Z3.cell 3
  have z4 := Z3.cell 4
  rw [zr_get (by omega)] at z0 z1 z2 z3 z4
  have y0 := Z3.frozen 0
  have y1 := Z3.frozen 1
  have y2 := Z3.frozen 2
  have y3 := Z3.frozen 3
  have y4 := Z3.frozen 4
  have e1 : IntKind.u8.wrap (kd : Int) = (kd : Int) := by have := hkp.out; simp [IntKind.wrap, IntKind.bits, IntKind.signed]; omega
  have e2 : IntKind.u8.wrap (md : Int) = ((md % 256 : Nat) : Int) := by simp [IntKind.wrap, IntKind.bits, IntKind.signed]
  have hn1 : w.heap.size ≠ w1.heap.size := by omega
  have hn2 : b ≠ w1.heap.size := by omega
  obtain ⟨l10, hl10⟩ : ∃ l10, l10 = (((((zr 32).set 0 (.int .u8 (kd : Int))).set 1 (.int .u8 ((md : Int) % 256))).set 2 (.int .u8 ((md : Int) / 256 % 256))).set 3 (.int .u8 0)).set 4 (.int .u8 0) := ⟨_, rfl⟩
  have F1 : Hid (Blk (((((w3.setCell ⟨w1.heap.size, 0, none⟩ (.int .u8 (kd : Int))).setCell ⟨w1.heap.size, 1, none⟩ (.int .u8 ((md : Int) % 256))).setCell ⟨w1.heap.size, 2, none⟩ (.int .u8 ((md : Int) / 256 % 256))).setCell ⟨w1.heap.size, 3, none⟩ (.int .u8 0)).setCell ⟨w1.heap.size, 4, none⟩ (.int .u8 0)).drew w1.heap.size 5 l10) := hid (by
    rw [hl10]
    exact (((((Z3.set 0 _).set 1 _).set 2 _).set 3 _).set 4 _).drew)
  have F2 : Hid (Blk (((((w3.setCell ⟨w1.heap.size, 0, none⟩ (.int .u8 (kd : Int))).setCell ⟨w1.heap.size, 1, none⟩ (.int .u8 ((md : Int) % 256))).setCell ⟨w1.heap.size, 2, none⟩ (.int .u8 ((md : Int) / 256 % 256))).setCell ⟨w1.heap.size, 3, none⟩ (.int .u8 0)).setCell ⟨w1.heap.size, 4, none⟩ (.int .u8 0)).drew w.heap.size 120 [.int .i64 (kd : Int), .int .i64 (md : Int), .int .i64 0, .int .i64 0, .int .i64 (sz : Int), .int .i64 (ln : Int), .int .i64 (up : Int), .slice a n c]) := hid ((((((B3.far (p := ⟨w1.heap.size, 0, none⟩) hn1 _).far (p := ⟨w1.heap.size, 1, none⟩) hn1 _).far (p := ⟨w1.heap.size, 2, none⟩) hn1 _).far (p := ⟨w1.heap.size, 3, none⟩) hn1 _).far (p := ⟨w1.heap.size, 4, none⟩) hn1 _).drew)
  have F3 : Hid (Blk (((((w3.setCell ⟨w1.heap.size, 0, none⟩ (.int .u8 (kd : Int))).setCell ⟨w1.heap.size, 1, none⟩ (.int .u8 ((md : Int) % 256))).setCell ⟨w1.heap.size, 2, none⟩ (.int .u8 ((md : Int) / 256 % 256))).setCell ⟨w1.heap.size, 3, none⟩ (.int .u8 0)).setCell ⟨w1.heap.size, 4, none⟩ (.int .u8 0)).drew b 5 (bys pb)) := hid ((((((bb.out.far (p := ⟨w1.heap.size, 0, none⟩) hn2 _).far (p := ⟨w1.heap.size, 1, none⟩) hn2 _).far (p := ⟨w1.heap.size, 2, none⟩) hn2 _).far (p := ⟨w1.heap.size, 3, none⟩) hn2 _).far (p := ⟨w1.heap.size, 4, none⟩) hn2 _).drew)
  have hwl : w.heap.size ≤ w1.heap.size := by omega
  have F4 : Hid (Chg Nil w (((((w3.setCell ⟨w1.heap.size, 0, none⟩ (.int .u8 (kd : Int))).setCell ⟨w1.heap.size, 1, none⟩ (.int .u8 ((md : Int) % 256))).setCell ⟨w1.heap.size, 2, none⟩ (.int .u8 ((md : Int) / 256 % 256))).setCell ⟨w1.heap.size, 3, none⟩ (.int .u8 0)).setCell ⟨w1.heap.size, 4, none⟩ (.int .u8 0)).drew) := hid ((((((C3.out.setCell (p := ⟨w1.heap.size, 0, none⟩) (.inr hwl) _).setCell (p := ⟨w1.heap.size, 1, none⟩) (.inr hwl) _).setCell (p := ⟨w1.heap.size, 2, none⟩) (.inr hwl) _).setCell (p := ⟨w1.heap.size, 3, none⟩) (.inr hwl) _).setCell (p := ⟨w1.heap.size, 4, none⟩) (.inr hwl) _).drew)
  replace hl10 := hid hl10
  replace B3 := hid B3
  replace Z3 := hid Z3
  go_upto_region 10 with fail
  go_cut [5] (fun s5 wx => s5 = .slice (some ⟨w1.heap.size, 0, none⟩) 32 32 ∧ Hid (Blk wx w1.heap.size 5 l10) ∧ Hid (Blk wx w.heap.size 120 [.int .i64 (kd : Int), .int .i64 (md : Int), .int .i64 0, .int .i64 0, .int .i64 (sz : Int), .int .i64 (ln : Int), .int .i64 (up : Int), .slice a n c]) ∧ Hid (Blk wx b 5 (bys pb)) ∧ Hid (Chg Nil w wx))
  case first =>
    go_region
    go_wp2
    go_meet
    exact ⟨rfl, F1, F2, F3, F4⟩
  case rest =>
    obtain ⟨rfl, G1, G2, G3, G4⟩ := hcut
    clear F1 F2 F3 F4 b0 b1 b2 b3 b4 b5 b6 z0 z1 z2 z3 z4 y0 y1 y2 y3 y4 e1 e2
    have b4 := G2.out.cell 4
    have b5 := G2.out.cell 5
    have b6 := G2.out.cell 6
    simp only [List.getElem?_cons_succ, List.getElem?_cons_zero] at b4 b5 b6
    have zz : ∀ j, 5 ≤ j → j < 32 → l10[j]? = some (.int .u8 0) := fun j h5 h6 => by
      rw [hl10.out, List.getElem?_set_ne (by omega), List.getElem?_set_ne (by omega), List.getElem?_set_ne (by omega), List.getElem?_set_ne (by omega), List.getElem?_set_ne (by omega), zr_get h6]
    have z5 := G1.out.cell 5
    have z6 := G1.out.cell 6
    have z7 := G1.out.cell 7
    have z8 := G1.out.cell 8
    rw [zz _ (by omega) (by omega)] at z5 z6 z7 z8
    have y5 := G1.out.frozen 5
    have y6 := G1.out.frozen 6
    have y7 := G1.out.frozen 7
    have y8 := G1.out.frozen 8
    have e3 : IntKind.u8.wrap (ln : Int) = (ln : Int) := by have := Hl.out; simp [IntKind.wrap, IntKind.bits, IntKind.signed]; omega
    have e4 : IntKind.u8.wrap (up : Int) = (up : Int) := by have := hup.out; simp [IntKind.wrap, IntKind.bits, IntKind.signed]; omega
    clear zz
    obtain ⟨l11, hl11⟩ : ∃ l11, l11 = ((((l10.set 5 (.int .u8 ((sz : Int) % 256))).set 6 (.int .u8 ((sz : Int) / 256 % 256))).set 7 (.int .u8 (ln : Int))).set 8 (.int .u8 (up : Int))) := ⟨_, rfl⟩
    have F1 : Hid (Blk ((((wc.setCell ⟨w1.heap.size, 5, none⟩ (.int .u8 ((sz : Int) % 256))).setCell ⟨w1.heap.size, 6, none⟩ (.int .u8 ((sz : Int) / 256 % 256))).setCell ⟨w1.heap.size, 7, none⟩ (.int .u8 (ln : Int))).setCell ⟨w1.heap.size, 8, none⟩ (.int .u8 (up : Int))).drew w1.heap.size 5 l11) := hid (by
      rw [hl11]
      exact ((((G1.out.set 5 _).set 6 _).set 7 _).set 8 _).drew)
    have F3 : Hid (Blk ((((wc.setCell ⟨w1.heap.size, 5, none⟩ (.int .u8 ((sz : Int) % 256))).setCell ⟨w1.heap.size, 6, none⟩ (.int .u8 ((sz : Int) / 256 % 256))).setCell ⟨w1.heap.size, 7, none⟩ (.int .u8 (ln : Int))).setCell ⟨w1.heap.size, 8, none⟩ (.int .u8 (up : Int))).drew b 5 (bys pb)) := hid (((((G3.out.far (p := ⟨w1.heap.size, 5, none⟩) hn2 _).far (p := ⟨w1.heap.size, 6, none⟩) hn2 _).far (p := ⟨w1.heap.size, 7, none⟩) hn2 _).far (p := ⟨w1.heap.size, 8, none⟩) hn2 _).drew)
    have F4 : Hid (Chg Nil w ((((wc.setCell ⟨w1.heap.size, 5, none⟩ (.int .u8 ((sz : Int) % 256))).setCell ⟨w1.heap.size, 6, none⟩ (.int .u8 ((sz : Int) / 256 % 256))).setCell ⟨w1.heap.size, 7, none⟩ (.int .u8 (ln : Int))).setCell ⟨w1.heap.size, 8, none⟩ (.int .u8 (up : Int))).drew) := hid (((((G4.out.setCell (p := ⟨w1.heap.size, 5, none⟩) (.inr hwl) _).setCell (p := ⟨w1.heap.size, 6, none⟩) (.inr hwl) _).setCell (p := ⟨w1.heap.size, 7, none⟩) (.inr hwl) _).setCell (p := ⟨w1.heap.size, 8, none⟩) (.inr hwl) _).drew)
    replace hl11 := hid hl11
    go_upto_region 11 with fail
    go_cut [5] (fun s5 wx => s5 = .slice (some ⟨w1.heap.size, 0, none⟩) 32 32 ∧ Hid (Blk wx w1.heap.size 5 l11) ∧ Hid (Blk wx b 5 (bys pb)) ∧ Hid (Chg Nil w wx))
    case first =>
      go_region
      go_wp2
      go_meet
      exact ⟨rfl, F1, F3, F4⟩
    case rest =>
      obtain ⟨rfl, G1', G3', G4'⟩ := hcut
      clear F1 F3 F4 b4 b5 b6 z5 z6 z7 z8 y5 y6 y7 y8 e3 e4
      have l10l : l10.length = 32 := by rw [hl10.out]; simp [zr_len]
      have l11l : l11.length = 32 := by rw [hl11.out]; simp [l10l]
      have S9 := Sl.of_blk (n := 32) (s := 1) G1'.out (by rw [l11l]) (by decide)
      have R9 := Rd.of_blk (n := 16) (s := 1) G3'.out (by rw [ints_length, Hpb.out]) (by decide)
      have S10 := S9.over (lo := 9) (vs := bys pb) (by omega) (by rw [ints_length, Hpb.out]; omega)
      rw [Nat.zero_add] at S10
      have hfin : List.take 9 l11 ++ bys pb ++ List.drop (9 + (bys pb).length) l11 = bys (b9 kd md sz ln up ++ pb ++ List.replicate 7 0) := by
        have t9 : List.take 9 l11 = bys (b9 kd md sz ln up) := by
          rw [hl11.out, hl10.out]
          have m1 : (md : Int) / 256 % 256 = ((md / 256 : Nat) : Int) := by have := Hm.out; omega
          have m2 : (sz : Int) / 256 % 256 = ((sz / 256 : Nat) : Int) := by have := Hs.out; omega
          rw [m1, m2]
          rfl
        have d9 : List.drop 25 l11 = bys (List.replicate 7 0) := by
          rw [hl11.out, hl10.out]
          rfl
        rw [ints_length, Hpb.out, t9, d9]
        simp [ints]
      rw [hfin] at S10
      have hcp : ∀ ty, (Builtin.copy_ #[22, 22] ty #[.slice (some ⟨w1.heap.size, 9, none⟩) 23 23, .slice (some ⟨b, 0, none⟩) 16 16]).run Tryz.prog wc = .ok (goInt 16) (wc.setCells w1.heap.size 9 (bys pb)) := fun ty =>
        copy_sl _ _ _ ty eU8 G1'.out 23 23 R9 (by omega) (by omega) (by simp [l11l]) (ints_one _ _)
      have FS := hid S10
      have FC : Hid (Chg Nil w (wc.setCells w1.heap.size 9 (bys pb))) := hid (G4'.out.trans (setCells_chg wc w1.heap.size 9 (bys pb) (One w1.heap.size) rfl) (fun k hk hh => by rw [show k = w1.heap.size from hh] at hk; omega))
      clear S9 R9 S10 hfin
      go_wp2
      go_ret2
      exact ⟨_, _, rfl, FS.out, FC.out, fun g hg => by injection hg with hg; omega⟩
end Go.Proofs.YtdcbagmgflcemaaGreatDoor
namespace Go.Proofs.YtdcbagmgflcemaaGreatDoor
open Go.ChangeShapes Go.WideShapes Go.ChangeAt Go.RowKit
set_option linter.unusedVariables false
set_option linter.unusedSimpArgs false
theorem ndpack_d (w : World) (R : Nat → Prop) (d : Nd) (hok : NdOk d) (hat : NdAt w R d) :
    Calls Tryz.prog 47 #[.agg d.row.toArray] w fun e w' => ∃ a c G, e = .returned (.tuple #[.slice a 32 c, .int .i64 0]) ∧ Sl w' 5 1 a 32 c (bys d.bytes) G ∧ Chg Nil w w' ∧ ∀ g, G = some g → w.heap.size ≤ g := by
  rcases hok with rfl | ⟨h1, h2, h3, h4, h5, h6⟩
  · exact ndpack_0 w
  · rcases hat with ⟨p0, e1, e2⟩ | ⟨p0, hP⟩
    · have hz : d.sz = 0 := h6.2 p0
      have hr : d.row.toArray = #[.int .i64 (d.kd : Int), .int .i64 (d.md : Int), .int .i64 0, .int .i64 0, .int .i64 (d.sz : Int), .int .i64 (d.ln : Int), .int .i64 (d.up : Int), .slice none 0 0] := by
        unfold Nd.row; rw [Nd.pn0 p0, e1, e2]
      rw [hr]
      refine (ndpack_any w d.kd d.md d.sz d.ln d.up 0 none 0 h1 h2 h3 h4 (List.replicate 16 0) (by simp) (fun w' _ => xright_nil w') (fun w' => by rw [hz]; exact blocks_0 w') (fun w' _ => (xpack_nil w').mono (fun e w'' ⟨he, hw⟩ => ⟨w'.heap.size, he, by rw [hw, ← zr_bys]; exact Blk.new w' _ _, by rw [hw]; exact (Chg.refl Nil w').alloc _, Nat.le_refl _⟩))).mono (fun e w' ⟨a, G, he, hs, hc, hg⟩ => ⟨a, 32, G, he, ?_, hc, hg⟩)
      unfold Nd.bytes ptB
      rw [if_pos p0]
      exact hs
    · have hz : 0 < d.sz := by
        rcases Nat.eq_zero_or_pos d.sz with h | h
        · have := h6.1 h; omega
        · exact h
      have hr : d.row.toArray = #[.int .i64 (d.kd : Int), .int .i64 (d.md : Int), .int .i64 0, .int .i64 0, .int .i64 (d.sz : Int), .int .i64 (d.ln : Int), .int .i64 (d.up : Int), .slice d.pa 1 d.pc] := by
        unfold Nd.row; rw [Nd.pn1 p0]
      rw [hr]
      refine (ndpack_any w d.kd d.md d.sz d.ln d.up 1 d.pa d.pc h1 h2 h3 h4 (ptB d.pt) (ptB_len _) (fun w' hc => xright_1 w' R d.pa d.pc d.pt (hP.chg hc (fun _ _ _ h => h)) h5) (fun w' => blocks_1 w' d.sz hz h3) (fun w' hc => xpack_1 w' R d.pa d.pc d.pt (hP.chg hc (fun _ _ _ h => h)) p0 h5)).mono (fun e w' ⟨a, G, he, hs, hc, hg⟩ => ⟨a, 32, G, he, hs, hc, hg⟩)
/-- What a sector's being told to differ leaves. -/
def DfPost (w : World) (FF FD : Nat → Prop) (f p q bt bh : Nat) (zs : List Int) (X : FX) (N : Nat) (R : Nat → Prop) (t gn go gc bd bp : Nat) (T : TX) (n : Nat) (l : List Int) (w' : World) : Prop :=
  ∃ T', (T' = T ∧ X.sec zs n = l ∨ ∃ s, s.l = l ∧ T' = T.putS (n : Int) s) ∧ TxA w' FF FD f p q bt bh zs X N R t gn go gc bd bp T' ∧ Chg (Mt t gn bd bp) w w'
set_option maxRecDepth 100000 in
set_option maxHeartbeats 2000000 in
theorem fdiffer_ok {w : World} {FF FD : Nat → Prop} {f p q bt bh : Nat} {zs : List Int} {X : FX} {N : Nat} {R : Nat → Prop} {t gn go gc bd bp : Nat} {T : TX} (h : TxA w FF FD f p q bt bh zs X N R t gn go gc bd bp T) (n : Nat) (hn : 1 ≤ n ∧ n ≤ 4) (i : Int) (hi : i = (n : Int)) (Rb : Nat → Prop) (ba : Option Addr) (bc : Nat) (l : List Int) (hb : Rd w Rb 1 ba 64 bc (bys l)) :
    Calls Tryz.prog 201 #[.pointer (some ⟨t, 0, none⟩), .int .i64 i, .slice ba 64 bc] w fun e w' => e = .returned (.tuple #[]) ∧ DfPost w FF FD f p q bt bh zs X N R t gn go gc bd bp T n l w' := by
  subst hi
  have k0 := h.c0
  have HS := hid (fsector_ok h.fs n (by omega) (n : Int) rfl)
  have H := hid h
  have HB := hid (fun w' (hc : Chg Nil w w') => hb.chg hc (fun _ _ _ h => h))
  have hwf : (Lit.int .i64 (n : Int)).wf = true := wf_key (by omega) (by omega)
  clear h hb
  go_enter Tryz.func201, Tryz.ntmps201
  go_wp2_with fail
  refine HS.out.mono ?_
  rintro e w1 ⟨a1, c1, G1, rfl, q1, q2, q3⟩
  have HE := hid (equal_by _ _ a1 ba 64 c1 64 bc (X.sec zs n) l w1 q1.rd (HB.out _ q2) (by omega) (by omega))
  replace q2 := hid q2
  clear q1 q3 HS k0
  by_cases he : X.sec zs n = l
  · rw [eqI_true he] at HE
    replace he := hid he
    go_wp2_with fail
    refine HE.out.mono ?_
    rintro e w2 ⟨rfl, k2, rfl⟩
    go_wp2
    go_end0
    exact ⟨rfl, T, .inl ⟨rfl, he.out⟩, H.out.nil (q2.out.drewN k2), (q2.out.drewN k2).mono (fun _ _ h => h.elim)⟩
  · rw [show eqI (X.sec zs n) l = false by unfold eqI; rw [decide_eq_false_iff_not]; exact he] at HE
    clear he
    go_wp2_with fail
    refine HE.out.mono ?_
    rintro e w2 ⟨rfl, k2, rfl⟩
    have C2 := hid (q2.out.drewN k2)
    go_upto_region 2 with fail
    generalize w1.drewN k2 = V at C2 ⊢
    have HV := hid (H.out.nil C2.out)
    have t196 : V.drew.cell? ⟨t, 196, none⟩ = some (.map (some bp)) := HV.out.c196
    refine wp_region_held_drew (S := fun w' => w'.cell? ⟨t, 196, none⟩ = some (.map (some bp))) (by kernel_rfl) t196 (fun hSn => ?_)
    simp only [List.size_toArray, List.length_cons, List.length_nil, Nat.reduceAdd, Array.replicate_succ, Array.replicate_zero, List.push_toArray, List.nil_append, List.cons_append]
    refine wpAnyH_take (i := 0) (oi := { dst := some 21, op := Op.move (Operand.tmp 0), type := 139, pos := "txn.go:243", after := #[], guard := none }) (v := .pointer (some ⟨t, 0, none⟩)) rfl (by kernel_rfl) (by kernel_rfl) (by kernel_rfl) (fun _ _ _ h => h) (Or.inl ⟨by rfl, by (intro w hSw; (try dsimp only at hSw); go_simp)⟩) (by assumption) ?_
    try simp only [Act.put, List.setIfInBounds_toArray, List.set_cons_zero, List.set_cons_succ]
    refine wpAnyH_take (i := 1) (oi := { dst := some 22, op := Op.nilCheck (Operand.tmp 21), type := 0, pos := "txn.go:243", after := #[{ on := 0, ground := Ground.data }], guard := none }) (v := .pointer (some ⟨t, 0, none⟩)) rfl (by kernel_rfl) (by kernel_rfl) (by kernel_rfl) (fun _ _ _ h => h) (Or.inl ⟨by rfl, by (intro w hSw; (try dsimp only at hSw); go_simp)⟩) (by assumption) ?_
    try simp only [Act.put, List.setIfInBounds_toArray, List.set_cons_zero, List.set_cons_succ]
    refine wpAnyH_take (i := 2) (oi := { dst := some 23, op := Op.fieldAddr 244 (Operand.tmp 22) 5, type := 0, pos := "txn.go:243", after := #[{ on := 1, ground := Ground.data }], guard := none }) (v := .pointer (some ⟨t, 196, none⟩)) rfl (by kernel_rfl) (by kernel_rfl) (by kernel_rfl) (fun _ _ _ h => h) (Or.inl ⟨by rfl, by (intro w hSw; (try dsimp only at hSw); go_simp)⟩) (by assumption) ?_
    try simp only [Act.put, List.setIfInBounds_toArray, List.set_cons_zero, List.set_cons_succ]
    refine wpAnyH_take (i := 3) (oi := { dst := some 24, op := Op.load 134 (Operand.tmp 23), type := 134, pos := "txn.go:243", after := #[{ on := 2, ground := Ground.data }], guard := none }) (v := .map (some bp)) rfl (by kernel_rfl) (by kernel_rfl) (by kernel_rfl) (fun _ _ _ h => h) (Or.inl ⟨by rfl, by (intro w hSw; (try dsimp only at hSw); go_simp)⟩) (by assumption) ?_
    try simp only [Act.put, List.setIfInBounds_toArray, List.set_cons_zero, List.set_cons_succ]
    refine wpAnyH_take (i := 4) (oi := { dst := some 25, op := Op.move (Operand.tmp 1), type := 3, pos := "txn.go:243", after := #[], guard := none }) (v := .int .i64 (n : Int)) rfl (by kernel_rfl) (by kernel_rfl) (by kernel_rfl) (fun _ _ _ h => h) (Or.inl ⟨by rfl, by (intro w hSw; (try dsimp only at hSw); go_simp)⟩) (by assumption) ?_
    try simp only [Act.put, List.setIfInBounds_toArray, List.set_cons_zero, List.set_cons_succ]
    refine wpAnyH_take (i := 5) (oi := { dst := some 26, op := Op.move (Operand.tmp 2), type := 22, pos := "txn.go:243", after := #[], guard := none }) (v := .slice ba 64 bc) rfl (by kernel_rfl) (by kernel_rfl) (by kernel_rfl) (fun _ _ _ h => h) (Or.inl ⟨by rfl, by (intro w hSw; (try dsimp only at hSw); go_simp)⟩) (by assumption) ?_
    try simp only [Act.put, List.setIfInBounds_toArray, List.set_cons_zero, List.set_cons_succ]
    refine wpAnyH_ready (rs := [6]) (by kernel_rfl) (by simp) ?_
    refine AllReadyH.cons (o := { dst := some 27, op := Op.call { callee := Callee.value (Operand.func 108), args := #[Operand.tmp 26], argTypes := #[22] }, type := 22, pos := "txn.go:243", after := #[{ on := 5, ground := Ground.data }], guard := none }) rfl (fun K hK => ?_) AllReadyH.nil
    go_simp
    go_at_call 108
    refine (clone_u8 _ _ _ _ _ _ (HB.out _ C2.out.drew) (ints_one _ _) (by omega)).mono ?_
    rintro e w3 ⟨a3, c3, G3, rfl, y1, y2, y3⟩
    have HW := HV.out.nil ((Chg.refl Nil V).drew.trans y2 (fun _ _ h => h))
    have t1963 : w3.cell? ⟨t, 196, none⟩ = some (.map (some bp)) := HW.c196
    refine hK.out _ _ t1963 (fun hSn => ?_)
    clear hK K
    try simp only [Act.put, List.setIfInBounds_toArray, List.set_cons_zero, List.set_cons_succ]
    have SD : SecAt w3 R ⟨l, a3, c3⟩ := y1.rd.mono (fun k hk => H.out.rup k (.inr (Nat.le_trans C2.out.size (y3 k hk))))
    obtain ⟨W, hrun, hm5, d5⟩ := HW.put.store (t := 134) (e := 22) Tryz.underlying3 Tryz.underlying134 (by omega) (n : Int) hwf (.slice a3 64 c3)
    obtain ⟨TF, CF⟩ := HW.setPut (k := (n : Int)) (s := ⟨l, a3, c3⟩) (.inl (by omega)) SD _ hm5 d5
    have t1964 : W.cell? ⟨t, 196, none⟩ = some (.map (some bp)) := TF.c196
    have CC := hid ((((C2.out.drew).trans y2 (fun _ _ h => h)).mono (fun _ _ h => h.elim)).trans CF (fun _ _ h => h))
    replace TF := hid TF
    clear y1 y2 y3 SD hm5 d5 CF HW
    refine wpAnyH_ready (rs := [7]) (by kernel_rfl) (by simp) ?_
    refine AllReadyH.cons (o := { dst := none, op := Op.mapUpdate 134 (Operand.tmp 24) (Operand.tmp 25) (Operand.tmp 27), type := 0, pos := "txn.go:243", after := #[{ on := 3, ground := Ground.data }, { on := 4, ground := Ground.data }, { on := 6, ground := Ground.data }, { on := 6, ground := Ground.chain }, { on := 0, ground := Ground.phase }, { on := 1, ground := Ground.phase }, { on := 2, ground := Ground.phase }, { on := 3, ground := Ground.phase }, { on := 4, ground := Ground.phase }, { on := 5, ground := Ground.phase }, { on := 6, ground := Ground.phase }], guard := none }) rfl (fun K hK => ?_) AllReadyH.nil
    refine step_map_run hrun (by rfl) (by rfl) (by rfl) (by rfl) (by rfl) ?_
    refine hK.out _ _ t1964 (fun hSn => ?_)
    clear hK K
    refine wpAnyH_done (by kernel_rfl) ?_ _
    clear t196 t1963 t1964 hrun hSn
    go_wp2
    go_end0
    exact ⟨rfl, _, .inr ⟨⟨l, a3, c3⟩, rfl, rfl⟩, TF.out, CC.out⟩
end Go.Proofs.YtdcbagmgflcemaaGreatDoor
namespace Go.Proofs.YtdcbagmgflcemaaGreatDoor
open Go.ChangeShapes Go.WideShapes Go.ChangeAt Go.RowKit
set_option linter.unusedVariables false
/-- The same change, but for the first sectors of the disk. -/
def KpT (T T' : TX) : Prop := T'.ns = T.ns ∧ T'.m = T.m ∧ ∀ k : Int, 5 ≤ k → T'.pu k = T.pu k
theorem KpT.refl (T : TX) : KpT T T := ⟨rfl, rfl, fun _ _ => rfl⟩
theorem KpT.put {T T' : TX} (h : KpT T T') {k : Int} (hk : k ≤ 4) (s : Sec) : KpT T (T'.putS k s) := ⟨h.1, h.2.1, fun j hj => by
  show updS T'.pu k s j = T.pu j
  unfold updS
  rw [if_neg (by omega)]
  exact h.2.2 j hj⟩
theorem KpT.df {w w' : World} {FF FD : Nat → Prop} {f p q bt bh : Nat} {zs : List Int} {X : FX} {N : Nat} {R : Nat → Prop} {t gn go gc bd bp : Nat} {T T' : TX} {n : Nat} {l : List Int} (h : KpT T T') (hn : n ≤ 4) (hd : DfPost w FF FD f p q bt bh zs X N R t gn go gc bd bp T' n l w') :
    ∃ T2, KpT T T2 ∧ TxA w' FF FD f p q bt bh zs X N R t gn go gc bd bp T2 ∧ Chg (Mt t gn bd bp) w w' := by
  obtain ⟨T2, h1, h2, h3⟩ := hd
  refine ⟨T2, ?_, h2, h3⟩
  rcases h1 with ⟨rfl, _⟩ | ⟨s, _, rfl⟩
  · exact h
  · exact h.put (by omega) s
theorem len_two (p : Int → Bool) (L : List Int) : L.length = (L.filter p).length + (L.filter (fun i => !p i)).length := by
  induction L with
  | nil => rfl
  | cons a L ih =>
    simp only [List.filter_cons, List.length_cons]
    cases h : p a <;> simp <;> omega
theorem keys_28 {L : List Int} (h : L.Nodup) (hk : ∀ i, i ∈ L → (1 ≤ i ∧ i ≤ 4) ∨ (37 ≤ i ∧ i < 61)) : L.length ≤ 28 := by
  have h1 := len_in (h.filter (fun i => decide (i ≤ 4))) 1 4 (fun i hi => by
    rw [List.mem_filter] at hi
    have h2 := of_decide_eq_true hi.2
    have := hk i hi.1
    omega)
  have h2 := len_in (h.filter (fun i => !decide (i ≤ 4))) 37 24 (fun i hi => by
    rw [List.mem_filter] at hi
    have h2 : ¬ i ≤ 4 := by simpa using hi.2
    have := hk i hi.1
    omega)
  have h3 := len_two (fun i => decide (i ≤ 4)) L
  omega
/-- A map whose keys are those of sectors in use. -/
theorem MpAt.use {w : World} {b n : Nat} {g : Int → Option Sec} (h : MpAt w Tryz.prog 3 b n (secM g)) (hm : ∀ i, (g i).isSome = true → (1 ≤ i ∧ i ≤ 4) ∨ (37 ≤ i ∧ i < 61)) : MpAt w Tryz.prog 3 b 40 (secM g) := by
  obtain ⟨L, l1, l2, _⟩ := h.len (t := 134) (e := 22) Tryz.underlying3 Tryz.underlying134
  have h1 := h.tight (t := 134) (e := 22) Tryz.underlying3 Tryz.underlying134 L l1 l2
  refine h1.mono (Nat.le_trans (keys_28 l1 (fun i hi => hm i ?_)) (by decide))
  have := (l2 i).1 hi
  unfold secM at this
  rwa [Option.isSome_map] at this
/-- The keys of a change that the file system has not yet, as far as they were seen. -/
def KpV (X : FX) (T : TX) (left : Int → Bool) (k : Nat) : Prop := ∃ LV : List Int, LV.Nodup ∧ LV.length = k ∧ ∀ i, i ∈ LV → (T.pu i).isSome = true ∧ X.td i = none ∧ left i = false
theorem KpV.le {X : FX} {T : TX} {left : Int → Bool} {k : Nat} {LT : List Int} (h : KpV X T left k) (hL : LT.Nodup ∧ ∀ i, i ∈ LT ↔ ((secM X.td) i).isSome = true) (hX : X.m ≤ 8) (hT : T.m ≤ 8) (k1 : ∀ i, (X.td i).isSome = true → (1 ≤ i ∧ i ≤ 4) ∨ (37 ≤ i ∧ i < 53 + (X.m : Int))) (k2 : ∀ i, (T.pu i).isSome = true → (1 ≤ i ∧ i ≤ 4) ∨ (37 ≤ i ∧ i < 53 + (T.m : Int))) : LT.length + k ≤ 28 := by
  obtain ⟨LV, v1, v2, v3⟩ := h
  have hm : ∀ i, i ∈ LT → (X.td i).isSome = true := fun i hi => by
    have := (hL.2 i).1 hi
    unfold secM at this
    rwa [Option.isSome_map] at this
  have h1 : (LT ++ LV).Nodup := List.nodup_append.2 ⟨hL.1, v1, fun a ha b hb hab => by
    subst hab
    have h2 := hm a ha
    rw [(v3 a hb).2.1] at h2
    cases h2⟩
  have h2 := keys_28 h1 (fun i hi => by
    rw [List.mem_append] at hi
    rcases hi with hi | hi
    · have := k1 i (hm i hi)
      omega
    · have := k2 i (v3 i hi).1
      omega)
  rw [List.length_append, v2] at h2
  exact h2
theorem KpV.more {X : FX} {T : TX} {left : Int → Bool} {k : Nat} {i : Int} (h : KpV X T left k) (hl : left i = true) (h1 : (T.pu i).isSome = true) (h2 : X.td i = none) : KpV X T (fun j => left j && !decide (j = i)) (k + 1) := by
  obtain ⟨LV, v1, v2, v3⟩ := h
  refine ⟨i :: LV, List.nodup_cons.2 ⟨fun hi => ?_, v1⟩, by simp [v2], fun j hj => ?_⟩
  · have := (v3 i hi).2.2
    rw [hl] at this
    cases this
  · rcases List.mem_cons.1 hj with rfl | hj
    · exact ⟨h1, h2, by simp⟩
    · obtain ⟨a, b, c⟩ := v3 j hj
      exact ⟨a, b, by simp [c]⟩
theorem KpV.less {X : FX} {T : TX} {left : Int → Bool} {k : Nat} {i : Int} (h : KpV X T left k) : KpV X T (fun j => left j && !decide (j = i)) k := by
  obtain ⟨LV, v1, v2, v3⟩ := h
  exact ⟨LV, v1, v2, fun j hj => by obtain ⟨a, b, c⟩ := v3 j hj; exact ⟨a, b, by simp [c]⟩⟩
/-- A value of one cell goes into a cell of a block. -/
theorem store_one {P : Program} {w : World} {g i : Nat} {t ty : TypeId} {cs : List Value} {u : Value} (h : Blk w g t cs) (hl : i < cs.length) (hi : (P.info? ty).map (·.size) = some 1) (hu : u.cells = #[u]) (h1 : u.oneCell' = true) :
    (Instr.storeAt ty (.pointer (some ⟨g, i, none⟩)) u).run P w = .ok () (w.setCells g i [u]) ∧ Blk (w.setCells g i [u]) g t (over_ cs i [u]) ∧ Chg (One g) w (w.setCells g i [u]) := by
  have := store_part (P := P) (ty := ty) (lo := i) (vs := [u]) h (by simp; omega) hi (fun v hv => by rw [List.mem_singleton.1 hv]; exact h1)
  refine ⟨?_, this.2⟩
  have e : Instr.storeAt ty (.pointer (some ⟨g, i, none⟩)) (.agg [u].toArray) = Instr.storeAt ty (.pointer (some ⟨g, i, none⟩)) u := by
    simp only [Instr.storeAt, storeVar]
    rw [hu]
    rfl
  rw [← e]
  exact this.1
theorem fsC_len (p q : Nat) (fo : List Value) (hl : fo.length = 192) (a : Option Addr) (c bt bh : Nat) : (fsC p q fo a c bt bh).length = 198 := by simp [fsC, hl]
theorem fsC_overF (p q : Nat) (fo fo' : List Value) (hl : fo.length = 192) (hl' : fo'.length = 192) (a : Option Addr) (c bt bh : Nat) : over_ (fsC p q fo a c bt bh) 2 fo' = fsC p q fo' a c bt bh := by
  unfold fsC
  rw [List.append_assoc, over_right (i := 0) (show 2 = List.length [Value.pointer (some ⟨p, 0, none⟩), Value.pointer (some ⟨q, 0, none⟩)] + 0 from rfl), over_left (by omega), List.append_assoc]
  unfold over_
  rw [List.drop_of_length_le (by omega)]
  simp
theorem fsC_overR (p q : Nat) (fo : List Value) (hl : fo.length = 192) (a : Option Addr) (c bt bh : Nat) : over_ (fsC p q fo a c bt bh) 194 [.slice none 0 0] = fsC p q fo a c bt bh := by
  unfold fsC
  rw [over_right (i := 0) (by simp [hl])]
  rfl
theorem fsC_overN (p q : Nat) (fo : List Value) (hl : fo.length = 192) (a b : Option Addr) (c d bt bh : Nat) : over_ (fsC p q fo a c bt bh) 195 [.slice b 32 d] = fsC p q fo b d bt bh := by
  unfold fsC
  rw [over_right (i := 1) (by simp [hl])]
  rfl
/-- What the file system is when the change is kept. -/
theorem TxA.done {w w' : World} {FF FD : Nat → Prop} {f p q bt bh : Nat} {zs : List Int} {X : FX} {N : Nat} {R : Nat → Prop} {t gn go gc bd bp : Nat} {T : TX} (h : TxA w FF FD f p q bt bh zs X N R t gn go gc bd bp T) (c : Chg (fun k => k = f ∨ k = bt) w w')
    (hb : Blk w' f 137 (fsC p q (foM T.m) (some ⟨gn, go, none⟩) gc bt bh)) {td : Int → Option Sec} (hm : MpAt w' Tryz.prog 3 bt 40 (secM td)) (htd : ∀ i, td i = (T.pu i).or (X.td i)) (hX : X.m ≤ T.m) :
    FsA w' (fun k => FF k ∨ (N ≤ k ∧ k < w'.heap.size)) FD f p q bt bh zs ⟨T.ns, some ⟨gn, go, none⟩, gc, T.m, td, X.hd⟩ := by
  have hq := h.fs.inQ
  have hin := h.fs.inF
  have hne := h.fs.ne
  have o1 := h.old f hin.1
  have o2 := h.old bt hin.2.1
  have o3 := h.old bh hin.2.2
  have hD : ∀ k, FD k → ¬ (k = f ∨ k = bt) := fun k hk => by
    have := h.fs.inD k hk
    rintro (rfl | rfl)
    · exact this.2.1 rfl
    · exact this.2.2.1 rfl
  have hgn : gn < w'.heap.size := Nat.lt_of_lt_of_le h.lt.2.1 c.size
  have hR : ∀ g, R g → ¬ (g = f ∨ g = bt) := fun g hg => by
    rcases h.rin g hg with h1 | h1
    · rintro (rfl | rfl)
      · exact h1.2.1 rfl
      · exact h1.2.2.1 rfl
    · rintro (rfl | rfl) <;> omega
  have hF : ∀ g, R g ∧ g < w'.heap.size → Fr (fun k => FF k ∨ (N ≤ k ∧ k < w'.heap.size)) f bt bh g := fun g hg => by
    rcases h.rin g hg.1 with h1 | h1
    · exact ⟨.inl h1.1, h1.2⟩
    · exact ⟨.inr ⟨h1, hg.2⟩, by omega, by omega, by omega⟩
  refine ⟨hb, h.fs.log.chg c ?_, h.fs.dk.chg c hD, h.fs.nz, ?_, fun i hi => ?_, h.nok, hm, fun k s hs => ?_, fun k hk => ?_, h.fs.held.chg c ?_, h.mle, ⟨.inl hin.1, .inl hin.2.1, .inl hin.2.2⟩, ⟨.inl hq.1, hq.2⟩, fun k hk => ⟨.inl (h.fs.inD k hk).1, (h.fs.inD k hk).2⟩, hne, fun k hk => ?_⟩
  · rintro (h1 | h1)
    · exact hq.2.1 h1
    · exact hq.2.2.1 h1
  · have h1 := (h.nodes.rd).chg c (fun g _ hg => by
      have hg' : gn = g := by injection hg
      have := h.new.2.1
      omega)
    exact h1.mono (fun g hg => by
      have hg' : gn = g := by injection hg
      have := h.new.2.1
      subst hg'
      exact ⟨.inr ⟨this, hgn⟩, by omega, by omega, by omega⟩)
  · exact (((h.pts i hi).chg c (fun g _ hg => hR g hg)).low).mono hF
  · replace hs : td k = some s := hs
    rw [htd k] at hs
    cases hp : T.pu k with
    | some s' =>
      rw [hp] at hs
      have hs' : s' = s := by injection hs
      subst hs'
      have h1 := (h.psec k s' hp).chg c (fun g _ hg => hR g hg)
      exact Rd.mono (Rd.low h1) hF
    | none =>
      rw [hp] at hs
      have h1 := (h.fs.tsec k s hs).chg c (fun g _ hg => by
        rintro (rfl | rfl)
        · exact hg.2.1 rfl
        · exact hg.2.2.1 rfl)
      exact h1.mono (fun g hg => ⟨.inl hg.1, hg.2⟩)
  · have hk' : (td k).isSome = true := hk
    rw [htd k] at hk'
    show (1 ≤ k ∧ k ≤ 4) ∨ (37 ≤ k ∧ k < 53 + (T.m : Int))
    cases hp : T.pu k with
    | some s' => exact h.pkey k (by rw [hp]; rfl)
    | none =>
      rw [hp] at hk'
      have := h.fs.tkey k hk'
      omega
  · rintro (h1 | h1)
    · exact hne.2.1 h1.symm
    · exact hne.2.2 h1.symm
  · rcases hk with hk | hk
    · exact Nat.lt_of_lt_of_le (h.fs.lt k hk) c.size
    · exact hk.2
/-- What the file system's sectors that wait are while the change's go over. -/
def KpT2 (X : FX) (T : TX) (left : Int → Bool) (td : Int → Option Sec) : Prop := ∀ i, td i = if left i = true then X.td i else (T.pu i).or (X.td i)
theorem KpT2.key {X : FX} {T : TX} {left : Int → Bool} {td : Int → Option Sec} (h : KpT2 X T left td) (hX : X.m ≤ 8) (hT : T.m ≤ 8) (k1 : ∀ i, (X.td i).isSome = true → (1 ≤ i ∧ i ≤ 4) ∨ (37 ≤ i ∧ i < 53 + (X.m : Int))) (k2 : ∀ i, (T.pu i).isSome = true → (1 ≤ i ∧ i ≤ 4) ∨ (37 ≤ i ∧ i < 53 + (T.m : Int))) (i : Int) (hi : (td i).isSome = true) : (1 ≤ i ∧ i ≤ 4) ∨ (37 ≤ i ∧ i < 61) := by
  rw [h i] at hi
  have h1 := k1 i
  have h2 := k2 i
  cases hp : T.pu i with
  | some s =>
    have := h2 (by rw [hp]; rfl)
    omega
  | none =>
    rw [hp] at hi
    have : (X.td i).isSome = true := by
      split at hi
      · exact hi
      · exact hi
    have := h1 this
    omega
theorem KpT2.more {X : FX} {T : TX} {left : Int → Bool} {td : Int → Option Sec} {i : Int} {s : Sec} (h : KpT2 X T left td) (hs : T.pu i = some s) : KpT2 X T (fun j => left j && !decide (j = i)) (updS td i s) := fun j => by
  unfold updS
  by_cases hj : j = i
  · subst hj
    simp [hs]
  · rw [if_neg hj, h j]
    simp [hj]
set_option maxRecDepth 100000 in
set_option maxHeartbeats 4000000 in
theorem fkeep_ok {w : World} {FF FD : Nat → Prop} {f p q bt bh : Nat} {zs : List Int} {X : FX} {N : Nat} {R : Nat → Prop} {t gn go gc bd bp : Nat} {T : TX} (h : TxA w FF FD f p q bt bh zs X N R t gn go gc bd bp T) (hXm : X.m ≤ T.m) :
    Calls Tryz.prog 124 #[.pointer (some ⟨t, 0, none⟩)] w fun e w' => e = .returned (.int .i64 0) ∧ Hid (∃ X', X'.ns = T.ns ∧ X'.m = T.m ∧ X'.hd = X.hd ∧ (∀ i : Int, 5 ≤ i → X'.td i = (T.pu i).or (X.td i)) ∧ FsA w' (fun k => FF k ∨ (N ≤ k ∧ k < w'.heap.size)) FD f p q bt bh zs X' ∧ Chg (fun k => Mt t gn bd bp k ∨ k = f ∨ k = bt) w w') := by
  have LF := h.foLoad
  have k193 := h.c193
  have HP := hid (fun w => snpack_ok w (foM T.m) foT foB (foMC T.m) (foM_fob T.m))
  have hLl : (foB ++ foMC T.m).length = 192 := by simp [foB, foMC, numF_len, hasN_len]
  obtain ⟨L, hL⟩ : ∃ L, L = foB ++ foMC T.m := ⟨_, rfl⟩
  obtain ⟨fo, hfo⟩ : ∃ fo, fo = foM T.m := ⟨_, rfl⟩
  rw [← hL] at HP hLl
  rw [← hfo] at HP LF
  replace hL := hid hL
  replace hfo := hid hfo
  have H := hid h
  have Hlt := hid h.lt
  replace hXm := hid hXm
  clear h
  go_enter Tryz.func124, Tryz.ntmps124
  go_wp2_with (refine wpList_load_run LF (by rfl) (by rfl) (by rfl) ?_)
  refine (HP.out _).mono ?_
  rintro e w1 ⟨a1, c1, G1, rfl, q1, q2, q3⟩
  obtain ⟨g1, o1, rfl, rfl, _⟩ := q1.block (by omega)
  have hc1 : 192 ≤ c1 := q1.1
  have hg1 := q3 g1 rfl
  have k193' : w1.cell? ⟨t, 193, none⟩ = some (.slice none 0 0) := (H.out.nil q2).c193
  have R1 := q1.rd
  replace q2 := hid q2
  clear q1 q3 HP LF k193
  go_wp2_with fail
  refine (qpack_nil w1).mono ?_
  rintro e w2 ⟨rfl, hw2⟩
  have c2 : Chg Nil w1 w2 := by rw [hw2]; exact (Chg.refl Nil w1).alloc _
  have Q2 : Blk w2 w1.heap.size 5 (zr 64) := by rw [hw2]; exact Blk.new w1 _ _
  have C2 := hid (q2.out.trans c2 (fun _ _ h => h))
  have T2 := hid (H.out.nil C2.out)
  have HB := hid (fun w' (hc : Chg (Mt t gn bd bp) w2 w') => (R1.chg c2 (fun _ _ _ h => h)).chg hc (fun g _ hg hh => by
    have hg' : g1 = g := by injection hg
    have := Hlt.out
    rcases hh with hh | hh | hh | hh <;> omega))
  have HQ := hid (fun w' (hc : Chg (Mt t gn bd bp) w2 w') => Rd.chg (Rd.of_blk (n := 64) (s := 1) Q2 (by rw [zr_len]) (by decide)) hc (fun g _ hg hh => by
    have hg' : g = w1.heap.size := hg
    have := Hlt.out
    have := q2.out.size
    rcases hh with hh | hh | hh | hh <;> omega))
  replace hw2 := hid hw2
  clear R1 c2 Q2 k193'
  go_wp2
  go_loopw [38] (fun i wr => ∃ k : Nat, k ≤ 3 ∧ i = .int .i64 k ∧ Hid (∃ T', KpT T T' ∧ TxA wr FF FD f p q bt bh zs X N R t gn go gc bd bp T' ∧ Chg (Mt t gn bd bp) w2 wr)) (fun i _ => 3 - (intOf i).toNat)
  case atStart => exact ⟨0, by omega, rfl, T, KpT.refl T, T2.out, Chg.refl _ _⟩
  case round =>
    obtain ⟨k, hk, rfl, T', hT', hX', hC'⟩ := hrel
    by_cases hlt : k < 3
    · have RB := (HB.out wr hC').sub (lo := 64 * k) (k := 64) (by omega)
      have e : (List.drop (64 * k) (bys L)).take 64 = bys ((L.drop (64 * k)).take 64) := by simp [ints, List.map_drop, List.map_take]
      rw [e] at RB
      have HD := hid (fdiffer_ok hX' (1 + k) (by omega) (1 + (k : Int)) (by omega) _ _ _ _ RB)
      have i1 : 64 * (k : Int) ≤ 192 := by omega
      have i2 : 64 * ((k : Int) + 1) ≤ 192 := by omega
      replace hC' := hid hC'
      replace hT' := hid hT'
      clear RB e hX'
      go_wp2_with fail
      rw [show 64 * (k + 1) - 64 * k = 64 by omega]
      refine HD.out.mono ?_
      rintro e w3 ⟨rfl, hd⟩
      obtain ⟨T3, t1, t2, t3⟩ := hT'.out.df (by omega) hd
      have R3 : Hid (∃ T', KpT T T' ∧ TxA w3 FF FD f p q bt bh zs X N R t gn go gc bd bp T' ∧ Chg (Mt t gn bd bp) w2 w3) := hid ⟨T3, t1, t2, hC'.out.trans t3 (fun _ _ h => h)⟩
      clear t1 t2 t3 hd HD
      go_wp2
      go_roundw
      case rel => exact ⟨k + 1, by omega, by go_num, R3⟩
      case measure => simp [intOf]; omega
    · have RQ := HQ.out wr hC'
      rw [zr_bys] at RQ
      have HD := hid (fdiffer_ok hX' 4 (by omega) 4 rfl _ _ _ _ RQ)
      replace hC' := hid hC'
      replace hT' := hid hT'
      clear RQ hX' HB HQ
      go_wp2_with fail
      refine HD.out.mono ?_
      rintro e w3 ⟨rfl, hd⟩
      obtain ⟨T3, t1, t2, t3⟩ := hT'.out.df (by omega) hd
      have C3 := hid (((C2.out.mono (fun _ _ h => h.elim)).trans hC'.out (fun _ _ h => h)).trans t3 (fun _ _ h => h))
      clear HD hd hT' hC' t3 T2 hk hlt
      have k0 := t2.c0
      have f196 := t2.fs.c196
      have k196 := t2.c196
      obtain ⟨LT, lt1, lt2, lt3⟩ := t2.fs.todo.len (t := 134) (e := 22) Tryz.underlying3 Tryz.underlying134
      have hlt3 := lt3 3
      have HK3 := hid t2
      have HT3 := hid t1
      have HLT : Hid (LT.Nodup ∧ ∀ i, i ∈ LT ↔ ((secM X.td) i).isSome = true) := hid ⟨lt1, lt2⟩
      have hLTl : LT.length ≤ 61 := len_in lt1 0 61 (fun i hi => by
        have h5 := (lt2 i).1 hi
        have h6 := t2.fs.tkey i (by unfold secM at h5; rwa [Option.isSome_map] at h5)
        have := t2.fs.mle
        omega)
      clear t1 t2 lt1 lt2 lt3
      obtain ⟨nL, hnL⟩ : ∃ nL, nL = LT.length := ⟨_, rfl⟩
      rw [← hnL] at hlt3 hLTl
      replace hnL := hid hnL
      go_wp2_with (at_range; refine wpList_range_mp _ rfl _ 134 rfl 3 22 Tryz.underlying3 Tryz.underlying134 bp 80 _ rfl HK3.out.put ?_; intro w4 cnt4 r1 r2 r3; replace r1 := hid r1; replace r2 := hid r2)
      go_frame
      have HB3 := hid (fun w' (c : Chg Nil w3 w') => (HK3.out.nil c))
      have hKl := hid (fun left k (v : KpV X T3 left k) => v.le HLT.out HK3.out.fs.mle HK3.out.mle HK3.out.fs.tkey HK3.out.pkey)
      go_loopw [9] (fun n wr => ∃ k : Nat, n = .int .i64 ((nL : Int) + (k : Int)) ∧ ∃ (left : Int → Bool) (cnt : Nat), Hid (MpRg wr Tryz.prog 3 bp w3.heap.size 80 (secM T3.pu) left cnt) ∧ Hid (Chg Nil w3 wr) ∧ Hid (KpV X T3 left k)) (fun _ wr => wr.rangeLeft bp w3.heap.size)
      case atStart => exact ⟨0, by simp, _, cnt4, r1, r2, hid ⟨[], List.nodup_nil, rfl, fun i hi => by cases hi⟩⟩
      case round =>
        clear r1 r2 r3
        obtain ⟨k, rfl, left, cnt, hR, hC, hV⟩ := hrel
        have hk28 : nL + k ≤ 28 := by rw [hnL.out]; exact hKl.out _ _ hV.out
        go_wp2_with (at_next; refine wpList_next_mp _ rfl _ rfl 3 Tryz.underlying3 bp w3.heap.size _ _ left cnt rfl hR.out ?_ ?_)
        · intro _
          obtain ⟨wl, hwl⟩ : ∃ wl, wl = wr := ⟨_, rfl⟩
          subst hwl
          have HW := HB3.out wl hC.out
          have HR := hid (jroom_ok wl p q HW.fs.log)
          have k0 := HW.c0
          have f1 := HW.fs.c1
          have k196 := HW.c196
          have HPm := HW.put
          clear hR hV hKl HLT
          replace HW := hid HW
          go_wp2_with (first | (go_at_call 202; refine HR.out.mono ?_; rintro e w5 ⟨rfl, rfl⟩) | (at_range; refine wpList_range_mp _ rfl _ 134 rfl 3 22 Tryz.underlying3 Tryz.underlying134 bp 80 _ rfl HPm ?_; intro w5 cnt5 r1 r2 r3; replace r1 := hid r1; replace r2 := hid r2))
          go_frame
          have c15 : Chg Nil wl w5 := r2.out
          have hs5 : wl.heap.size < w5.heap.size := by rw [r3]; omega
          replace hs5 := hid hs5
          have hrb : wl.heap.size ≠ bp := by have := HW.out.put.lt; omega
          replace HB3 := hid (HW.out.nil c15)
          replace r2 := hid (hC.out.trans c15 (fun _ _ h => h))
          have hbt : bt ≠ bp ∧ bt < wl.heap.size := by
            have := HB3.out.fs.inF.2.1
            have h1 := HB3.out.old _ this
            have h2 := HB3.out.new
            have := HW.out.fs.lt _ this
            omega
          replace hbt := hid hbt
          replace hrb := hid hrb
          have C15 := hid (c15.mono (G := One bt) (fun _ _ h => h.elim))
          have HCl := hid hC.out
          clear hC c15 k0 f1 k196 HPm r3 hnL hk28 hLTl f196
          go_loopw [14] (fun _ wx => ∃ (left : Int → Bool) (cnt : Nat) (td : Int → Option Sec), Hid (MpRg wx Tryz.prog 3 bp wl.heap.size 80 (secM T3.pu) left cnt) ∧ Hid (Chg (One bt) wl wx) ∧ Hid (MpAt wx Tryz.prog 3 bt 40 (secM td)) ∧ Hid (KpT2 X T3 left td)) (fun _ wx => wx.rangeLeft bp wl.heap.size)
          case atStart => exact ⟨_, cnt5, X.td, r1, C15, hid HB3.out.fs.todo, hid (fun i => by
            by_cases hh : (secM T3.pu i).isSome = true
            · rw [if_pos hh]
            · rw [if_neg hh]
              unfold secM at hh
              rw [Option.isSome_map] at hh
              cases hp : T3.pu i with
              | none => rfl
              | some s => rw [hp] at hh; exact absurd rfl hh)⟩
          case round =>
            clear r1 C15
            obtain ⟨left, cnt, td, hR, hC, hM, hK⟩ := hrel
            go_wp2_with (at_next; (refine wpList_next_mp _ rfl _ rfl 3 Tryz.underlying3 bp wl.heap.size _ _ left cnt rfl hR.out ?_ ?_))
            · intro hall
              obtain ⟨wa, hwa⟩ : ∃ wa, wa = wr := ⟨_, rfl⟩
              subst hwa
              have B0 := HW.out.fs.blk.chg hC.out (fun hh => HW.out.fs.ne.1 hh)
              have BT : Blk wa t 244 (txC f fo (some ⟨gn, go, none⟩) gc bd bp) := by
                rw [hfo.out, ← HT3.out.2.1]
                exact HW.out.blk.chg hC.out (fun hh => by
                  have h1 : t = bt := hh
                  have := HW.out.old _ HW.out.fs.inF.2.1
                  have := HW.out.new.1
                  omega)
              have hfl : fo.length = 192 := by rw [hfo.out]; exact foM_len _
              have hft : f ≠ t := fun hh => by
                have := HW.out.old _ HW.out.fs.inF.1
                have := HW.out.new.1
                omega
              have HTL := hid (fun w' (c : Chg (One f) wa w') => (by
                have B := BT.chg c (fun hh => hft hh.symm)
                have L := load_part (P := Tryz.prog) (ty := 115) (lo := 1) (n := 192) B (by rw [txC_len _ _ hfl]; omega) Tryz.underlying115 rfl (by kernel_rfl)
                rw [txC_fo _ _ hfl] at L
                exact ⟨(B.cell (193 + 0)).trans (txC_tail _ _ hfl _ _ _ _ 0), (B.cell (193 + 1)).trans (txC_tail _ _ hfl _ _ _ _ 1), L⟩ : w'.cell? ⟨t, 193, none⟩ = some (.slice none 0 0) ∧ w'.cell? ⟨t, 194, none⟩ = some (.slice (some ⟨gn, go, none⟩) 32 gc) ∧ (Instr.loadAt 115 (.pointer (some ⟨t, 1, none⟩))).run Tryz.prog w' = .ok (.agg fo.toArray) w'))
              have c00 : Chg (One f) wa wa.drew := (Chg.refl (One f) wa).drew
              have ST1 := store_part (P := Tryz.prog) (ty := 115) (lo := 2) (vs := fo) B0.drew (by rw [fsC_len _ _ _ (foM_len _), hfl]; omega) (by rw [hfl]; kernel_rfl) (by rw [hfo.out]; exact foM_one _)
              rw [fsC_overF _ _ _ _ (foM_len _) hfl] at ST1
              obtain ⟨S1, S2, S3⟩ := ST1
              have FIN := hid (fun W (hb : Blk W f 137 (fsC p q fo (some ⟨gn, go, none⟩) gc bt bh)) (c : Chg (One f) wa W) => (⟨HW.out.done ((hC.out.mono (G := fun k => k = f ∨ k = bt) (fun _ _ h => .inr h)).trans c (fun _ _ h => .inl h)) (by rw [HT3.out.2.1, ← hfo.out]; exact hb) (hM.out.chg c (fun hh => HW.out.fs.ne.1 hh.symm)) (fun i => by rw [hK.out i, if_neg (by rw [hall i]; simp)]) (by rw [HT3.out.2.1]; exact hXm.out), (hC.out.mono (G := fun k => k = f ∨ k = bt) (fun _ _ h => .inr h)).trans c (fun _ _ h => .inl h)⟩ : FsA W (fun k => FF k ∨ (N ≤ k ∧ k < W.heap.size)) FD f p q bt bh zs ⟨T3.ns, some ⟨gn, go, none⟩, gc, T3.m, td, X.hd⟩ ∧ Chg (fun k => k = f ∨ k = bt) wl W))
              have hK2 := hid (fun i => (by rw [hK.out i, if_neg (by rw [hall i]; simp)] : td i = (T3.pu i).or (X.td i)))
              clear B0 BT hft hM hK hall
              go_upto_region 27 with fail
              refine wp_region_held_drew (S := fun w' => w'.cell? ⟨t, 193, none⟩ = some (.slice none 0 0) ∧ w'.cell? ⟨t, 194, none⟩ = some (.slice (some ⟨gn, go, none⟩) 32 gc) ∧ Hid (Chg (One f) wa w')) (by kernel_rfl) ⟨(HTL.out _ c00).1, (HTL.out _ c00).2.1, c00⟩ (fun hSn => ?_)
              simp only [List.size_toArray, List.length_cons, List.length_nil, Nat.reduceAdd, Array.replicate_succ, Array.replicate_zero, List.push_toArray, List.nil_append, List.cons_append]
              refine wpAnyH_take (i := 0) (oi := { dst := some 115, op := Op.move (Operand.tmp 8), type := 63, pos := "txn.go:236", after := #[], guard := none }) (v := .pointer (some ⟨f, 0, none⟩)) rfl (by kernel_rfl) (by kernel_rfl) (by kernel_rfl) (fun _ _ _ h => h) (Or.inl ⟨by rfl, by (intro w hSw; (try dsimp only at hSw); go_simp)⟩) (by assumption) ?_
              try simp only [Act.put, List.setIfInBounds_toArray, List.set_cons_zero, List.set_cons_succ]
              refine wpAnyH_take (i := 1) (oi := { dst := some 116, op := Op.move (Operand.tmp 8), type := 63, pos := "txn.go:236", after := #[{ on := 17, ground := Ground.gcOnly Departure.lateStores }], guard := none }) (v := .pointer (some ⟨f, 0, none⟩)) rfl (by kernel_rfl) (by kernel_rfl) (by kernel_rfl) (fun _ _ _ h => h) (Or.inl ⟨by rfl, by (intro w hSw; (try dsimp only at hSw); go_simp)⟩) (by assumption) ?_
              try simp only [Act.put, List.setIfInBounds_toArray, List.set_cons_zero, List.set_cons_succ]
              refine wpAnyH_take (i := 2) (oi := { dst := some 117, op := Op.move (Operand.tmp 8), type := 63, pos := "txn.go:236", after := #[{ on := 20, ground := Ground.gcOnly Departure.lateStores }], guard := none }) (v := .pointer (some ⟨f, 0, none⟩)) rfl (by kernel_rfl) (by kernel_rfl) (by kernel_rfl) (fun _ _ _ h => h) (Or.inl ⟨by rfl, by (intro w hSw; (try dsimp only at hSw); go_simp)⟩) (by assumption) ?_
              try simp only [Act.put, List.setIfInBounds_toArray, List.set_cons_zero, List.set_cons_succ]
              refine wpAnyH_take (i := 3) (oi := { dst := some 118, op := Op.move (Operand.tmp 0), type := 139, pos := "txn.go:236", after := #[], guard := none }) (v := .pointer (some ⟨t, 0, none⟩)) rfl (by kernel_rfl) (by kernel_rfl) (by kernel_rfl) (fun _ _ _ h => h) (Or.inl ⟨by rfl, by (intro w hSw; (try dsimp only at hSw); go_simp)⟩) (by assumption) ?_
              try simp only [Act.put, List.setIfInBounds_toArray, List.set_cons_zero, List.set_cons_succ]
              refine wpAnyH_take (i := 4) (oi := { dst := some 119, op := Op.nilCheck (Operand.tmp 118), type := 0, pos := "txn.go:236", after := #[{ on := 3, ground := Ground.data }], guard := none }) (v := .pointer (some ⟨t, 0, none⟩)) rfl (by kernel_rfl) (by kernel_rfl) (by kernel_rfl) (fun _ _ _ h => h) (Or.inl ⟨by rfl, by (intro w hSw; (try dsimp only at hSw); go_simp)⟩) (by assumption) ?_
              try simp only [Act.put, List.setIfInBounds_toArray, List.set_cons_zero, List.set_cons_succ]
              refine wpAnyH_take (i := 5) (oi := { dst := some 120, op := Op.fieldAddr 244 (Operand.tmp 119) 1, type := 0, pos := "txn.go:236", after := #[{ on := 4, ground := Ground.data }], guard := none }) (v := .pointer (some ⟨t, 1, none⟩)) rfl (by kernel_rfl) (by kernel_rfl) (by kernel_rfl) (fun _ _ _ h => h) (Or.inl ⟨by rfl, by (intro w hSw; (try dsimp only at hSw); go_simp)⟩) (by assumption) ?_
              try simp only [Act.put, List.setIfInBounds_toArray, List.set_cons_zero, List.set_cons_succ]
              refine wpAnyH_take (i := 6) (oi := { dst := some 121, op := Op.load 115 (Operand.tmp 120), type := 115, pos := "txn.go:236", after := #[{ on := 5, ground := Ground.data }], guard := none }) rfl (by kernel_rfl) (by kernel_rfl) (by kernel_rfl) (fun _ _ _ h => h) (yieldsIf_load_run (r := .agg fo.toArray) (fun w hS => (HTL.out w hS.2.2.out).2.2) (by rfl) (by rfl) (by rfl)) (by assumption) ?_
              try simp only [Act.put, List.setIfInBounds_toArray, List.set_cons_zero, List.set_cons_succ]
              refine wpAnyH_take (i := 7) (oi := { dst := some 122, op := Op.move (Operand.tmp 0), type := 139, pos := "txn.go:236", after := #[], guard := none }) (v := .pointer (some ⟨t, 0, none⟩)) rfl (by kernel_rfl) (by kernel_rfl) (by kernel_rfl) (fun _ _ _ h => h) (Or.inl ⟨by rfl, by (intro w hSw; (try dsimp only at hSw); go_simp)⟩) (by assumption) ?_
              try simp only [Act.put, List.setIfInBounds_toArray, List.set_cons_zero, List.set_cons_succ]
              refine wpAnyH_take (i := 8) (oi := { dst := some 123, op := Op.nilCheck (Operand.tmp 122), type := 0, pos := "txn.go:236", after := #[{ on := 7, ground := Ground.data }], guard := none }) (v := .pointer (some ⟨t, 0, none⟩)) rfl (by kernel_rfl) (by kernel_rfl) (by kernel_rfl) (fun _ _ _ h => h) (Or.inl ⟨by rfl, by (intro w hSw; (try dsimp only at hSw); go_simp)⟩) (by assumption) ?_
              try simp only [Act.put, List.setIfInBounds_toArray, List.set_cons_zero, List.set_cons_succ]
              refine wpAnyH_take (i := 9) (oi := { dst := some 124, op := Op.fieldAddr 244 (Operand.tmp 123) 2, type := 0, pos := "txn.go:236", after := #[{ on := 8, ground := Ground.data }], guard := none }) (v := .pointer (some ⟨t, 193, none⟩)) rfl (by kernel_rfl) (by kernel_rfl) (by kernel_rfl) (fun _ _ _ h => h) (Or.inl ⟨by rfl, by (intro w hSw; (try dsimp only at hSw); go_simp)⟩) (by assumption) ?_
              try simp only [Act.put, List.setIfInBounds_toArray, List.set_cons_zero, List.set_cons_succ]
              refine wpAnyH_take (i := 10) (oi := { dst := some 125, op := Op.load 131 (Operand.tmp 124), type := 131, pos := "txn.go:236", after := #[{ on := 9, ground := Ground.data }], guard := none }) (v := .slice none 0 0) rfl (by kernel_rfl) (by kernel_rfl) (by kernel_rfl) (fun _ _ _ h => h) (Or.inl ⟨by rfl, by (intro w hSw; (try dsimp only at hSw); go_simp)⟩) (by assumption) ?_
              try simp only [Act.put, List.setIfInBounds_toArray, List.set_cons_zero, List.set_cons_succ]
              refine wpAnyH_take (i := 11) (oi := { dst := some 126, op := Op.move (Operand.tmp 0), type := 139, pos := "txn.go:236", after := #[], guard := none }) (v := .pointer (some ⟨t, 0, none⟩)) rfl (by kernel_rfl) (by kernel_rfl) (by kernel_rfl) (fun _ _ _ h => h) (Or.inl ⟨by rfl, by (intro w hSw; (try dsimp only at hSw); go_simp)⟩) (by assumption) ?_
              try simp only [Act.put, List.setIfInBounds_toArray, List.set_cons_zero, List.set_cons_succ]
              refine wpAnyH_take (i := 12) (oi := { dst := some 127, op := Op.nilCheck (Operand.tmp 126), type := 0, pos := "txn.go:236", after := #[{ on := 11, ground := Ground.data }], guard := none }) (v := .pointer (some ⟨t, 0, none⟩)) rfl (by kernel_rfl) (by kernel_rfl) (by kernel_rfl) (fun _ _ _ h => h) (Or.inl ⟨by rfl, by (intro w hSw; (try dsimp only at hSw); go_simp)⟩) (by assumption) ?_
              try simp only [Act.put, List.setIfInBounds_toArray, List.set_cons_zero, List.set_cons_succ]
              refine wpAnyH_take (i := 13) (oi := { dst := some 128, op := Op.fieldAddr 244 (Operand.tmp 127) 3, type := 0, pos := "txn.go:236", after := #[{ on := 12, ground := Ground.data }], guard := none }) (v := .pointer (some ⟨t, 194, none⟩)) rfl (by kernel_rfl) (by kernel_rfl) (by kernel_rfl) (fun _ _ _ h => h) (Or.inl ⟨by rfl, by (intro w hSw; (try dsimp only at hSw); go_simp)⟩) (by assumption) ?_
              try simp only [Act.put, List.setIfInBounds_toArray, List.set_cons_zero, List.set_cons_succ]
              refine wpAnyH_take (i := 14) (oi := { dst := some 129, op := Op.load 128 (Operand.tmp 128), type := 128, pos := "txn.go:236", after := #[{ on := 13, ground := Ground.data }], guard := none }) (v := .slice (some ⟨gn, go, none⟩) 32 gc) rfl (by kernel_rfl) (by kernel_rfl) (by kernel_rfl) (fun _ _ _ h => h) (Or.inl ⟨by rfl, by (intro w hSw; (try dsimp only at hSw); go_simp)⟩) (by assumption) ?_
              try simp only [Act.put, List.setIfInBounds_toArray, List.set_cons_zero, List.set_cons_succ]
              refine wpAnyH_take (i := 15) (oi := { dst := some 130, op := Op.nilCheck (Operand.tmp 115), type := 0, pos := "txn.go:236", after := #[{ on := 0, ground := Ground.data }, { on := 0, ground := Ground.phase }, { on := 1, ground := Ground.textOnly Departure.lateStores }, { on := 2, ground := Ground.textOnly Departure.lateStores }, { on := 3, ground := Ground.phase }, { on := 4, ground := Ground.phase }, { on := 5, ground := Ground.phase }, { on := 6, ground := Ground.phase }, { on := 7, ground := Ground.textOnly Departure.lateStores }, { on := 8, ground := Ground.textOnly Departure.lateStoresUnsure }, { on := 9, ground := Ground.textOnly Departure.lateStoresUnsure }, { on := 10, ground := Ground.phase }, { on := 11, ground := Ground.textOnly Departure.lateStores }, { on := 12, ground := Ground.textOnly Departure.lateStoresUnsure }, { on := 13, ground := Ground.textOnly Departure.lateStoresUnsure }, { on := 14, ground := Ground.phase }], guard := none }) (v := .pointer (some ⟨f, 0, none⟩)) rfl (by kernel_rfl) (by kernel_rfl) (by kernel_rfl) (fun _ _ _ h => h) (Or.inl ⟨by rfl, by (intro w hSw; (try dsimp only at hSw); go_simp)⟩) (by assumption) ?_
              try simp only [Act.put, List.setIfInBounds_toArray, List.set_cons_zero, List.set_cons_succ]
              refine wpAnyH_take (i := 16) (oi := { dst := some 131, op := Op.fieldAddr 137 (Operand.tmp 130) 2, type := 0, pos := "txn.go:236", after := #[{ on := 15, ground := Ground.data }, { on := 0, ground := Ground.phase }, { on := 1, ground := Ground.textOnly Departure.lateStores }, { on := 2, ground := Ground.textOnly Departure.lateStores }, { on := 3, ground := Ground.phase }, { on := 4, ground := Ground.phase }, { on := 5, ground := Ground.phase }, { on := 6, ground := Ground.phase }, { on := 7, ground := Ground.textOnly Departure.lateStores }, { on := 8, ground := Ground.textOnly Departure.lateStoresUnsure }, { on := 9, ground := Ground.textOnly Departure.lateStoresUnsure }, { on := 10, ground := Ground.phase }, { on := 11, ground := Ground.textOnly Departure.lateStores }, { on := 12, ground := Ground.textOnly Departure.lateStoresUnsure }, { on := 13, ground := Ground.textOnly Departure.lateStoresUnsure }, { on := 14, ground := Ground.phase }], guard := none }) (v := .pointer (some ⟨f, 2, none⟩)) rfl (by kernel_rfl) (by kernel_rfl) (by kernel_rfl) (fun _ _ _ h => h) (Or.inl ⟨by rfl, by (intro w hSw; (try dsimp only at hSw); go_simp)⟩) (by assumption) ?_
              try simp only [Act.put, List.setIfInBounds_toArray, List.set_cons_zero, List.set_cons_succ]
              have d1 := c00.trans S3 (fun _ _ h => h)
              generalize wa.drew.setCells f 2 fo = W1 at S1 S2 d1
              refine wpAnyH_ready (rs := [17]) (by kernel_rfl) (by simp) ?_
              refine AllReadyH.cons (o := { dst := none, op := Op.store 115 (Operand.tmp 131) (Operand.tmp 121), type := 0, pos := "txn.go:236", after := #[{ on := 16, ground := Ground.data }, { on := 6, ground := Ground.data }, { on := 0, ground := Ground.phase }, { on := 1, ground := Ground.textOnly Departure.lateStores }, { on := 2, ground := Ground.textOnly Departure.lateStores }, { on := 3, ground := Ground.phase }, { on := 4, ground := Ground.phase }, { on := 5, ground := Ground.phase }, { on := 6, ground := Ground.phase }, { on := 7, ground := Ground.textOnly Departure.lateStores }, { on := 8, ground := Ground.textOnly Departure.lateStoresUnsure }, { on := 9, ground := Ground.textOnly Departure.lateStoresUnsure }, { on := 10, ground := Ground.phase }, { on := 11, ground := Ground.textOnly Departure.lateStores }, { on := 12, ground := Ground.textOnly Departure.lateStoresUnsure }, { on := 13, ground := Ground.textOnly Departure.lateStoresUnsure }, { on := 14, ground := Ground.phase }], guard := none }) rfl (fun K hK => ?_) AllReadyH.nil
              refine step_store_run S1 (by rfl) (by rfl) (by rfl) (by rfl) ?_
              refine hK.out _ _ ⟨(HTL.out _ d1).1, (HTL.out _ d1).2.1, d1⟩ (fun hSn => ?_)
              clear hK K
              try simp only [Act.put, List.setIfInBounds_toArray, List.set_cons_zero, List.set_cons_succ]
              refine wpAnyH_take (i := 18) (oi := { dst := some 132, op := Op.nilCheck (Operand.tmp 116), type := 0, pos := "txn.go:236", after := #[{ on := 1, ground := Ground.data }, { on := 0, ground := Ground.phase }, { on := 1, ground := Ground.phase }, { on := 2, ground := Ground.textOnly Departure.lateStores }, { on := 3, ground := Ground.phase }, { on := 4, ground := Ground.phase }, { on := 5, ground := Ground.phase }, { on := 6, ground := Ground.phase }, { on := 7, ground := Ground.phase }, { on := 8, ground := Ground.phase }, { on := 9, ground := Ground.phase }, { on := 10, ground := Ground.phase }, { on := 11, ground := Ground.textOnly Departure.lateStores }, { on := 12, ground := Ground.textOnly Departure.lateStoresUnsure }, { on := 13, ground := Ground.textOnly Departure.lateStoresUnsure }, { on := 14, ground := Ground.phase }, { on := 15, ground := Ground.phase }, { on := 16, ground := Ground.phase }, { on := 17, ground := Ground.phase }], guard := none }) (v := .pointer (some ⟨f, 0, none⟩)) rfl (by kernel_rfl) (by kernel_rfl) (by kernel_rfl) (fun _ _ _ h => h) (Or.inl ⟨by rfl, by (intro w hSw; (try dsimp only at hSw); go_simp)⟩) (by assumption) ?_
              try simp only [Act.put, List.setIfInBounds_toArray, List.set_cons_zero, List.set_cons_succ]
              refine wpAnyH_take (i := 19) (oi := { dst := some 133, op := Op.fieldAddr 137 (Operand.tmp 132) 3, type := 0, pos := "txn.go:236", after := #[{ on := 18, ground := Ground.data }, { on := 0, ground := Ground.phase }, { on := 1, ground := Ground.phase }, { on := 2, ground := Ground.textOnly Departure.lateStores }, { on := 3, ground := Ground.phase }, { on := 4, ground := Ground.phase }, { on := 5, ground := Ground.phase }, { on := 6, ground := Ground.phase }, { on := 7, ground := Ground.phase }, { on := 8, ground := Ground.phase }, { on := 9, ground := Ground.phase }, { on := 10, ground := Ground.phase }, { on := 11, ground := Ground.textOnly Departure.lateStores }, { on := 12, ground := Ground.textOnly Departure.lateStoresUnsure }, { on := 13, ground := Ground.textOnly Departure.lateStoresUnsure }, { on := 14, ground := Ground.phase }, { on := 15, ground := Ground.phase }, { on := 16, ground := Ground.phase }, { on := 17, ground := Ground.phase }], guard := none }) (v := .pointer (some ⟨f, 194, none⟩)) rfl (by kernel_rfl) (by kernel_rfl) (by kernel_rfl) (fun _ _ _ h => h) (Or.inl ⟨by rfl, by (intro w hSw; (try dsimp only at hSw); go_simp)⟩) (by assumption) ?_
              try simp only [Act.put, List.setIfInBounds_toArray, List.set_cons_zero, List.set_cons_succ]
              have ST2 := store_one (P := Tryz.prog) (ty := 131) (i := 194) (u := .slice none 0 0) S2 (by rw [fsC_len _ _ _ hfl]; omega) (by kernel_rfl) rfl rfl
              rw [fsC_overR _ _ _ hfl] at ST2
              obtain ⟨P1, P2, P3⟩ := ST2
              have d2 := d1.trans P3 (fun _ _ h => h)
              generalize W1.setCells f 194 [.slice none 0 0] = W2 at P1 P2 d2
              clear S1 S2 S3 P3
              refine wpAnyH_ready (rs := [20]) (by kernel_rfl) (by simp) ?_
              refine AllReadyH.cons (o := { dst := none, op := Op.store 131 (Operand.tmp 133) (Operand.tmp 125), type := 0, pos := "txn.go:236", after := #[{ on := 19, ground := Ground.data }, { on := 10, ground := Ground.data }, { on := 17, ground := Ground.chain }, { on := 0, ground := Ground.phase }, { on := 1, ground := Ground.phase }, { on := 2, ground := Ground.textOnly Departure.lateStores }, { on := 3, ground := Ground.phase }, { on := 4, ground := Ground.phase }, { on := 5, ground := Ground.phase }, { on := 6, ground := Ground.phase }, { on := 7, ground := Ground.phase }, { on := 8, ground := Ground.phase }, { on := 9, ground := Ground.phase }, { on := 10, ground := Ground.phase }, { on := 11, ground := Ground.textOnly Departure.lateStores }, { on := 12, ground := Ground.textOnly Departure.lateStoresUnsure }, { on := 13, ground := Ground.textOnly Departure.lateStoresUnsure }, { on := 14, ground := Ground.phase }, { on := 15, ground := Ground.phase }, { on := 16, ground := Ground.phase }, { on := 17, ground := Ground.phase }], guard := none }) rfl (fun K hK => ?_) AllReadyH.nil
              refine step_store_run P1 (by rfl) (by rfl) (by rfl) (by rfl) ?_
              refine hK.out _ _ ⟨(HTL.out _ d2).1, (HTL.out _ d2).2.1, d2⟩ (fun hSn => ?_)
              clear hK K
              try simp only [Act.put, List.setIfInBounds_toArray, List.set_cons_zero, List.set_cons_succ]
              refine wpAnyH_take (i := 21) (oi := { dst := some 134, op := Op.nilCheck (Operand.tmp 117), type := 0, pos := "txn.go:236", after := #[{ on := 2, ground := Ground.data }, { on := 0, ground := Ground.phase }, { on := 1, ground := Ground.phase }, { on := 2, ground := Ground.phase }, { on := 3, ground := Ground.phase }, { on := 4, ground := Ground.phase }, { on := 5, ground := Ground.phase }, { on := 6, ground := Ground.phase }, { on := 7, ground := Ground.phase }, { on := 8, ground := Ground.phase }, { on := 9, ground := Ground.phase }, { on := 10, ground := Ground.phase }, { on := 11, ground := Ground.phase }, { on := 12, ground := Ground.phase }, { on := 13, ground := Ground.phase }, { on := 14, ground := Ground.phase }, { on := 15, ground := Ground.phase }, { on := 16, ground := Ground.phase }, { on := 17, ground := Ground.phase }, { on := 18, ground := Ground.phase }, { on := 19, ground := Ground.phase }, { on := 20, ground := Ground.phase }], guard := none }) (v := .pointer (some ⟨f, 0, none⟩)) rfl (by kernel_rfl) (by kernel_rfl) (by kernel_rfl) (fun _ _ _ h => h) (Or.inl ⟨by rfl, by (intro w hSw; (try dsimp only at hSw); go_simp)⟩) (by assumption) ?_
              try simp only [Act.put, List.setIfInBounds_toArray, List.set_cons_zero, List.set_cons_succ]
              refine wpAnyH_take (i := 22) (oi := { dst := some 135, op := Op.fieldAddr 137 (Operand.tmp 134) 4, type := 0, pos := "txn.go:236", after := #[{ on := 21, ground := Ground.data }, { on := 0, ground := Ground.phase }, { on := 1, ground := Ground.phase }, { on := 2, ground := Ground.phase }, { on := 3, ground := Ground.phase }, { on := 4, ground := Ground.phase }, { on := 5, ground := Ground.phase }, { on := 6, ground := Ground.phase }, { on := 7, ground := Ground.phase }, { on := 8, ground := Ground.phase }, { on := 9, ground := Ground.phase }, { on := 10, ground := Ground.phase }, { on := 11, ground := Ground.phase }, { on := 12, ground := Ground.phase }, { on := 13, ground := Ground.phase }, { on := 14, ground := Ground.phase }, { on := 15, ground := Ground.phase }, { on := 16, ground := Ground.phase }, { on := 17, ground := Ground.phase }, { on := 18, ground := Ground.phase }, { on := 19, ground := Ground.phase }, { on := 20, ground := Ground.phase }], guard := none }) (v := .pointer (some ⟨f, 195, none⟩)) rfl (by kernel_rfl) (by kernel_rfl) (by kernel_rfl) (fun _ _ _ h => h) (Or.inl ⟨by rfl, by (intro w hSw; (try dsimp only at hSw); go_simp)⟩) (by assumption) ?_
              try simp only [Act.put, List.setIfInBounds_toArray, List.set_cons_zero, List.set_cons_succ]
              have ST3 := store_one (P := Tryz.prog) (ty := 128) (i := 195) (u := .slice (some ⟨gn, go, none⟩) 32 gc) P2 (by rw [fsC_len _ _ _ hfl]; omega) (by kernel_rfl) rfl rfl
              rw [fsC_overN _ _ _ hfl] at ST3
              obtain ⟨Q1, Q2, Q3⟩ := ST3
              have d3 := d2.trans Q3 (fun _ _ h => h)
              generalize W2.setCells f 195 [.slice (some ⟨gn, go, none⟩) 32 gc] = W3 at Q1 Q2 d3
              clear P1 P2 Q3
              refine wpAnyH_ready (rs := [23]) (by kernel_rfl) (by simp) ?_
              refine AllReadyH.cons (o := { dst := none, op := Op.store 128 (Operand.tmp 135) (Operand.tmp 129), type := 0, pos := "txn.go:236", after := #[{ on := 22, ground := Ground.data }, { on := 14, ground := Ground.data }, { on := 20, ground := Ground.chain }, { on := 0, ground := Ground.phase }, { on := 1, ground := Ground.phase }, { on := 2, ground := Ground.phase }, { on := 3, ground := Ground.phase }, { on := 4, ground := Ground.phase }, { on := 5, ground := Ground.phase }, { on := 6, ground := Ground.phase }, { on := 7, ground := Ground.phase }, { on := 8, ground := Ground.phase }, { on := 9, ground := Ground.phase }, { on := 10, ground := Ground.phase }, { on := 11, ground := Ground.phase }, { on := 12, ground := Ground.phase }, { on := 13, ground := Ground.phase }, { on := 14, ground := Ground.phase }, { on := 15, ground := Ground.phase }, { on := 16, ground := Ground.phase }, { on := 17, ground := Ground.phase }, { on := 18, ground := Ground.phase }, { on := 19, ground := Ground.phase }, { on := 20, ground := Ground.phase }], guard := none }) rfl (fun K hK => ?_) AllReadyH.nil
              refine step_store_run Q1 (by rfl) (by rfl) (by rfl) (by rfl) ?_
              refine hK.out _ _ ⟨(HTL.out _ d3).1, (HTL.out _ d3).2.1, d3⟩ (fun hSn => ?_)
              clear hK K
              try simp only [Act.put, List.setIfInBounds_toArray, List.set_cons_zero, List.set_cons_succ]
              refine wpAnyH_done (by kernel_rfl) ?_ _
              have FN := hid (FIN.out W3 Q2 d3)
              clear FIN Q1 Q2
              go_wp2
              go_ret
              exact ⟨rfl, hid ⟨⟨T3.ns, some ⟨gn, go, none⟩, gc, T3.m, td, X.hd⟩, HT3.out.1, HT3.out.2.1, rfl, fun i hi => by
                show td i = _
                rw [hK2.out i, HT3.out.2.2 i hi], FN.out.1, ((C3.out.mono (G := fun k => Mt t gn bd bp k ∨ k = f ∨ k = bt) (fun _ _ h => .inl h)).trans HCl.out (fun _ _ h => h.elim)).trans FN.out.2 (fun _ _ h => .inr h)⟩⟩
            · intro i v w6 cnt6 hleft hfv hfs hR6 hcnt hC6 hsz6 hen
              obtain ⟨s, hs, hv⟩ : ∃ s, T3.pu i = some s ∧ v = s.val := by
                unfold secM at hfs hfv
                cases hp : T3.pu i with
                | none => rw [hp] at hfs; cases hfs
                | some s => exact ⟨s, rfl, (hfv _ (by rw [hp]; rfl)).symm⟩
              replace hv := hid hv
              have hC7 := hid (hC.out.trans hC6 (fun i hi h => by have : i = wl.heap.size := h; omega))
              have hne6 : ¬ One wl.heap.size bt := fun hh => by
                have h1 : bt = wl.heap.size := hh
                have := hbt.out.2
                omega
              have f196 : w6.cell? ⟨f, 196, none⟩ = some (.map (some bt)) := by
                exact (hC7.out.cell (a := ⟨f, 196, none⟩) (HW.out.fs.lt f HW.out.fs.inF.1) (fun hh => HW.out.fs.ne.1 hh)).trans HW.out.fs.c196
              have hM6 := hid (hM.out.chg hC6 hne6)
              have hik := HW.out.pkey i (by rw [hs]; rfl)
              have := HW.out.mle
              have hwf := wf_key (i := i) (by omega) (by omega)
              have hlt := hid hcnt
              have hc6 := hid hR6.cnt_eq
              replace hR6 := hid (fun w' (c : Chg (One bt) w6 w') => hR6.chg c (fun hh => hbt.out.1 hh.symm) (fun hh => hne6 hh.symm))
              have hK6 := hid (hK.out.more hs)
              have hc0 := hid hR.out.cnt_eq
              clear hfv hfs hC6 hsz6 hcnt hleft hK hM hC hR hne6
              go_wp2_with (at_mapUpdate; go_loud (refine wpList_store _ (by rfl) _ _ _ 134 (by rfl) Tryz.underlying3 Tryz.underlying134 bt 40 (secM td) (by rfl) hM6.out (by omega) i v (by rfl) (by rfl) hwf ?_); intro w7 q1 q2; rw [hv.out, ← secM_upd] at q1; replace q1 := hid q1; replace q2 := hid q2; simp only [Act.put])
              have hR7 := hid (hR6.out w7 q2.out)
              have hM7 := hid (q1.out.use (hK6.out.key HW.out.fs.mle HW.out.mle HW.out.fs.tkey HW.out.pkey))
              have hC8 := hid (hC7.out.trans q2.out (fun _ _ h => h))
              have hc7 := hid hR7.out.cnt_eq
              go_roundw
              case rel =>
                exact ⟨_, cnt6, _, hR7, hC8, hM7, hK6⟩
              case measure => rw [hc7.out, hc0.out]; exact hlt.out
        · intro i v w5 cnt5 hleft hfv hfs hR5 hcnt hC5 hsz5 hen
          have hC6 := hid (hC.out.trans hC5 (fun i hi h => by have : i = w3.heap.size := h; omega))
          have HW := HB3.out w5 hC6.out
          have f196 := HW.fs.c196
          have hiu : (T3.pu i).isSome = true := by unfold secM at hfs; rwa [Option.isSome_map] at hfs
          have hik := HW.pkey i hiu
          have := HW.mle
          have HL := HW.fs.todo.look_ok (t := 134) (e := 22) (z := .slice none 0 0) Tryz.underlying3 Tryz.underlying134 (by kernel_rfl) i (wf_key (by omega) (by omega))
          have hlt : cnt5 < wr.rangeLeft bp w3.heap.size := by rw [hR.out.cnt_eq]; exact hcnt
          have hlt' := hid hlt
          have hc5 := hid hR5.cnt_eq
          replace hR5 := hid hR5
          clear hfv hfs hC5 hsz5 hlt hcnt
          cases hx : X.td i with
          | none =>
            have hV' := hid (hV.out.more hleft hiu hx)
            unfold secM at HL
            rw [hx] at HL
            simp only [Option.map_none, Option.getD_none, Option.isSome_none] at HL
            clear hleft hiu hx hik hV HW hR
            go_wp2
            go_roundw
            case rel => exact ⟨k + 1, by simp; omega, _, cnt5, hR5, hC6, hV'⟩
            case measure => rw [hc5.out]; exact hlt'.out
          | some sx =>
            have hV' := hid (hV.out.less (i := i))
            unfold secM at HL
            rw [hx] at HL
            simp only [Option.map_some, Option.getD_some, Option.isSome_some] at HL
            clear hleft hiu hx hik hV HW hR
            go_wp2
            go_roundw
            case rel => exact ⟨k, rfl, _, cnt5, hR5, hC6, hV'⟩
            case measure => rw [hc5.out]; exact hlt'.out
end Go.Proofs.YtdcbagmgflcemaaGreatDoor
namespace Go.Proofs.YtdcbagmgflcemaaGreatDoor
open Go.ChangeShapes Go.WideShapes Go.ChangeAt Go.RowKit
set_option linter.unusedVariables false
set_option linter.unusedSimpArgs false
set_option maxRecDepth 100000 in
set_option maxHeartbeats 1000000 in
theorem ffits_ok {w : World} {FF FD : Nat → Prop} {f p q bt bh : Nat} {zs : List Int} {X : FX} {N : Nat} {R : Nat → Prop} {t gn go gc bd bp : Nat} {T : TX} (h : TxA w FF FD f p q bt bh zs X N R t gn go gc bd bp T) :
    Calls Tryz.prog 121 #[.pointer (some ⟨t, 0, none⟩)] w fun e w' => e = .returned (.bool true) ∧ w = w' := by
  have k0 := h.c0
  have k1 := h.fs.c194
  clear h
  go_enter Tryz.func121, Tryz.ntmps121
  go_wp2
  go_loopw [14] (fun s wr => s = .int .i64 0 ∧ wr = w) (fun _ _ => 0)
  case atStart => exact ⟨rfl, rfl⟩
  case round =>
    obtain ⟨rfl, rfl⟩ := hrel
    go_wp2
    go_ret
    exact ⟨rfl, rfl⟩
theorem over_same {cs : List Value} {i : Nat} {v : Value} (h : cs[i]? = some v) : over_ cs i [v] = cs := by
  obtain ⟨hi, hv⟩ := List.getElem?_eq_some_iff.1 h
  unfold over_
  simp only [List.length_singleton]
  rw [← hv]
  simp
theorem TxA.same {w : World} {FF FD : Nat → Prop} {f p q bt bh : Nat} {zs : List Int} {X : FX} {N : Nat} {R : Nat → Prop} {t gn go gc bd bp : Nat} {T : TX} {w' : World} (h : TxA w FF FD f p q bt bh zs X N R t gn go gc bd bp T) (c : Chg (One t) w w') (hb : Blk w' t 244 (txC f (foM T.m) (some ⟨gn, go, none⟩) gc bd bp)) : TxA w' FF FD f p q bt bh zs X N R t gn go gc bd bp T ∧ Chg (Mt t gn bd bp) w w' := by
  have hne := h.ne
  have C : Chg (Mt t gn bd bp) w w' := c.mono (fun i _ hi => one_mt (Or.inl rfl) i hi)
  exact ⟨h.step C hb (h.nodes.chg c (fun g hg hh => by injection hg with hg; exact hne.1 (hg.trans hh).symm)) (fun i hi => h.pts' C (h.pts i hi)) h.nok (h.dirt.chg c (fun hh => hne.2.1 hh.symm)) h.dkey h.dval (h.put.chg c (fun hh => hne.2.2.1 hh.symm)) (fun j s hj => h.sec' C (h.psec j s hj)) h.pkey h.mle, C⟩
/-- Where the number of the sector of two nodes lies. -/
theorem txC_num (f m : Nat) (ga : Option Addr) (gc bd bp : Nat) {k : Nat} (hk : k < 16) : (txC f (foM m) ga gc bd bp)[1 + k]? = some (.int .i64 (37 + (k : Int))) := by
  unfold txC
  rw [List.append_assoc, List.getElem?_append_right (by simp), List.getElem?_append_left (by rw [foM_len]; simp; omega), show 1 + k - List.length [Value.pointer (some ⟨f, 0, none⟩)] = k by simp, foM_first m hk]
/-- Whether a node changed. -/
theorem TxA.dirty {w : World} {FF FD : Nat → Prop} {f p q bt bh : Nat} {zs : List Int} {X : FX} {N : Nat} {R : Nat → Prop} {t gn go gc bd bp : Nat} {T : TX} (h : TxA w FF FD f p q bt bh zs X N R t gn go gc bd bp T) (i : Int) (hi : 0 ≤ i ∧ i < 1000) :
    ∃ b : Bool, (Instr.lookup 242 (.map (some bd)) (.int .i64 i) false).run Tryz.prog w = .ok (.bool b) w := by
  have L := h.dirt.look (t := 242) (e := 4) (z := .bool false) Tryz.underlying3 Tryz.underlying242 (by kernel_rfl) i (wf_key (by omega) (by omega))
  cases hd : T.dt i with
  | none => rw [hd] at L; exact ⟨false, L⟩
  | some v =>
    rw [hd] at L
    have := h.dval i v hd
    subst this
    exact ⟨true, L⟩
/-- What the end of a change adds to it: sectors of nodes. -/
def EnT (T T' : TX) : Prop := T'.ns = T.ns ∧ T'.m = T.m ∧ T'.dt = T.dt ∧ ∀ k : Int, 53 ≤ k → T'.pu k = T.pu k
theorem EnT.refl (T : TX) : EnT T T := ⟨rfl, rfl, rfl, fun _ _ => rfl⟩
theorem EnT.put {T T' : TX} (h : EnT T T') {k : Int} (hk : k < 53) (s : Sec) : EnT T (T'.putS k s) := ⟨h.1, h.2.1, h.2.2.1, fun j hj => by
  show updS T'.pu k s j = T.pu j
  unfold updS
  rw [if_neg (by omega)]
  exact h.2.2.2 j hj⟩
set_option maxRecDepth 100000 in
set_option maxHeartbeats 4000000 in
theorem fend_ok {w : World} {FF FD : Nat → Prop} {f p q bt bh : Nat} {zs : List Int} {X : FX} {N : Nat} {R : Nat → Prop} {t gn go gc bd bp : Nat} {T : TX} (h : TxA w FF FD f p q bt bh zs X N R t gn go gc bd bp T) (hXm : X.m ≤ T.m) :
    Calls Tryz.prog 58 #[.pointer (some ⟨t, 0, none⟩)] w fun e w' => e = .returned (.int .i64 0) ∧ Hid (∃ X', X'.ns = T.ns ∧ X'.m = T.m ∧ X'.hd = X.hd ∧ (∀ i : Int, 53 ≤ i → X'.td i = (T.pu i).or (X.td i)) ∧ FsA w' (fun k => FF k ∨ (N ≤ k ∧ k < w'.heap.size)) FD f p q bt bh zs X' ∧ Chg (fun k => Mt t gn bd bp k ∨ k = f ∨ k = bt) w w') := by
  have H := hid h
  have HF := hid (ffits_ok h)
  replace hXm := hid hXm
  clear h
  go_enter Tryz.func58, Tryz.ntmps58
  go_wp2_with (go_at_call 121; refine HF.out.mono ?_; rintro e w' ⟨rfl, rfl⟩)
  clear HF
  go_loopw [14] (fun i wr => ∃ k : Nat, k ≤ 16 ∧ i = .int .i64 k ∧ Hid (TxA wr FF FD f p q bt bh zs X N R t gn go gc bd bp T) ∧ Hid (Chg (Mt t gn bd bp) w wr)) (fun i _ => 16 - (intOf i).toNat)
  case atStart => exact ⟨0, by omega, rfl, H, hid (Chg.refl _ _)⟩
  case round =>
    clear H
    obtain ⟨k, hk, rfl, HT, HC⟩ := hrel
    by_cases hlt : k < 16
    · have k195 := HT.out.c195
      obtain ⟨b1, L1⟩ := HT.out.dirty (2 * (k : Int) + 1) (by omega)
      obtain ⟨b2, L2⟩ := HT.out.dirty (2 * (k : Int) + 2) (by omega)
      go_upto_region 6 with fail
      go_cut [34] (fun s wx => ∃ b : Bool, s = .bool b ∧ wr = wx)
      case first =>
        cases b1
        · cases b2
          · go_wp2
            go_meet
            exact ⟨_, rfl, rfl⟩
          · go_wp2
            go_meet
            exact ⟨_, rfl, rfl⟩
        · go_wp2
          go_meet
          exact ⟨_, rfl, rfl⟩
      case rest =>
        obtain ⟨b, rfl, rfl⟩ := hcut
        clear L1 L2 b1 b2 k195
        cases b with
        | false =>
          go_wp2
          go_roundw
          case rel => exact ⟨k + 1, by omega, by go_num, HT, HC⟩
          case measure => simp [intOf]; omega
        | true =>
          have HOwn := hid (fun w' (h : TxA w' FF FD f p q bt bh zs X N R t gn go gc bd bp T) => fown_1 h (37 + (k : Int)) (by omega))
          have c0 := (HT.out.blk.cell (1 + k)).trans (txC_num f T.m _ gc bd bp hlt)
          have HT0 : Hid (TxA wr.drew FF FD f p q bt bh zs X N R t gn go gc bd bp T ∧ Chg (Mt t gn bd bp) wr wr.drew) := hid ⟨HT.out.nil (Chg.refl Nil wr).drew, (Chg.refl _ wr).drew⟩
          go_upto_region 7 with fail
          refine wp_region_held_drew (S := fun w' => w'.cell? ⟨t, 1 + k, none⟩ = some (.int .i64 (37 + (k : Int))) ∧ Hid (TxA w' FF FD f p q bt bh zs X N R t gn go gc bd bp T ∧ Chg (Mt t gn bd bp) wr w')) (by kernel_rfl) ⟨c0, HT0⟩ (fun hSn => ?_)
          simp only [List.size_toArray, List.length_cons, List.length_nil, Nat.reduceAdd, Array.replicate_succ, Array.replicate_zero, List.push_toArray, List.nil_append, List.cons_append]
          refine wpAnyH_take (i := 0) (oi := { dst := some 35, op := Op.move (Operand.tmp 0), type := 139, pos := "txn.go:187", after := #[], guard := none }) (v := .pointer (some ⟨t, 0, none⟩)) rfl (by kernel_rfl) (by kernel_rfl) (by kernel_rfl) (fun _ _ _ h => h) (Or.inl ⟨by rfl, by (intro w hSw; (try dsimp only at hSw); go_simp)⟩) (by assumption) ?_
          try simp only [Act.put, List.setIfInBounds_toArray, List.set_cons_zero, List.set_cons_succ]
          refine wpAnyH_take (i := 1) (oi := { dst := some 36, op := Op.move (Operand.tmp 3), type := 3, pos := "txn.go:187", after := #[], guard := none }) (v := .int .i64 (k : Int)) rfl (by kernel_rfl) (by kernel_rfl) (by kernel_rfl) (fun _ _ _ h => h) (Or.inl ⟨by rfl, by (intro w hSw; (try dsimp only at hSw); go_simp)⟩) (by assumption) ?_
          try simp only [Act.put, List.setIfInBounds_toArray, List.set_cons_zero, List.set_cons_succ]
          refine wpAnyH_take (i := 2) (oi := { dst := some 37, op := Op.move (Operand.tmp 0), type := 139, pos := "txn.go:187", after := #[], guard := none }) (v := .pointer (some ⟨t, 0, none⟩)) rfl (by kernel_rfl) (by kernel_rfl) (by kernel_rfl) (fun _ _ _ h => h) (Or.inl ⟨by rfl, by (intro w hSw; (try dsimp only at hSw); go_simp)⟩) (by assumption) ?_
          try simp only [Act.put, List.setIfInBounds_toArray, List.set_cons_zero, List.set_cons_succ]
          refine wpAnyH_take (i := 3) (oi := { dst := some 38, op := Op.move (Operand.tmp 0), type := 139, pos := "txn.go:187", after := #[], guard := none }) (v := .pointer (some ⟨t, 0, none⟩)) rfl (by kernel_rfl) (by kernel_rfl) (by kernel_rfl) (fun _ _ _ h => h) (Or.inl ⟨by rfl, by (intro w hSw; (try dsimp only at hSw); go_simp)⟩) (by assumption) ?_
          try simp only [Act.put, List.setIfInBounds_toArray, List.set_cons_zero, List.set_cons_succ]
          refine wpAnyH_take (i := 4) (oi := { dst := some 39, op := Op.move (Operand.tmp 3), type := 3, pos := "txn.go:187", after := #[], guard := none }) (v := .int .i64 (k : Int)) rfl (by kernel_rfl) (by kernel_rfl) (by kernel_rfl) (fun _ _ _ h => h) (Or.inl ⟨by rfl, by (intro w hSw; (try dsimp only at hSw); go_simp)⟩) (by assumption) ?_
          try simp only [Act.put, List.setIfInBounds_toArray, List.set_cons_zero, List.set_cons_succ]
          refine wpAnyH_take (i := 5) (oi := { dst := some 40, op := Op.nilCheck (Operand.tmp 38), type := 0, pos := "txn.go:187", after := #[{ on := 3, ground := Ground.data }], guard := none }) (v := .pointer (some ⟨t, 0, none⟩)) rfl (by kernel_rfl) (by kernel_rfl) (by kernel_rfl) (fun _ _ _ h => h) (Or.inl ⟨by rfl, by (intro w hSw; (try dsimp only at hSw); go_simp)⟩) (by assumption) ?_
          try simp only [Act.put, List.setIfInBounds_toArray, List.set_cons_zero, List.set_cons_succ]
          refine wpAnyH_take (i := 6) (oi := { dst := some 41, op := Op.fieldAddr 244 (Operand.tmp 40) 1, type := 0, pos := "txn.go:187", after := #[{ on := 5, ground := Ground.data }], guard := none }) (v := .pointer (some ⟨t, 1, none⟩)) rfl (by kernel_rfl) (by kernel_rfl) (by kernel_rfl) (fun _ _ _ h => h) (Or.inl ⟨by rfl, by (intro w hSw; (try dsimp only at hSw); go_simp)⟩) (by assumption) ?_
          try simp only [Act.put, List.setIfInBounds_toArray, List.set_cons_zero, List.set_cons_succ]
          refine wpAnyH_take (i := 7) (oi := { dst := some 42, op := Op.indexAddr 115 (Operand.tmp 41) (Operand.const (Value.int IntKind.i64 0)), type := 0, pos := "txn.go:187", after := #[{ on := 6, ground := Ground.data }], guard := none }) (v := .pointer (some ⟨t, 1, none⟩)) rfl (by kernel_rfl) (by kernel_rfl) (by kernel_rfl) (fun _ _ _ h => h) (Or.inl ⟨by rfl, by (intro w hSw; (try dsimp only at hSw); go_simp)⟩) (by assumption) ?_
          try simp only [Act.put, List.setIfInBounds_toArray, List.set_cons_zero, List.set_cons_succ]
          refine wpAnyH_take (i := 8) (oi := { dst := some 43, op := Op.fieldAddr 113 (Operand.tmp 42) 0, type := 0, pos := "txn.go:187", after := #[{ on := 7, ground := Ground.data }], guard := none }) (v := .pointer (some ⟨t, 1, none⟩)) rfl (by kernel_rfl) (by kernel_rfl) (by kernel_rfl) (fun _ _ _ h => h) (Or.inl ⟨by rfl, by (intro w hSw; (try dsimp only at hSw); go_simp)⟩) (by assumption) ?_
          try simp only [Act.put, List.setIfInBounds_toArray, List.set_cons_zero, List.set_cons_succ]
          refine wpAnyH_take (i := 9) (oi := { dst := some 44, op := Op.indexAddr 57 (Operand.tmp 43) (Operand.tmp 39), type := 0, pos := "txn.go:187", after := #[{ on := 8, ground := Ground.data }, { on := 4, ground := Ground.data }], guard := none }) (v := .pointer (some ⟨t, 1 + k, none⟩)) rfl (by kernel_rfl) (by kernel_rfl) (by kernel_rfl) (fun _ _ _ h => h) (Or.inl ⟨by rfl, by (intro w hSw; (try dsimp only at hSw); go_simp)⟩) (by assumption) ?_
          try simp only [Act.put, List.setIfInBounds_toArray, List.set_cons_zero, List.set_cons_succ]
          refine wpAnyH_take (i := 10) (oi := { dst := some 45, op := Op.load 3 (Operand.tmp 44), type := 3, pos := "txn.go:187", after := #[{ on := 9, ground := Ground.data }], guard := none }) (v := .int .i64 (37 + (k : Int))) rfl (by kernel_rfl) (by kernel_rfl) (by kernel_rfl) (fun _ _ _ h => h) (Or.inl ⟨by rfl, by (intro w hSw; (try dsimp only at hSw); go_simp)⟩) (by assumption) ?_
          try simp only [Act.put, List.setIfInBounds_toArray, List.set_cons_zero, List.set_cons_succ]
          refine wpAnyH_take (i := 12) (oi := { dst := some 47, op := Op.nilCheck (Operand.tmp 35), type := 0, pos := "txn.go:187", after := #[{ on := 0, ground := Ground.data }], guard := none }) (v := .pointer (some ⟨t, 0, none⟩)) rfl (by kernel_rfl) (by kernel_rfl) (by kernel_rfl) (fun _ _ _ h => h) (Or.inl ⟨by rfl, by (intro w hSw; (try dsimp only at hSw); go_simp)⟩) (by assumption) ?_
          try simp only [Act.put, List.setIfInBounds_toArray, List.set_cons_zero, List.set_cons_succ]
          refine wpAnyH_take (i := 13) (oi := { dst := some 48, op := Op.fieldAddr 244 (Operand.tmp 47) 1, type := 0, pos := "txn.go:187", after := #[{ on := 12, ground := Ground.data }], guard := none }) (v := .pointer (some ⟨t, 1, none⟩)) rfl (by kernel_rfl) (by kernel_rfl) (by kernel_rfl) (fun _ _ _ h => h) (Or.inl ⟨by rfl, by (intro w hSw; (try dsimp only at hSw); go_simp)⟩) (by assumption) ?_
          try simp only [Act.put, List.setIfInBounds_toArray, List.set_cons_zero, List.set_cons_succ]
          refine wpAnyH_take (i := 14) (oi := { dst := some 49, op := Op.indexAddr 115 (Operand.tmp 48) (Operand.const (Value.int IntKind.i64 0)), type := 0, pos := "txn.go:187", after := #[{ on := 13, ground := Ground.data }], guard := none }) (v := .pointer (some ⟨t, 1, none⟩)) rfl (by kernel_rfl) (by kernel_rfl) (by kernel_rfl) (fun _ _ _ h => h) (Or.inl ⟨by rfl, by (intro w hSw; (try dsimp only at hSw); go_simp)⟩) (by assumption) ?_
          try simp only [Act.put, List.setIfInBounds_toArray, List.set_cons_zero, List.set_cons_succ]
          refine wpAnyH_take (i := 15) (oi := { dst := some 50, op := Op.fieldAddr 113 (Operand.tmp 49) 0, type := 0, pos := "txn.go:187", after := #[{ on := 14, ground := Ground.data }], guard := none }) (v := .pointer (some ⟨t, 1, none⟩)) rfl (by kernel_rfl) (by kernel_rfl) (by kernel_rfl) (fun _ _ _ h => h) (Or.inl ⟨by rfl, by (intro w hSw; (try dsimp only at hSw); go_simp)⟩) (by assumption) ?_
          try simp only [Act.put, List.setIfInBounds_toArray, List.set_cons_zero, List.set_cons_succ]
          refine wpAnyH_ready (rs := [11]) (by kernel_rfl) (by simp) ?_
          refine AllReadyH.cons (o := { dst := some 46, op := Op.call { callee := Callee.value (Operand.func 122), args := #[Operand.tmp 37, Operand.tmp 45], argTypes := #[139, 3] }, type := 3, pos := "txn.go:187", after := #[{ on := 2, ground := Ground.data }, { on := 10, ground := Ground.data }], guard := none }) rfl (fun K hK => ?_) AllReadyH.nil
          go_simp
          go_at_call 122
          refine (HOwn.out _ hSn.2.out.1).mono ?_
          rintro e w3 ⟨rfl, c3⟩
          refine hK.out _ _ ⟨(hSn.2.out.1.nil c3).blk.cell (1 + k) |>.trans (txC_num f T.m _ gc bd bp hlt), hid ⟨hSn.2.out.1.nil c3, hSn.2.out.2.trans c3 (fun _ _ h => h.elim)⟩⟩ (fun hSn => ?_)
          clear hK K c3
          try simp only [Act.put, List.setIfInBounds_toArray, List.set_cons_zero, List.set_cons_succ]
          refine wpAnyH_take (i := 16) (oi := { dst := some 51, op := Op.indexAddr 57 (Operand.tmp 50) (Operand.tmp 36), type := 0, pos := "txn.go:187", after := #[{ on := 15, ground := Ground.data }, { on := 1, ground := Ground.data }, { on := 0, ground := Ground.phase }, { on := 1, ground := Ground.phase }, { on := 2, ground := Ground.phase }, { on := 3, ground := Ground.phase }, { on := 4, ground := Ground.phase }, { on := 5, ground := Ground.phase }, { on := 6, ground := Ground.phase }, { on := 7, ground := Ground.phase }, { on := 8, ground := Ground.phase }, { on := 9, ground := Ground.phase }, { on := 10, ground := Ground.phase }, { on := 11, ground := Ground.phase }], guard := none }) (v := .pointer (some ⟨t, 1 + k, none⟩)) rfl (by kernel_rfl) (by kernel_rfl) (by kernel_rfl) (fun _ _ _ h => h) (Or.inl ⟨by rfl, by (intro w hSw; (try dsimp only at hSw); go_simp)⟩) (by assumption) ?_
          try simp only [Act.put, List.setIfInBounds_toArray, List.set_cons_zero, List.set_cons_succ]
          have ST := store_one (P := Tryz.prog) (ty := 3) (i := 1 + k) (u := .int .i64 (37 + (k : Int))) hSn.2.out.1.blk (by rw [txC_len _ _ (foM_len _)]; omega) (by kernel_rfl) rfl rfl
          rw [over_same (txC_num f T.m _ gc bd bp hlt)] at ST
          obtain ⟨S1, S2, S3⟩ := ST
          have FIN := hSn.2.out.1.same S3 S2
          have CF := hSn.2.out.2.trans FIN.2 (fun _ _ h => h)
          generalize World.setCells _ t (1 + k) [.int .i64 (37 + (k : Int))] = W at S1 S2 S3 FIN CF
          clear S3
          refine wpAnyH_ready (rs := [17]) (by kernel_rfl) (by simp) ?_
          refine AllReadyH.cons (o := { dst := none, op := Op.store 3 (Operand.tmp 51) (Operand.tmp 46), type := 0, pos := "txn.go:187", after := #[{ on := 16, ground := Ground.data }, { on := 11, ground := Ground.data }, { on := 11, ground := Ground.chain }, { on := 0, ground := Ground.phase }, { on := 1, ground := Ground.phase }, { on := 2, ground := Ground.phase }, { on := 3, ground := Ground.phase }, { on := 4, ground := Ground.phase }, { on := 5, ground := Ground.phase }, { on := 6, ground := Ground.phase }, { on := 7, ground := Ground.phase }, { on := 8, ground := Ground.phase }, { on := 9, ground := Ground.phase }, { on := 10, ground := Ground.phase }, { on := 11, ground := Ground.phase }], guard := none }) rfl (fun K hK => ?_) AllReadyH.nil
          refine step_store_run S1 (by rfl) (by rfl) (by rfl) (by rfl) ?_
          refine hK.out _ _ ⟨(S2.cell (1 + k)).trans (txC_num f T.m _ gc bd bp hlt), hid ⟨FIN.1, CF⟩⟩ (fun hSn => ?_)
          clear hK K
          refine wpAnyH_done (by kernel_rfl) ?_ _
          have HT2 := hid FIN.1
          have HC2 := hid (HC.out.trans CF (fun _ _ h => h))
          clear S1 S2 FIN CF HOwn c0 HT0 hSn HT HC
          go_wp2
          go_roundw
          case rel => exact ⟨k + 1, by omega, by go_num, HT2, HC2⟩
          case measure => simp [intOf]; omega
    · have k198 := HT.out.c198
      have H2 : Hid (∃ T', EnT T T' ∧ TxA wr FF FD f p q bt bh zs X N R t gn go gc bd bp T' ∧ Chg (Mt t gn bd bp) w wr) := hid ⟨T, EnT.refl T, HT.out, HC.out⟩
      clear HT HC
      go_wp2
      go_loopw [57] (fun i wr => ∃ k : Nat, k ≤ 16 ∧ i = .int .i64 k ∧ Hid (∃ T', EnT T T' ∧ TxA wr FF FD f p q bt bh zs X N R t gn go gc bd bp T' ∧ Chg (Mt t gn bd bp) w wr)) (fun i _ => 16 - (intOf i).toNat)
      case atStart => exact ⟨0, by omega, rfl, H2⟩
      case round =>
        clear H2 k198 hlt hk
        obtain ⟨k, hk, rfl, HR⟩ := hrel
        obtain ⟨T', hT, HT, HC⟩ := HR.out
        replace hT := hid hT
        replace HT := hid HT
        replace HC := hid HC
        by_cases hlt : k < 16
        · have k195 := HT.out.c195
          obtain ⟨b1, L1⟩ := HT.out.dirty (2 * (k : Int) + 1) (by omega)
          obtain ⟨b2, L2⟩ := HT.out.dirty (2 * (k : Int) + 2) (by omega)
          go_upto_region 14 with fail
          go_cut [77] (fun s wx => ∃ b : Bool, s = .bool b ∧ wr = wx)
          case first =>
            cases b1
            · cases b2
              · go_wp2
                go_meet
                exact ⟨_, rfl, rfl⟩
              · go_wp2
                go_meet
                exact ⟨_, rfl, rfl⟩
            · go_wp2
              go_meet
              exact ⟨_, rfl, rfl⟩
          case rest =>
            obtain ⟨b, rfl, rfl⟩ := hcut
            clear L1 L2 b1 b2 k195
            cases b with
            | false =>
              go_wp2
              go_roundw
              case rel => exact ⟨k + 1, by omega, by go_num, HR⟩
              case measure => simp [intOf]; omega
            | true =>
              clear HR
              have k194 := HT.out.c194
              have LN := HT.out.ndLoad (k := 2 * k) (by omega)
              have HP1 := hid (ndpack_d wr R (T'.ns (2 * k)) (HT.out.nok _ (by omega)) (HT.out.pts _ (by omega)))
              go_upto_region 16 with (first | (refine wpList_load_run LN (by rfl) (by rfl) (by rfl) ?_) | (go_at_call 47; refine HP1.out.mono ?_; rintro e w1 ⟨a1, c1, G1, rfl, p1, p2, p3⟩; replace p1 := hid p1; replace p2 := hid p2; replace p3 := hid p3))
              have HT1 := hid (HT.out.nil p2.out)
              have k194 := HT1.out.c194
              have LN := HT1.out.ndLoad (k := 2 * k + 1) (by omega)
              have HP2 := hid (ndpack_d w1 R (T'.ns (2 * k + 1)) (HT1.out.nok _ (by omega)) (HT1.out.pts _ (by omega)))
              clear HP1
              go_upto_region 19 with (first | (refine wpList_load_run LN (by rfl) (by rfl) (by rfl) ?_) | (go_at_call 47; refine HP2.out.mono ?_; rintro e w2 ⟨a2, c2, G2, rfl, q1, q2, q3⟩; replace q1 := hid q1; replace q2 := hid q2; replace q3 := hid q3))
              have HT2 := hid (HT1.out.nil q2.out)
              have HV := hid (HT2.out.nil (Chg.refl Nil w2).drew)
              have CV := hid ((p2.out.trans q2.out (fun _ _ h => h)).trans (Chg.refl Nil w2).drew (fun _ _ h => h))
              have S0 : w2.drew.cell? ⟨t, 196, none⟩ = some (.map (some bp)) ∧ w2.drew.cell? ⟨t, 1 + k, none⟩ = some (.int .i64 (37 + (k : Int))) := ⟨HV.out.c196, (HV.out.blk.cell (1 + k)).trans (txC_num f T'.m _ gc bd bp hlt)⟩
              obtain ⟨w3, hw3⟩ : ∃ w3, w3 = w2.drew := ⟨_, rfl⟩
              have Y1 : Hid (Sl w3 5 1 a1 32 c1 (bys (T'.ns (2 * k)).bytes) G1) := hid (by
                rw [hw3]
                exact (p1.out.chg q2.out (fun _ _ h => h)).chg (Chg.refl Nil w2).drew (fun _ _ h => h))
              have Y2 : Hid (Sl w3 5 1 a2 32 c2 (bys (T'.ns (2 * k + 1)).bytes) G2) := hid (by
                rw [hw3]
                exact q1.out.chg (Chg.refl Nil w2).drew (fun _ _ h => h))
              clear p1 q1 LN HP2 k194
              refine wp_region_held_drew (S := fun w' => w'.cell? ⟨t, 196, none⟩ = some (.map (some bp)) ∧ w'.cell? ⟨t, 1 + k, none⟩ = some (.int .i64 (37 + (k : Int)))) (by kernel_rfl) S0 (fun hSn => ?_)
              rw [← hw3] at HV CV S0 ⊢
              replace hw3 := hid hw3
              clear hSn
              simp only [List.size_toArray, List.length_cons, List.length_nil, Nat.reduceAdd, Array.replicate_succ, Array.replicate_zero, List.push_toArray, List.nil_append, List.cons_append]
              refine wpAnyH_take (i := 0) (oi := { dst := some 109, op := Op.move (Operand.tmp 0), type := 139, pos := "txn.go:200", after := #[], guard := none }) (v := .pointer (some ⟨t, 0, none⟩)) rfl (by kernel_rfl) (by kernel_rfl) (by kernel_rfl) (fun _ _ _ h => h) (Or.inl ⟨by rfl, by (intro w hSw; (try dsimp only at hSw); go_simp)⟩) (by assumption) ?_
              try simp only [Act.put, List.setIfInBounds_toArray, List.set_cons_zero, List.set_cons_succ]
              refine wpAnyH_take (i := 1) (oi := { dst := some 110, op := Op.nilCheck (Operand.tmp 109), type := 0, pos := "txn.go:200", after := #[{ on := 0, ground := Ground.data }], guard := none }) (v := .pointer (some ⟨t, 0, none⟩)) rfl (by kernel_rfl) (by kernel_rfl) (by kernel_rfl) (fun _ _ _ h => h) (Or.inl ⟨by rfl, by (intro w hSw; (try dsimp only at hSw); go_simp)⟩) (by assumption) ?_
              try simp only [Act.put, List.setIfInBounds_toArray, List.set_cons_zero, List.set_cons_succ]
              refine wpAnyH_take (i := 2) (oi := { dst := some 111, op := Op.fieldAddr 244 (Operand.tmp 110) 5, type := 0, pos := "txn.go:200", after := #[{ on := 1, ground := Ground.data }], guard := none }) (v := .pointer (some ⟨t, 196, none⟩)) rfl (by kernel_rfl) (by kernel_rfl) (by kernel_rfl) (fun _ _ _ h => h) (Or.inl ⟨by rfl, by (intro w hSw; (try dsimp only at hSw); go_simp)⟩) (by assumption) ?_
              try simp only [Act.put, List.setIfInBounds_toArray, List.set_cons_zero, List.set_cons_succ]
              refine wpAnyH_take (i := 3) (oi := { dst := some 112, op := Op.load 134 (Operand.tmp 111), type := 134, pos := "txn.go:200", after := #[{ on := 2, ground := Ground.data }], guard := none }) (v := .map (some bp)) rfl (by kernel_rfl) (by kernel_rfl) (by kernel_rfl) (fun _ _ _ h => h) (Or.inl ⟨by rfl, by (intro w hSw; (try dsimp only at hSw); go_simp)⟩) (by assumption) ?_
              try simp only [Act.put, List.setIfInBounds_toArray, List.set_cons_zero, List.set_cons_succ]
              refine wpAnyH_take (i := 4) (oi := { dst := some 113, op := Op.move (Operand.tmp 0), type := 139, pos := "txn.go:200", after := #[], guard := none }) (v := .pointer (some ⟨t, 0, none⟩)) rfl (by kernel_rfl) (by kernel_rfl) (by kernel_rfl) (fun _ _ _ h => h) (Or.inl ⟨by rfl, by (intro w hSw; (try dsimp only at hSw); go_simp)⟩) (by assumption) ?_
              try simp only [Act.put, List.setIfInBounds_toArray, List.set_cons_zero, List.set_cons_succ]
              refine wpAnyH_take (i := 5) (oi := { dst := some 114, op := Op.move (Operand.tmp 4), type := 3, pos := "txn.go:200", after := #[], guard := none }) (v := .int .i64 (k : Int)) rfl (by kernel_rfl) (by kernel_rfl) (by kernel_rfl) (fun _ _ _ h => h) (Or.inl ⟨by rfl, by (intro w hSw; (try dsimp only at hSw); go_simp)⟩) (by assumption) ?_
              try simp only [Act.put, List.setIfInBounds_toArray, List.set_cons_zero, List.set_cons_succ]
              refine wpAnyH_take (i := 6) (oi := { dst := some 115, op := Op.nilCheck (Operand.tmp 113), type := 0, pos := "txn.go:200", after := #[{ on := 4, ground := Ground.data }], guard := none }) (v := .pointer (some ⟨t, 0, none⟩)) rfl (by kernel_rfl) (by kernel_rfl) (by kernel_rfl) (fun _ _ _ h => h) (Or.inl ⟨by rfl, by (intro w hSw; (try dsimp only at hSw); go_simp)⟩) (by assumption) ?_
              try simp only [Act.put, List.setIfInBounds_toArray, List.set_cons_zero, List.set_cons_succ]
              refine wpAnyH_take (i := 7) (oi := { dst := some 116, op := Op.fieldAddr 244 (Operand.tmp 115) 1, type := 0, pos := "txn.go:200", after := #[{ on := 6, ground := Ground.data }], guard := none }) (v := .pointer (some ⟨t, 1, none⟩)) rfl (by kernel_rfl) (by kernel_rfl) (by kernel_rfl) (fun _ _ _ h => h) (Or.inl ⟨by rfl, by (intro w hSw; (try dsimp only at hSw); go_simp)⟩) (by assumption) ?_
              try simp only [Act.put, List.setIfInBounds_toArray, List.set_cons_zero, List.set_cons_succ]
              refine wpAnyH_take (i := 8) (oi := { dst := some 117, op := Op.indexAddr 115 (Operand.tmp 116) (Operand.const (Value.int IntKind.i64 0)), type := 0, pos := "txn.go:200", after := #[{ on := 7, ground := Ground.data }], guard := none }) (v := .pointer (some ⟨t, 1, none⟩)) rfl (by kernel_rfl) (by kernel_rfl) (by kernel_rfl) (fun _ _ _ h => h) (Or.inl ⟨by rfl, by (intro w hSw; (try dsimp only at hSw); go_simp)⟩) (by assumption) ?_
              try simp only [Act.put, List.setIfInBounds_toArray, List.set_cons_zero, List.set_cons_succ]
              refine wpAnyH_take (i := 9) (oi := { dst := some 118, op := Op.fieldAddr 113 (Operand.tmp 117) 0, type := 0, pos := "txn.go:200", after := #[{ on := 8, ground := Ground.data }], guard := none }) (v := .pointer (some ⟨t, 1, none⟩)) rfl (by kernel_rfl) (by kernel_rfl) (by kernel_rfl) (fun _ _ _ h => h) (Or.inl ⟨by rfl, by (intro w hSw; (try dsimp only at hSw); go_simp)⟩) (by assumption) ?_
              try simp only [Act.put, List.setIfInBounds_toArray, List.set_cons_zero, List.set_cons_succ]
              refine wpAnyH_take (i := 10) (oi := { dst := some 119, op := Op.indexAddr 57 (Operand.tmp 118) (Operand.tmp 114), type := 0, pos := "txn.go:200", after := #[{ on := 9, ground := Ground.data }, { on := 5, ground := Ground.data }], guard := none }) (v := .pointer (some ⟨t, 1 + k, none⟩)) rfl (by kernel_rfl) (by kernel_rfl) (by kernel_rfl) (fun _ _ _ h => h) (Or.inl ⟨by rfl, by (intro w hSw; (try dsimp only at hSw); go_simp)⟩) (by assumption) ?_
              try simp only [Act.put, List.setIfInBounds_toArray, List.set_cons_zero, List.set_cons_succ]
              refine wpAnyH_take (i := 11) (oi := { dst := some 120, op := Op.load 3 (Operand.tmp 119), type := 3, pos := "txn.go:200", after := #[{ on := 10, ground := Ground.data }], guard := none }) (v := .int .i64 (37 + (k : Int))) rfl (by kernel_rfl) (by kernel_rfl) (by kernel_rfl) (fun _ _ _ h => h) (Or.inl ⟨by rfl, by (intro w hSw; (try dsimp only at hSw); go_simp)⟩) (by assumption) ?_
              try simp only [Act.put, List.setIfInBounds_toArray, List.set_cons_zero, List.set_cons_succ]
              refine wpAnyH_take (i := 12) (oi := { dst := some 121, op := Op.move (Operand.tmp 5), type := 22, pos := "txn.go:200", after := #[], guard := none }) (v := .slice a1 32 c1) rfl (by kernel_rfl) (by kernel_rfl) (by kernel_rfl) (fun _ _ _ h => h) (Or.inl ⟨by rfl, by (intro w hSw; (try dsimp only at hSw); go_simp)⟩) (by assumption) ?_
              try simp only [Act.put, List.setIfInBounds_toArray, List.set_cons_zero, List.set_cons_succ]
              refine wpAnyH_take (i := 13) (oi := { dst := some 122, op := Op.move (Operand.tmp 7), type := 22, pos := "txn.go:200", after := #[], guard := none }) (v := .slice a2 32 c2) rfl (by kernel_rfl) (by kernel_rfl) (by kernel_rfl) (fun _ _ _ h => h) (Or.inl ⟨by rfl, by (intro w hSw; (try dsimp only at hSw); go_simp)⟩) (by assumption) ?_
              try simp only [Act.put, List.setIfInBounds_toArray, List.set_cons_zero, List.set_cons_succ]
              refine wpAnyH_ready (rs := [14]) (by kernel_rfl) (by simp) ?_
              refine AllReadyH.cons (o := { dst := some 123, op := Op.call { callee := Callee.builtin Builtin.append, args := #[Operand.tmp 121, Operand.tmp 122], argTypes := #[22, 22] }, type := 22, pos := "txn.go:200", after := #[{ on := 12, ground := Ground.data }, { on := 13, ground := Ground.data }], guard := none }) rfl (fun K hK => ?_) AllReadyH.nil
              refine step_append_sl rfl _ _ eU8 rfl rfl rfl Y1.out Y2.out.rd (ints_one _ _) (by omega) (by omega) ?_
              intro a4 c4 w4 G4 y1 y2 y3
              have C4 : Chg Nil wr w4 := CV.out.trans y2 (fun i hi hh => by have h1 := p3.out i hh; omega)
              have H4 := HT.out.nil C4
              refine hK.out _ _ ⟨H4.c196, (H4.blk.cell (1 + k)).trans (txC_num f T'.m _ gc bd bp hlt)⟩ (fun hSn => ?_)
              clear hK K
              try simp only [Act.put, List.setIfInBounds_toArray, List.set_cons_zero, List.set_cons_succ]
              have hG4 : ∀ g, Opt G4 g → wr.heap.size ≤ g := fun g hg => by
                rcases y3 with h1 | h1
                · rw [h1] at hg; exact p3.out g hg
                · rw [h1] at hg
                  have hg' : w3.heap.size = g := by injection hg
                  rw [← hg']; exact CV.out.size
              have SD : SecAt w4 R ⟨(T'.ns (2 * k)).bytes ++ (T'.ns (2 * k + 1)).bytes, a4, c4⟩ := by
                have := y1.rd.mono (R' := R) (fun g hg => HT.out.rup g (.inr (hG4 g hg)))
                unfold SecAt
                rw [show bys ((T'.ns (2 * k)).bytes ++ (T'.ns (2 * k + 1)).bytes) = bys (T'.ns (2 * k)).bytes ++ bys (T'.ns (2 * k + 1)).bytes by simp [ints]]
                exact this
              obtain ⟨W, hrun, hm5, d5⟩ := H4.put.store (t := 134) (e := 22) Tryz.underlying3 Tryz.underlying134 (by omega) (37 + (k : Int)) (wf_key (by omega) (by omega)) (.slice a4 64 c4)
              obtain ⟨TF, CF⟩ := H4.setPut (k := 37 + (k : Int)) (s := ⟨_, a4, c4⟩) (.inr ⟨by omega, by omega⟩) SD _ hm5 d5
              have H5 : Hid (∃ T', EnT T T' ∧ TxA W FF FD f p q bt bh zs X N R t gn go gc bd bp T' ∧ Chg (Mt t gn bd bp) w W) := hid ⟨_, hT.out.put (by omega) _, TF, HC.out.trans ((C4.mono (fun _ _ h => h.elim)).trans CF (fun _ _ h => h)) (fun _ _ h => h)⟩
              have S5 : W.cell? ⟨t, 196, none⟩ = some (.map (some bp)) ∧ W.cell? ⟨t, 1 + k, none⟩ = some (.int .i64 (37 + (k : Int))) := ⟨TF.c196, (TF.blk.cell (1 + k)).trans (txC_num f T'.m _ gc bd bp hlt)⟩
              clear y1 y2 y3 hG4 S0 SD hm5 d5 CF TF H4 C4
              refine wpAnyH_ready (rs := [15]) (by kernel_rfl) (by simp) ?_
              refine AllReadyH.cons (o := { dst := none, op := Op.mapUpdate 134 (Operand.tmp 112) (Operand.tmp 120) (Operand.tmp 123), type := 0, pos := "txn.go:200", after := #[{ on := 3, ground := Ground.data }, { on := 11, ground := Ground.data }, { on := 14, ground := Ground.data }, { on := 14, ground := Ground.chain }, { on := 0, ground := Ground.phase }, { on := 1, ground := Ground.phase }, { on := 2, ground := Ground.phase }, { on := 3, ground := Ground.phase }, { on := 4, ground := Ground.phase }, { on := 5, ground := Ground.phase }, { on := 6, ground := Ground.phase }, { on := 7, ground := Ground.phase }, { on := 8, ground := Ground.phase }, { on := 9, ground := Ground.phase }, { on := 10, ground := Ground.phase }, { on := 11, ground := Ground.phase }, { on := 12, ground := Ground.phase }, { on := 13, ground := Ground.phase }, { on := 14, ground := Ground.phase }], guard := none }) rfl (fun K hK => ?_) AllReadyH.nil
              refine step_map_run hrun (by rfl) (by rfl) (by rfl) (by rfl) (by rfl) ?_
              refine hK.out _ _ S5 (fun hSn => ?_)
              clear hK K
              refine wpAnyH_done (by kernel_rfl) ?_ _
              clear hrun S5 hSn Y1 Y2 HV CV HT HT1 HT2 HC hT
              go_wp2
              go_roundw
              case rel => exact ⟨k + 1, by omega, by go_num, H5⟩
              case measure => simp [intOf]; omega
        · obtain ⟨T', hT, HT, HC⟩ := HR.out
          have k197 := HT.c197
          have HKp := hid (fkeep_ok HT (by rw [hT.2.1]; exact hXm.out))
          replace hT := hid hT
          replace HC := hid HC
          clear HR HT
          go_wp2
          obtain ⟨wl, hwl⟩ : ∃ wl, wl = wr := ⟨_, rfl⟩
          subst hwl
          go_loopw [130] (fun s wx => s = .int .i64 0 ∧ wl = wx) (fun _ _ => 0)
          case atStart => exact ⟨rfl, rfl⟩
          case round =>
            obtain ⟨rfl, rfl⟩ := hrel
            go_wp2_with (go_at_call 124; refine HKp.out.mono ?_; rintro e w5 ⟨rfl, hX5⟩)
            go_ret
            refine ⟨rfl, hid ?_⟩
            obtain ⟨X', e1, e2, e3, e4, e5, e6⟩ := hX5.out
            exact ⟨X', e1.trans hT.out.1, e2.trans hT.out.2.1, e3, fun i hi => by rw [e4 i (by omega), hT.out.2.2.2 i hi], e5, (HC.out.mono (G := fun k => Mt t gn bd bp k ∨ k = f ∨ k = bt) (fun _ _ h => .inl h)).trans e6 (fun _ _ h => h)⟩
end Go.Proofs.YtdcbagmgflcemaaGreatDoor
