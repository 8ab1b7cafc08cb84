/- snap.Unpack. Conditions: the bytes of a forest whose numbers are those of a disk's sectors · Contracts of package inode at the root of an empty file system: Pack. Conditions: just that · A part of a block that is a struct or an array, read and written at once. No program in sight; no condition. -/
import Derived.Test.YtjllklddjkkddaaGreatDoorZ11
import Derived.Test.YtjllklddjkkddaaGreatDoorZ15
import Derived.Deep.DeepCutAuto
import Derived.Deep.CutBlock
import Derived.Laws.Tables
namespace Go.Proofs.YtjllklddjkkddaaGreatDoor
open Go.ChangeShapes Go.WideShapes Go.ChangeAt Go.RowKit
set_option linter.unusedVariables false
theorem drop_in (B C : List Int) (n : Nat) : (B ++ C).drop (B.length + n) = C.drop n := by rw [← List.drop_drop]; simp
/-- No forest. -/
def foZ : List Value := trZ ++ trZ ++ trZ ++ trZ
theorem foZ_len : foZ.length = 192 := by simp only [foZ, trZ, List.length_append, List.length_replicate, zr_len]
/-- The first m cells are right. -/
def upto_ (cs : List Value) (m : Nat) : List Value := cs.take m ++ foZ.drop m
theorem upto_len {cs : List Value} {m : Nat} (hl : cs.length = 192) (hm : m ≤ 192) : (upto_ cs m).length = 192 := by
  unfold upto_
  rw [List.length_append, List.length_take, List.length_drop, foZ_len, hl]
  omega
theorem upto_get {cs : List Value} {m : Nat} (hl : cs.length = 192) (hm : m ≤ 192) (i : Nat) : (upto_ cs m)[i]? = if i < m then cs[i]? else foZ[i]? := by
  unfold upto_
  by_cases h : i < m
  · rw [if_pos h, List.getElem?_append_left (by rw [List.length_take]; omega), List.getElem?_take, if_pos h]
  · rw [if_neg h, List.getElem?_append_right (by rw [List.length_take]; omega), List.getElem?_drop]
    congr 1
    rw [List.length_take]
    omega
theorem upto_all {cs : List Value} (hl : cs.length = 192) : upto_ cs 192 = cs := by
  unfold upto_
  rw [List.take_of_length_le (by omega), List.drop_of_length_le (by rw [foZ_len]; omega), List.append_nil]
theorem upto_set {cs : List Value} {m : Nat} {v : Value} (hl : cs.length = 192) (hm : m < 192) (hv : cs[m]? = some v) : (upto_ cs m).set m v = upto_ cs (m + 1) := by
  apply List.ext_getElem?
  intro i
  rw [List.getElem?_set, upto_get hl (by omega), upto_get hl (by omega), upto_len hl (by omega)]
  by_cases h : m = i
  · subst h
    rw [if_pos rfl, if_pos hm, if_pos (show m < m + 1 by omega), hv]
  · rw [if_neg h]
    by_cases h1 : i < m
    · rw [if_pos h1, if_pos (show i < m + 1 by omega)]
    · rw [if_neg h1, if_neg (show ¬ i < m + 1 by omega)]
theorem upto_over {cs : List Value} {m n : Nat} (hl : cs.length = 192) (hm : m + n ≤ 192) : over_ (upto_ cs m) m (part_ cs m n) = upto_ cs (m + n) := by
  have hp : (part_ cs m n).length = n := part_len (by omega)
  apply List.ext_getElem?
  intro i
  rw [over_get (by rw [hp, upto_len hl (by omega)]; omega), upto_get hl (by omega), upto_get hl (by omega), hp]
  by_cases h1 : i < m
  · rw [if_pos h1, if_pos h1, if_pos (show i < m + n by omega)]
  · rw [if_neg h1]
    by_cases h2 : i < m + n
    · rw [if_pos h2, if_pos h2, part_get (by omega) (by omega)]
      congr 1
      omega
    · rw [if_neg h2, if_neg h1, if_neg h2]
theorem FoB.one {cs : List Value} {T : Nat → Bool} {B C : List Int} (h : FoB cs T B C) : ∀ u ∈ cs, u.oneCell' = true := by
  intro u hu
  obtain ⟨i, hi, rfl⟩ := List.getElem_of_mem hu
  have hl := h.fo.len
  obtain ⟨k, hk, j, hj, rfl⟩ : ∃ k, k < 4 ∧ ∃ j, j < 48 ∧ k * 48 + j = i := ⟨i / 48, by omega, i % 48, by omega, by omega⟩
  by_cases h1 : j < 16
  · have := (h.num k hk j h1).1
    rw [List.getElem?_eq_getElem hi] at this
    injection this with this
    rw [this]
    rfl
  · have e := part_get (cs := cs) (lo := k * 48 + 16) (n := 32) (by omega) (j := j - 16) (by omega)
    rw [h.has k hk, show k * 48 + 16 + (j - 16) = k * 48 + j by omega, List.getElem?_eq_getElem hi] at e
    exact ints_one _ _ _ (List.mem_of_getElem? e)
set_option maxRecDepth 100000 in
set_option maxHeartbeats 2000000 in
theorem snunpack_ok (w : World) (R : Nat → Prop) (b : Option Addr) (bc : Nat) (cs : List Value) (T : Nat → Bool) (B C : List Int) (h : FoB cs T B C) (hb : Rd w R 1 b 192 bc (bys (B ++ C))) :
    Calls Tryz.prog 113 #[.slice b 192 bc] w fun e w' => e = .returned (.tuple #[.agg cs.toArray, .int .i64 0]) ∧ Chg Nil w w' := by
  have hl := h.fo.len
  have HP := hid (fun w => snpack_ok w cs T B C h)
  have H := hid h
  obtain ⟨g, off, rfl, hgl, _, hc⟩ := hb.cellAt (by omega)
  have HC := hid hc
  have HB := hid hb
  have hcap : 192 ≤ bc := hb.1
  have Z0 := hid (((Blk.new w 122 foZ).alloc (.cells foZ.toArray 122)))
  have Z1 : Blk ((w.alloc (.cells foZ.toArray 122)).alloc (.cells foZ.toArray 122)) (w.heap.size + 1) 122 foZ := by
    have := Blk.new (w.alloc (.cells foZ.toArray 122)) 122 foZ
    rwa [show (w.alloc (.cells foZ.toArray 122)).heap.size = w.heap.size + 1 by simp] at this
  replace Z1 := hid Z1
  clear h hb hc
  go_enter Tryz.func113, Tryz.ntmps113
  go_wp2
  go_loopw [13] (fun i wr => ∃ k : Nat, k ≤ 4 ∧ i = .int .i64 k ∧ Hid (Blk wr w.heap.size 122 foZ) ∧ Hid (Blk wr (w.heap.size + 1) 122 (upto_ cs (k * 48))) ∧ Hid (Chg Nil w wr)) (fun i _ => 4 - (intOf i).toNat)
  case atStart => exact ⟨0, by omega, rfl, Z0.out, Z1.out, ((Chg.refl Nil w).alloc _).alloc _⟩
  case round =>
    obtain ⟨k, hk, rfl, hZ, hB, hC⟩ := hrel
    by_cases hlt : k < 4
    · go_wp2
      obtain ⟨wo, rfl⟩ : ∃ wo : World, wo = wr := ⟨_, rfl⟩
      go_loopw [16] (fun i wr => ∃ j : Nat, j ≤ 16 ∧ i = .int .i64 j ∧ Hid (Blk wr w.heap.size 122 foZ) ∧ Hid (Blk wr (w.heap.size + 1) 122 (upto_ cs (k * 48 + j))) ∧ Hid (Chg Nil w wr)) (fun i _ => 16 - (intOf i).toNat)
      case atStart => exact ⟨0, by omega, rfl, hZ, hB, hC⟩
      case round =>
        obtain ⟨j, hj, rfl, hZ, hB, hC⟩ := hrel
        by_cases hlt2 : j < 16
        · obtain ⟨hx, x0, x1⟩ := H.out.num k hlt j hlt2
          have bx : wr.cell? ⟨g, off + (16 * k + j), none⟩ = some (.int .u8 (B.getD (k * 16 + j) 0)) := by
            rw [show 16 * k = k * 16 by omega]
            rw [hC.out.cell (a := ⟨g, off + (k * 16 + j), none⟩) hgl (fun h => h), HC.out _ (by omega)]
            rw [ints_get _ _ (by rw [List.length_append, H.out.bl, H.out.cl]; omega), List.getElem_append_left (by rw [H.out.bl]; omega)]
            simp [List.getD, show k * 16 + j < B.length by rw [H.out.bl]; omega]
          obtain ⟨x, hxe⟩ : ∃ x, x = B.getD (k * 16 + j) 0 := ⟨_, rfl⟩
          rw [← hxe] at hx x0 x1 bx
          obtain ⟨v, hv⟩ : ∃ v, foZ[k * 48 + j]? = some v := ⟨_, List.getElem?_eq_getElem (by rw [foZ_len]; omega)⟩
          have fx := hB.out.cell (k * 48 + j)
          rw [upto_get hl (by omega), if_neg (by omega), hv] at fx
          have ff := hB.out.frozen (k * 48 + j)
          have hx' := hid hx
          have i1 : 16 * (k : Int) + (j : Int) < 192 := by omega
          clear hx hv hxe
          go_wp2
          go_region
          go_wp2
          go_roundw
          case rel =>
            refine ⟨j + 1, by omega, by go_num, (hZ.out.far (p := ⟨w.heap.size + 1, k * 48 + j, none⟩) (by simp) _).drew, ?_, (hC.out.setCell (p := ⟨w.heap.size + 1, k * 48 + j, none⟩) (.inr (by simp)) _).drew⟩
            rw [show k * 48 + (j + 1) = k * 48 + j + 1 by omega, ← upto_set hl (by omega) hx'.out]
            exact (hB.out.set (k * 48 + j) _).drew
          case measure => simp [intOf]; omega
        · have hj16 : 16 ≤ j := by omega
          have hj3 : j = 16 := by omega
          have hB3 : Blk wr (w.heap.size + 1) 122 (upto_ cs (k * 48 + 16)) := by have := hB.out; rwa [hj3] at this
          have R3 := (HB.out.chg hC.out (fun _ _ _ h => h)).drewN 1
          have N3 : Rd (wr.drewN 1) R 1 (some ⟨g, off + (64 + 32 * k), none⟩) 32 (bc - (64 + 32 * k)) (part_ cs (k * 48 + 16) 32) := by
            have := R3.sub (lo := 64 + 32 * k) (k := 32) (by omega)
            rw [H.out.has k hlt]
            rw [show (List.drop (64 + 32 * k) (bys (B ++ C))) = bys (C.drop (k * 32)) by
              rw [show 64 + 32 * k = B.length + k * 32 by rw [H.out.bl]; omega]
              show List.drop _ (List.map _ _) = List.map _ _
              rw [← List.map_drop, drop_in]] at this
            simpa [ints, List.map_take] using this
          obtain ⟨g3, off3, e3, _, _, hc3⟩ := N3.cellAt (by omega)
          injection e3 with e3
          injection e3 with e3 e4
          subst e3; subst e4
          have hpl : (part_ cs (k * 48 + 16) 32).length = 32 := part_len (by omega)
          have hul := upto_len (m := k * 48 + 16) hl (by omega)
          have hcp : ∀ ty, (Builtin.copy_ #[28, 28] ty #[.slice (some ⟨w.heap.size + 1, k * 48 + 16, none⟩) 32 32, .slice (some ⟨g, off + (64 + 32 * k), none⟩) (192 - (64 + 32 * k)) (bc - (64 + 32 * k))]).run Tryz.prog wr.drew = .ok (goInt 32) (wr.drew.setCells (w.heap.size + 1) (k * 48 + 16) (part_ cs (k * 48 + 16) 32)) := fun ty => by
            have hmin : Nat.min (192 - (64 + 32 * k)) 32 = 32 := Nat.min_eq_right (by omega)
            have := run_copy_s (P := Tryz.prog) wr.drew 28 28 ty eU8 (w.heap.size + 1) (k * 48 + 16) 32 32 ⟨g, off + (64 + 32 * k), none⟩ (192 - (64 + 32 * k)) (bc - (64 + 32 * k)) (part_ cs (k * 48 + 16) 32) (by rw [hmin, hpl]) (fun i v hv => by
              have hi : i < 32 := by have := (List.getElem?_eq_some_iff.1 hv).1; omega
              rw [add_off]
              exact (hc3 i hi).trans hv) (fun i hi => ((hB3.there (lo := k * 48 + 16) (n := 32) (by omega)) i (by omega)).1) (fun i hi => hB3.frozen _) (by rw [H.out.has k hlt]; exact ints_one _ _)
            rwa [hmin] at this
          have hBn := Blk.cells (vs := part_ cs (k * 48 + 16) 32) hB3.drew (lo := k * 48 + 16) (by omega)
          rw [upto_over hl (by omega)] at hBn
          have FB := hid hBn
          have i1 : 64 + 32 * (k : Int) ≤ 192 := by omega
          have i2 : 64 + 32 * k ≤ 192 := by omega
          have v1 : IntKind.i64.wrap (32 * (k : Int)) = 32 * k := IntWalk.i64_in _ (by omega)
          have v2 : IntKind.i64.wrap (64 + 32 * (k : Int)) = 64 + 32 * k := IntWalk.i64_in _ (by omega)
          have hsl := fun w => run_from (P := Tryz.prog) eU8 (some ⟨g, off, none⟩) 192 bc (64 + 32 * k) (64 + 32 * (k : Int)) (by omega) (by omega) w
          simp only [adv, show ¬ bc = 64 + 32 * k by omega, if_false, Option.map_some, add_off, Nat.mul_one] at hsl
          clear hB3 R3 N3 hc3 hBn hj3
          go_wp2
          go_region_law (fail)
          all_goals
            go_wp2
            go_roundw
            case rel =>
              refine ⟨k + 1, by omega, by go_num, ?_, ?_, (hC.out.drew).trans (setCells_chg _ _ _ _ (One (w.heap.size + 1)) rfl) (fun i hi hh => by rw [show i = w.heap.size + 1 from hh] at hi; omega)⟩
              · exact Blk.chg (F := One (w.heap.size + 1)) hZ.out.drew (setCells_chg _ _ _ _ _ rfl) (fun hh => by have : w.heap.size = w.heap.size + 1 := hh; omega)
              · rw [show (k + 1) * 48 = k * 48 + 16 + 32 by omega]
                exact FB.out
            case measure => simp [intOf]; omega
    · have hk4 : k = 4 := by omega
      have hB4 : Blk wr (w.heap.size + 1) 122 cs := by have := hB.out; rwa [hk4, upto_all hl] at this
      have L4 := load_blk (P := Tryz.prog) hB4 Tryz.underlying122 rfl (by rw [hl]; kernel_rfl)
      have FB := hid hB4
      have hk5 : 4 ≤ k := by omega
      clear hk4 hB4
      go_wp2_with (refine wpList_load_run L4 (by rfl) (by rfl) (by rfl) ?_)
      refine (HP.out _).mono ?_
      rintro e w4 ⟨a4, c4, G4, rfl, s4, cc4, g4⟩
      have W4 := FB.out.chg cc4 (fun h => h)
      have R4 := hZ.out.chg cc4 (fun h => h)
      have C4 := hid (hC.out.trans cc4 (fun _ _ h => h))
      have HE := hid (equal_by _ _ _ _ 192 _ 192 _ _ _ w4 s4.rd (HB.out.chg C4.out (fun _ _ _ h => h)) (by omega) (by omega))
      have heq : eqI (B ++ C) (B ++ C) = true := eqI_true rfl
      have L5 := hid (fun k => load_blk (P := Tryz.prog) (W4.drewN k) Tryz.underlying122 rfl (by rw [hl]; kernel_rfl))
      have L6 := hid (fun k => store_blk (P := Tryz.prog) (ty := 122) (R4.drewN k) (vs := cs) (by rw [hl, foZ_len]) (by rw [hl]; kernel_rfl) H.out.one)
      clear W4 R4 L4 s4 cc4 g4
      go_wp2_with (first | (go_at_call 50; refine HE.out.mono ?_; rintro e w5 ⟨rfl, k, rfl⟩) | (refine wpList_load_run (L5.out _) (by rfl) (by rfl) (by rfl) ?_) | (refine wpList_store_run (L6.out _).1 (by rfl) (by rfl) (by rfl) (by rfl) ?_))
      refine bodyPost_ret (results_blk2 rfl (L6.out _).2 rfl Tryz.underlying122 rfl (by rw [hl]; kernel_rfl)) rfl ?_
      exact ⟨rfl, (C4.out.drewN _).trans (setCells_chg _ _ 0 _ (One w.heap.size) rfl) (fun k hk hh => by rw [show k = w.heap.size from hh] at hk; omega)⟩
end Go.Proofs.YtjllklddjkkddaaGreatDoor
namespace Go.Proofs.YtjllklddjkkddaaGreatDoor
open Go.ChangeShapes Go.WideShapes Go.ChangeAt Go.RowKit
set_option linter.unusedVariables false
set_option maxRecDepth 100000 in
set_option maxHeartbeats 4000000 in
theorem ndpack_32 (w : World) : Calls Tryz.prog 46 #[ndV 2 493 1 1] w fun e w' => ∃ a G, e = .returned (.tuple #[.slice a 32 32, .int .i64 0]) ∧ Sl w' 5 1 a 32 32 (bys (ndB 2 493 1 1)) G ∧ Chg Nil w w' ∧ ∀ g, G = some g → w.heap.size ≤ g := by
  have hmk := mk_bytes 32 (by omega) 32 rfl
  show Calls Tryz.prog 46 #[.agg #[.int .i64 2, .int .i64 493, .int .i64 0, .int .i64 0, .int .i64 0, .int .i64 1, .int .i64 1, .slice none 0 0]] w _
  have HR := fun w => ndright_1 w
  unfold ndV at HR
  have B0 := hid (Blk.new w 128 (ndCells 2 493 1 1))
  go_enter Tryz.func46, Tryz.ntmps46
  go_wp2_with fail
  refine (HR _).mono ?_
  rintro e w1 ⟨rfl, c1⟩
  have hsz : w.heap.size < w1.heap.size := by have := c1.size; simp at this; omega
  have B1 := B0.out.chg c1 (fun h => h)
  have b0 := B1.cell 0
  have b1 := B1.cell 1
  have b2 := B1.cell 2
  have b3 := B1.cell 3
  have b4 := B1.cell 4
  have b5 := B1.cell 5
  have b6 := B1.cell 6
  have b7 := B1.cell 7
  have S2 := hid ((zr_sl w1 32 (by omega)).alloc (.cells (zr 16).toArray 5))
  have C1 := hid ((((Chg.refl Nil w).alloc (.cells #[.int .i64 2, .int .i64 493, .int .i64 0, .int .i64 0, .int .i64 0, .int .i64 1, .int .i64 1, .slice none 0 0] 128)).trans c1 (fun _ _ h => h)))
  simp only [ndCells, List.getElem?_cons_succ, List.getElem?_cons_zero] at b0 b1 b2 b3 b4 b5 b6 b7
  have q0 : (zr 32)[0]? = some (.int .u8 0) := zr_get (by omega)
  have q1 : (zr 32)[1]? = some (.int .u8 0) := zr_get (by omega)
  have q2 : (zr 32)[2]? = some (.int .u8 0) := zr_get (by omega)
  have q3 : (zr 32)[3]? = some (.int .u8 0) := zr_get (by omega)
  have q4 : (zr 32)[4]? = some (.int .u8 0) := zr_get (by omega)
  have q5 : (zr 32)[5]? = some (.int .u8 0) := zr_get (by omega)
  have q6 : (zr 32)[6]? = some (.int .u8 0) := zr_get (by omega)
  have q7 : (zr 32)[7]? = some (.int .u8 0) := zr_get (by omega)
  have q8 : (zr 32)[8]? = some (.int .u8 0) := zr_get (by omega)
  clear c1 B0 B1
  go_upto_region 10 with (go_at_call 111; refine (xpack_nil _).mono ?_; rintro e w2 ⟨rfl, rfl⟩)
  go_cut [5] (fun s5 wx => s5 = .slice (some ⟨w1.heap.size, 0, none⟩) 32 32 ∧ wx = ((w1.alloc (.cells ((((((zr 32).set 0 (.int .u8 2)).set 1 (.int .u8 237)).set 2 (.int .u8 1)).set 3 (.int .u8 0)).set 4 (.int .u8 0)).toArray 5)).alloc (.cells (zr 16).toArray 5)).drew)
  case first =>
    go_region
    go_wp2
    go_meet
    exact ⟨rfl, rfl⟩
  case rest =>
    obtain ⟨rfl, rfl⟩ := hcut
    go_upto_region 11 with fail
    go_cut [5] (fun s5 wx => s5 = .slice (some ⟨w1.heap.size, 0, none⟩) 32 32 ∧ wx = ((w1.alloc (.cells ((((((((((zr 32).set 0 (.int .u8 2)).set 1 (.int .u8 237)).set 2 (.int .u8 1)).set 3 (.int .u8 0)).set 4 (.int .u8 0)).set 5 (.int .u8 0)).set 6 (.int .u8 0)).set 7 (.int .u8 1)).set 8 (.int .u8 1)).toArray 5)).alloc (.cells (zr 16).toArray 5)).drew.drew)
    case first =>
      go_region
      go_wp2
      go_meet
      exact ⟨rfl, rfl⟩
    case rest =>
      obtain ⟨rfl, hw⟩ := hcut
      have B9 : Blk wc w1.heap.size 5 ((((((((((zr 32).set 0 (.int .u8 2)).set 1 (.int .u8 237)).set 2 (.int .u8 1)).set 3 (.int .u8 0)).set 4 (.int .u8 0)).set 5 (.int .u8 0)).set 6 (.int .u8 0)).set 7 (.int .u8 1)).set 8 (.int .u8 1)) := by rw [hw]; exact (Blk.new w1 _ _).alloc _
      have P9 : Blk wc (w1.heap.size + 1) 5 (zr 16) := by
        rw [hw]
        have := Blk.new (w1.alloc (.cells ((((((((((zr 32).set 0 (.int .u8 2)).set 1 (.int .u8 237)).set 2 (.int .u8 1)).set 3 (.int .u8 0)).set 4 (.int .u8 0)).set 5 (.int .u8 0)).set 6 (.int .u8 0)).set 7 (.int .u8 1)).set 8 (.int .u8 1)).toArray 5)) 5 (zr 16)
        rwa [show (w1.alloc (.cells ((((((((((zr 32).set 0 (.int .u8 2)).set 1 (.int .u8 237)).set 2 (.int .u8 1)).set 3 (.int .u8 0)).set 4 (.int .u8 0)).set 5 (.int .u8 0)).set 6 (.int .u8 0)).set 7 (.int .u8 1)).set 8 (.int .u8 1)).toArray 5)).heap.size = w1.heap.size + 1 by simp] at this
      have CC : Chg Nil w wc := by rw [hw]; exact (((C1.out.alloc _).alloc _).drew).drew
      have S9 := Sl.of_blk (n := 32) (s := 1) B9 (by simp [zr_len]) (by decide)
      have R9 := Rd.of_blk (n := 16) (s := 1) P9 (by simp [zr_len]) (by decide)
      have S10 := S9.over (lo := 9) (vs := zr 16) (by omega) (by rw [zr_len]; omega)
      rw [Nat.zero_add] at S10
      have hfin : List.take 9 ((((((((((zr 32).set 0 (.int .u8 2)).set 1 (.int .u8 237)).set 2 (.int .u8 1)).set 3 (.int .u8 0)).set 4 (.int .u8 0)).set 5 (.int .u8 0)).set 6 (.int .u8 0)).set 7 (.int .u8 1)).set 8 (.int .u8 1)) ++ zr 16 ++ List.drop (9 + (zr 16).length) ((((((((((zr 32).set 0 (.int .u8 2)).set 1 (.int .u8 237)).set 2 (.int .u8 1)).set 3 (.int .u8 0)).set 4 (.int .u8 0)).set 5 (.int .u8 0)).set 6 (.int .u8 0)).set 7 (.int .u8 1)).set 8 (.int .u8 1)) = bys (ndB 2 493 1 1) := by rfl
      rw [hfin] at S10
      have hcp : ∀ ty, (Builtin.copy_ #[28, 28] ty #[.slice (some ⟨w1.heap.size, 9, none⟩) 23 23, .slice (some ⟨w1.heap.size + 1, 0, none⟩) 16 16]).run Tryz.prog wc = .ok (goInt 16) (wc.setCells w1.heap.size 9 (zr 16)) := fun ty =>
        copy_sl _ _ _ ty eU8 B9 23 23 R9 (by omega) (by omega) (by simp [zr_len]) (by rw [zr_bys]; exact ints_one _ _)
      have FS := hid S10
      have FC : Hid (Chg Nil w (wc.setCells w1.heap.size 9 (zr 16))) := hid (CC.trans (setCells_chg wc w1.heap.size 9 (zr 16) (One w1.heap.size) rfl) (fun k hk hh => by rw [show k = w1.heap.size from hh] at hk; omega))
      replace hw := hid hw
      clear B9 P9 CC S9 R9 S10 hfin b0 b1 b2 b3 b4 b5 b6 b7 q0 q1 q2 q3 q4 q5 q6 q7 q8
      go_wp2
      go_ret2
      exact ⟨_, _, rfl, FS.out, FC.out, fun g hg => by injection hg with hg; omega⟩
theorem ndpack_1 (w : World) : Calls Tryz.prog 46 #[ndV 2 493 1 1] w fun e w' => ∃ a c G, e = .returned (.tuple #[.slice a 32 c, .int .i64 0]) ∧ Sl w' 5 1 a 32 c (bys (ndB 2 493 1 1)) G ∧ Chg Nil w w' ∧ ∀ g, G = some g → w.heap.size ≤ g := (ndpack_32 w).mono (fun e w' ⟨a, G, h⟩ => ⟨a, 32, G, h⟩)
end Go.Proofs.YtjllklddjkkddaaGreatDoor
namespace Go.Proofs.YtjllklddjkkddaaGreatDoor
open Go.ChangeShapes Go.WideShapes Go.ChangeAt Go.RowKit
set_option linter.unusedVariables false
theorem load_part {P : Program} {w : World} {g lo n : Nat} {t ty : TypeId} {cs : List Value} {d : TypeDesc} (h : Blk w g t cs) (hl : lo + n ≤ cs.length) (hu : P.underlying ty = some d) (hd : d.isRow = true) (hi : (P.info? ty).map (·.size) = some n) :
    (Instr.loadAt ty (.pointer (some ⟨g, lo, none⟩))).run P w = .ok (.agg (part_ cs lo n).toArray) w :=
  run_loadAt_mid w g lo ty (part_ cs lo n) d (h.range hl) hu hd (by rw [part_len hl]; exact hi)
theorem store_part {P : Program} {w : World} {g lo : Nat} {t ty : TypeId} {cs vs : List Value} (h : Blk w g t cs) (hl : lo + vs.length ≤ cs.length) (hi : (P.info? ty).map (·.size) = some vs.length) (h1 : ∀ u ∈ vs, u.oneCell' = true) :
    (Instr.storeAt ty (.pointer (some ⟨g, lo, none⟩)) (.agg vs.toArray)).run P w = .ok () (w.setCells g lo vs) ∧ Blk (w.setCells g lo vs) g t (over_ cs lo vs) ∧ Chg (One g) w (w.setCells g lo vs) := by
  refine ⟨?_, h.cells hl, setCells_chg _ _ _ _ _ rfl⟩
  have := run_storeAt_mid (P := P) w g lo ty vs.toArray (by simpa using h.there (lo := lo) (n := vs.length) hl) (by simpa using hi) (all_oneCell_toArray h1)
  simpa using this
theorem One.new {w w' : World} {g : Nat} (hg : w.heap.size ≤ g) (h : Chg (One g) w w') : Chg Nil w w' := h.mono (fun k hk hh => by rw [show k = g from hh] at hk; omega)
theorem Chg.one {F : Nat → Prop} {w w1 w' : World} {g : Nat} (h : Chg F w w1) (hg : F g ∨ w.heap.size ≤ g) (h' : Chg (One g) w1 w') : Chg F w w' := h.trans h' (fun k hk hh => by
  rw [show k = g from hh] at hk ⊢
  rcases hg with hg | hg
  · exact hg
  · omega)
theorem over_nil (cs : List Value) (lo : Nat) : over_ cs lo [] = cs := by
  unfold over_
  simp
theorem over_right {X L vs : List Value} {lo i : Nat} (h : lo = X.length + i) : over_ (X ++ L) lo vs = X ++ over_ L i vs := by
  subst h
  unfold over_
  rw [List.take_length_add_append, Nat.add_assoc, ← List.drop_drop, List.drop_left, List.append_assoc, List.append_assoc]
  simp
theorem over_left {X L vs : List Value} {lo : Nat} (h : lo + vs.length ≤ X.length) : over_ (X ++ L) lo vs = over_ X lo vs ++ L := by
  unfold over_
  rw [List.take_append_of_le_length (by omega), List.drop_append_of_le_length (by omega)]
  simp
theorem over_whole {X vs : List Value} (h : vs.length = X.length) : over_ X 0 vs = vs := by
  unfold over_
  rw [List.drop_of_length_le (by omega)]
  simp
theorem fold_set (off : Nat) : ∀ (vs : List Value) (k : Nat) (cs : Array Value), off + k + vs.length ≤ cs.size → ((vs.zipIdx k).foldl (fun cs x => cs.setIfInBounds (off + x.2) x.1) cs).toList = over_ cs.toList (off + k) vs := by
  intro vs
  induction vs with
  | nil => intro k cs _; simp [over_nil]
  | cons v vs ih =>
    intro k cs h
    simp only [List.length_cons] at h
    rw [List.zipIdx_cons, List.foldl_cons, ih (k + 1) _ (by simp; omega)]
    simp only [Array.toList_setIfInBounds]
    rw [← Nat.add_assoc, over_cons v (by simp; omega)]
/-- One field of a struct or an array that is built. -/
theorem fill_cons {place : Nat → Option (Nat × Nat)} {cs : List Value} {i : Nat} {v : Value} {rest : List (Nat × Value)} {off size : Nat} {vs : List Value} (hv : v.cells = vs.toArray) (hp : place i = some (off, size)) (hs : vs.length = size) (hb : off + size ≤ cs.length) :
    Instr.fill place cs.toArray ((i, v) :: rest) = Instr.fill place (over_ cs off vs).toArray rest := by
  rw [Instr.fill, hp]
  simp only [hv, List.size_toArray]
  rw [if_neg (by simp; omega)]
  congr 1
  have h1 := fold_set off vs 0 cs.toArray (by simp; omega)
  rw [Nat.add_zero] at h1
  rw [← h1]
  simp
theorem fill_nil {place : Nat → Option (Nat × Nat)} {cs : List Value} : Instr.fill place cs.toArray [] = some cs.toArray := rfl
/-- What is to be known of a struct's type. -/
def shapeOf (P : Program) (t : TypeId) : Option (List Value × List (Nat × Nat)) :=
  match P.info? t, P.underlying t with
  | some it, some (.struct fields) =>
    match it.zero, fields.toList.mapM (fun f => (P.info? f.type).map fun i => (f.offset, i.size)) with
    | some z, some places => some (z.cells.toList, places)
    | _, _ => none
  | _, _ => none
theorem built_struct {P : Program} {t : TypeId} {Z X : List Value} {places : List (Nat × Nat)} {parts : List (Nat × Value)} (h : shapeOf P t = some (Z, places)) (hf : Instr.fill (places.toArray[·]?) Z.toArray parts = some X.toArray) : P.built t parts = some X.toArray := by
  unfold shapeOf at h
  unfold Program.built
  cases hi : P.info? t with
  | none => rw [hi] at h; cases h
  | some it =>
    cases hu : P.underlying t with
    | none => rw [hi, hu] at h; cases h
    | some d =>
      cases d <;> try (rw [hi, hu] at h; cases h; done)
      case struct fields =>
        rw [hi, hu] at h
        simp only at h ⊢
        cases hz : it.zero with
        | none => rw [hz] at h; cases h
        | some z =>
          cases hm : fields.toList.mapM (fun f => (P.info? f.type).map fun i => (f.offset, i.size)) with
          | none => rw [hz, hm] at h; cases h
          | some pl =>
            rw [hz, hm] at h
            simp only [Option.some.injEq, Prod.mk.injEq] at h
            obtain ⟨rfl, rfl⟩ := h
            simpa using hf
theorem run_build_struct {P : Program} {t : TypeId} {Z X : List Value} {places : List (Nat × Nat)} {parts : Array (Nat × Value)} (w : World) (h : shapeOf P t = some (Z, places)) (hf : Instr.fill (places.toArray[·]?) Z.toArray parts.toList = some X.toArray) :
    (Instr.build t parts).run P w = .ok (.agg X.toArray) w := run_build w t parts _ (built_struct h hf)
theorem wpList_build_run {P : Program} {ops : Array Oper} {rest : List Oper} {op : Oper} {a : Act} {w w' : World} {Q : Exit → Act → World → Prop} {t : TypeId} {vals : Array (Nat × Value)} {parts : Array (Nat × Operand)} {r : Value} (L : (Instr.build t vals).run P w = .ok r w') (hgd : op.guard = none) (ho : op.op = .build t parts) (hp : (parts.toList.map fun x => (x.1, a.eval x.2)) = vals.toList)
    (h : wpList P ops Q rest (a.put op.dst r) w') : wpList P ops Q (op :: rest) a w :=
  wpList_plain hgd fun _ hK => by
    have hp2 : (parts.map fun (i, x) => (i, a.eval x)) = vals := by
      apply Array.ext'
      rw [Array.toList_map]
      exact hp
    subst hp2
    unfold Oper.wp execOp
    simp only [ho, Sem.run_bind, L, Result.andThen_ok, Sem.run_pure]
    exact hK _ _ h
theorem wp_build_run {P : Program} {op : Oper} {a : Act} {w w' : World} {K : Act → World → Prop} {Q : Exit → Act → World → Prop} {t : TypeId} {vals : Array (Nat × Value)} {parts : Array (Nat × Operand)} {r : Value} (L : (Instr.build t vals).run P w = .ok r w') (ho : op.op = .build t parts) (hp : (parts.toList.map fun x => (x.1, a.eval x.2)) = vals.toList)
    (h : K (a.put op.dst r) w') : op.wp P a w K Q := by
  have hp2 : (parts.map fun (i, x) => (i, a.eval x)) = vals := by
    apply Array.ext'
    rw [Array.toList_map]
    exact hp
  subst hp2
  unfold Oper.wp execOp
  simp only [ho, Sem.run_bind, L, Result.andThen_ok, Sem.run_pure]
  exact h
theorem wp_load_run {P : Program} {op : Oper} {a : Act} {w w' : World} {K : Act → World → Prop} {Q : Exit → Act → World → Prop} {ty : TypeId} {x : Operand} {v r : Value} (L : (Instr.loadAt ty v).run P w = .ok r w') (ho : op.op = .load ty x) (hx : a.eval x = v)
    (h : K (a.put op.dst r) w') : op.wp P a w K Q := by
  unfold Oper.wp execOp
  simp only [ho, hx, Sem.run_bind, L, Result.andThen_ok, Sem.run_pure]
  exact h
theorem wp_store_run {P : Program} {op : Oper} {a : Act} {w w' : World} {K : Act → World → Prop} {Q : Exit → Act → World → Prop} {ty : TypeId} {x y : Operand} {v u : Value} (L : (Instr.storeAt ty v u).run P w = .ok () w') (ho : op.op = .store ty x y) (hx : a.eval x = v) (hy : a.eval y = u)
    (h : K (a.put op.dst undef) w') : op.wp P a w K Q := by
  unfold Oper.wp execOp
  simp only [ho, hx, hy, Sem.run_bind, L, Result.andThen_ok, Sem.run_pure]
  exact h
theorem step_load_run {P : Program} {ops : Array Oper} {op : Oper} {a : Act} {w w' : World} {K : Act → World → Prop} {Q : Exit → Act → World → Prop} {E : Prop} {ty : TypeId} {x : Operand} {v r : Value} (L : (Instr.loadAt ty v).run P w = .ok r w') (hw : Region.wanted op (yielded ops a.tmps) = true) (ho : op.op = .load ty x) (hx : a.eval x = v)
    (h : K (a.put op.dst r) w') : if Region.wanted op (yielded ops a.tmps) = true then Oper.wp P op a w K Q else E := by
  rw [if_pos hw]
  exact wp_load_run L ho hx h
theorem step_store_run {P : Program} {ops : Array Oper} {op : Oper} {a : Act} {w w' : World} {K : Act → World → Prop} {Q : Exit → Act → World → Prop} {E : Prop} {ty : TypeId} {x y : Operand} {v u : Value} (L : (Instr.storeAt ty v u).run P w = .ok () w') (hw : Region.wanted op (yielded ops a.tmps) = true) (ho : op.op = .store ty x y) (hx : a.eval x = v) (hy : a.eval y = u)
    (h : K (a.put op.dst undef) w') : if Region.wanted op (yielded ops a.tmps) = true then Oper.wp P op a w K Q else E := by
  rw [if_pos hw]
  exact wp_store_run L ho hx hy h
theorem step_build_run {P : Program} {ops : Array Oper} {op : Oper} {a : Act} {w w' : World} {K : Act → World → Prop} {Q : Exit → Act → World → Prop} {E : Prop} {t : TypeId} {vals : Array (Nat × Value)} {parts : Array (Nat × Operand)} {r : Value} (L : (Instr.build t vals).run P w = .ok r w') (hw : Region.wanted op (yielded ops a.tmps) = true) (ho : op.op = .build t parts) (hp : (parts.toList.map fun x => (x.1, a.eval x.2)) = vals.toList)
    (h : K (a.put op.dst r) w') : if Region.wanted op (yielded ops a.tmps) = true then Oper.wp P op a w K Q else E := by
  rw [if_pos hw]
  exact wp_build_run L ho hp h
end Go.Proofs.YtjllklddjkkddaaGreatDoor
