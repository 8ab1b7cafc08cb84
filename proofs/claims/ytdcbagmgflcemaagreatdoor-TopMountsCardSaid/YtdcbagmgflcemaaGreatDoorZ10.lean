/- Contracts of package extent where a file has no sectors. Conditions: just that · A part of a block's cells, read and written at once. No program in sight; no condition · Contracts of package quota where nothing is told of anybody. Conditions: just that · Contracts of package inode at no node, and at the root of an empty file system. Conditions: just these. -/
import Derived.Test.YtdcbagmgflcemaaGreatDoorZ09
import Derived.Shelf.Bytes.SlEqualAll
import Derived.Deep.MidRow
namespace Go.Proofs.YtdcbagmgflcemaaGreatDoor
open Go.ChangeShapes Go.WideShapes Go.ChangeAt Go.RowKit
set_option linter.unusedVariables false
theorem bytesIn_rd {w : World} {R : Nat → Prop} {a : Option Addr} {n c : Nat} {l : List Int} (h : Rd w R 1 a n c (ints .u8 l)) : Lib.BytesIn w a n l := by
  have hl := h.ilen
  rcases Nat.eq_zero_or_pos n with h0 | h0
  · subst h0; exact Lib.BytesIn.nil _ _ _
  · obtain ⟨g, off, rfl, _, _, hc⟩ := h.at (i := 0) (by omega)
    refine Lib.BytesIn.of_cells fun i hi => ?_
    rw [add_off, hc i (by omega)]
    simp [List.getD, show i < l.length by omega]
theorem xright_nil (w : World) : Calls Tryz.prog 190 #[.slice none 0 0] w fun e w' => e = .returned (.int .i64 0) ∧ w = w' := by
  go_enter Tryz.func190, Tryz.ntmps190
  go_wp2
  go_loop [10] (fun s10 => s10 = .int .i64 0) (fun _ => 0)
  case atStart => rfl
  case round =>
    subst hrel
    go_wp2
    go_ret
    exact ⟨rfl, rfl⟩
theorem xof_nil (w : World) : Calls Tryz.prog 191 #[.slice none 0 0] w fun e w' => e = .returned (.tuple #[.slice none 0 0, .int .i64 0]) ∧ w = w' := by
  go_enter Tryz.func191, Tryz.ntmps191
  go_wp2_with (go_at_call 190; refine (xright_nil _).mono ?_; rintro e w' ⟨rfl, rfl⟩)
  go_loop [5, 16] (fun s5 s => s5 = .slice none 0 0 ∧ s = .int .i64 0) (fun _ _ => 0)
  case atStart => exact ⟨rfl, rfl⟩
  case round =>
    obtain ⟨rfl, rfl⟩ := hrel
    go_wp2
    go_ret2
    exact ⟨rfl, rfl⟩
theorem xpoints_nil (w : World) : Calls Tryz.prog 258 #[.slice none 0 0] w fun e w' => e = .returned (.tuple #[.slice none 0 0, .int .i64 0]) ∧ w = w' := by
  go_enter Tryz.func258, Tryz.ntmps258
  go_wp2
  go_loop [4, 10] (fun s4 s => s4 = .slice none 0 0 ∧ s = .int .i64 0) (fun _ _ => 0)
  case atStart => exact ⟨rfl, rfl⟩
  case round =>
    obtain ⟨rfl, rfl⟩ := hrel
    go_wp2
    go_ret2
    exact ⟨rfl, rfl⟩
theorem xpack_nil (w : World) : Calls Tryz.prog 111 #[.slice none 0 0] w fun e w' => e = .returned (.tuple #[.slice (some ⟨w.heap.size, 0, none⟩) 16 16, .int .i64 0]) ∧ w' = w.alloc (.cells (zr 16).toArray 5) := by
  have hmk := mk_bytes 16 (by omega) 16 rfl
  go_enter Tryz.func111, Tryz.ntmps111
  go_wp2_with (go_at_call 191; refine (xof_nil _).mono ?_; rintro e w' ⟨rfl, rfl⟩)
  go_loop [20] (fun s => s = .int .i64 0) (fun _ => 0)
  case atStart => rfl
  case round =>
    subst hrel
    go_wp2
    go_ret2
    exact ⟨rfl, rfl⟩
set_option maxRecDepth 100000 in
set_option maxHeartbeats 1000000 in
theorem xunpack_zero (w : World) (R : Nat → Prop) (b : Option Addr) (c : Nat) (h : Rd w R 1 b 16 c (zr 16)) :
    Calls Tryz.prog 194 #[.slice b 16 c] w fun e w' => e = .returned (.tuple #[.slice none 0 0, .int .i64 0]) ∧ Chg Nil w w' := by
  obtain ⟨g, off, rfl, _, _, hc⟩ := h.cellAt (by omega)
  have k1 := hc 1 (by omega)
  rw [zr_get (by omega)] at k1
  have h2 := h.alloc (.cells (zr 16).toArray 5)
  have s2 := (zr_sl w 16 (by omega)).rd
  rw [show zr 16 = bys (List.replicate 16 0) from zr_bys 16] at h2 s2
  have e2 := (bytesIn_rd s2).convert (P := Tryz.prog) s2.ilen 16 22 5 9 Tryz.underlying22 (by kernel_rfl) (by kernel_rfl)
  have e1 := (bytesIn_rd h2).convert (P := Tryz.prog) h2.ilen c 22 5 9 Tryz.underlying22 (by kernel_rfl) (by kernel_rfl)
  rw [← zr_bys 16] at e1 e2
  generalize strOfNums (List.replicate 16 0) = str at e1 e2
  clear hc h h2 s2
  go_enter Tryz.func194, Tryz.ntmps194
  go_wp2
  go_loop [4, 5] (fun s4 s5 => s4 = .slice none 0 0 ∧ s5 = .int .i64 0) (fun _ _ => 0)
  case atStart => exact ⟨rfl, rfl⟩
  case round =>
    obtain ⟨rfl, rfl⟩ := hrel
    go_wp2_with (first | (go_at_call 258; refine (xpoints_nil _).mono ?_; rintro e w' ⟨rfl, rfl⟩) | (go_at_call 111; refine (xpack_nil _).mono ?_; rintro e w' ⟨rfl, rfl⟩))
    go_ret2
    exact ⟨rfl, (Chg.refl Nil w).alloc _⟩
end Go.Proofs.YtdcbagmgflcemaaGreatDoor
namespace Go.Proofs.YtdcbagmgflcemaaGreatDoor
open Go.ChangeShapes Go.WideShapes Go.ChangeAt Go.RowKit
set_option linter.unusedVariables false
/-- n cells from lo on. -/
def part_ (cs : List Value) (lo n : Nat) : List Value := (cs.drop lo).take n
/-- Cells are put anew from lo on. -/
def over_ (cs : List Value) (lo : Nat) (vs : List Value) : List Value := cs.take lo ++ vs ++ cs.drop (lo + vs.length)
section
variable {w : World} {p lo n : Nat} {t : TypeId} {cs vs : List Value}
theorem part_len (h : lo + n ≤ cs.length) : (part_ cs lo n).length = n := by
  unfold part_
  rw [List.length_take, List.length_drop]
  omega
theorem part_get (h : lo + n ≤ cs.length) {j : Nat} (hj : j < n) : (part_ cs lo n)[j]? = cs[lo + j]? := by
  unfold part_
  rw [List.getElem?_take, if_pos hj, List.getElem?_drop]
theorem over_len (h : lo + vs.length ≤ cs.length) : (over_ cs lo vs).length = cs.length := by
  unfold over_
  simp only [List.length_append, List.length_take, List.length_drop]
  omega
theorem Blk.range (h : Blk w p t cs) (hl : lo + n ≤ cs.length) : w.rangeAt p lo (part_ cs lo n) := fun j v hv => by
  have hj : j < n := by have := (List.getElem?_eq_some_iff.1 hv).1; rwa [part_len hl] at this
  rw [h.cell, ← part_get hl hj, hv]
theorem Blk.there (h : Blk w p t cs) (hl : lo + n ≤ cs.length) : w.there p lo n := fun j hj => by
  refine ⟨?_, h.frozen _⟩
  rw [h.cell, List.getElem?_eq_getElem (by omega)]
  rfl
theorem over_get (h : lo + vs.length ≤ cs.length) (k : Nat) : (over_ cs lo vs)[k]? = if k < lo then cs[k]? else if k < lo + vs.length then vs[k - lo]? else cs[k]? := by
  have hl : (cs.take lo).length = lo := by rw [List.length_take]; omega
  unfold over_
  rw [List.append_assoc]
  by_cases h1 : k < lo
  · rw [if_pos h1, List.getElem?_append_left (by omega), List.getElem?_take, if_pos h1]
  · rw [if_neg h1, List.getElem?_append_right (by omega), hl]
    by_cases h2 : k < lo + vs.length
    · rw [if_pos h2, List.getElem?_append_left (by omega)]
    · rw [if_neg h2, List.getElem?_append_right (by omega), List.getElem?_drop]
      congr 1
      omega
theorem over_cons (v : Value) (hl : lo + (vs.length + 1) ≤ cs.length) : over_ (cs.set lo v) (lo + 1) vs = over_ cs lo (v :: vs) := by
  apply List.ext_getElem?
  intro k
  rw [over_get (by rw [List.length_set]; omega), over_get (by simpa using hl)]
  simp only [List.length_cons, List.getElem?_set]
  by_cases h1 : k < lo
  · rw [if_pos (show k < lo + 1 by omega), if_pos h1, if_neg (show ¬ lo = k by omega)]
  · by_cases h2 : k = lo
    · subst h2
      rw [if_pos (show k < k + 1 by omega), if_pos rfl, if_pos (show k < cs.length by omega), if_neg (show ¬ k < k by omega), if_pos (show k < k + (vs.length + 1) by omega), Nat.sub_self]
      rfl
    · rw [if_neg (show ¬ k < lo + 1 by omega), if_neg h1, if_neg (show ¬ lo = k by omega)]
      by_cases h3 : k < lo + 1 + vs.length
      · rw [if_pos h3, if_pos (show k < lo + (vs.length + 1) by omega), show k - lo = (k - (lo + 1)) + 1 by omega, List.getElem?_cons_succ]
      · rw [if_neg h3, if_neg (show ¬ k < lo + (vs.length + 1) by omega)]
theorem setCells_list (w : World) (p lo : Nat) : ∀ (vs cs : List Value), Blk w p t cs → lo + vs.length ≤ cs.length → Blk (w.setCells p lo vs) p t (over_ cs lo vs) := by
  intro vs
  induction vs generalizing w lo with
  | nil => intro cs h hl; show Blk w p t _; unfold over_; rw [List.append_nil]; simpa using h
  | cons v vs ih =>
    intro cs h hl
    simp only [List.length_cons] at hl
    have := ih (w := w.setCell ⟨p, lo, none⟩ v) (lo := lo + 1) (cs.set lo v) (h.set lo v) (by simp; omega)
    rw [over_cons v hl] at this
    exact this
theorem Blk.cells (h : Blk w p t cs) (hl : lo + vs.length ≤ cs.length) : Blk (w.setCells p lo vs) p t (over_ cs lo vs) := setCells_list w p lo vs cs h hl
end
end Go.Proofs.YtdcbagmgflcemaaGreatDoor
namespace Go.Proofs.YtdcbagmgflcemaaGreatDoor
open Go.ChangeShapes Go.WideShapes Go.ChangeAt Go.RowKit
set_option linter.unusedVariables false
theorem qright_nil (w : World) : Calls Tryz.prog 195 #[.slice none 0 0] w fun e w' => e = .returned (.int .i64 0) ∧ w = w' := by
  go_enter Tryz.func195, Tryz.ntmps195
  go_wp2
  go_loop [10] (fun s => s = .int .i64 0) (fun _ => 0)
  case atStart => rfl
  case round =>
    subst hrel
    go_wp2
    go_ret
    exact ⟨rfl, rfl⟩
theorem zr_set (n i : Nat) : (zr n).set i (.int .u8 0) = zr n := by
  unfold zr
  apply List.ext_getElem?
  intro k
  rw [List.getElem?_set]
  split
  · rename_i h
    subst h
    split
    · rename_i h1
      rw [List.getElem?_replicate, if_pos (by simpa using h1)]
    · rename_i h1
      rw [List.getElem?_replicate, if_neg (by simpa using h1)]
  · rfl
set_option maxRecDepth 100000 in
theorem qpack_nil (w : World) : Calls Tryz.prog 116 #[.slice none 0 0] w fun e w' => e = .returned (.tuple #[.slice (some ⟨w.heap.size, 0, none⟩) 64 64, .int .i64 0]) ∧ w' = w.alloc (.cells (zr 64).toArray 5) := by
  have hmk := mk_bytes 64 (by omega) 64 rfl
  have hz : (zr 64)[0]? = some (.int .u8 0) := zr_get (by omega)
  have hs := zr_set 64 0
  go_enter Tryz.func116, Tryz.ntmps116
  go_wp2_with (go_at_call 195; refine (qright_nil _).mono ?_; rintro e w' ⟨rfl, rfl⟩)
  go_loop [21] (fun s => s = .int .i64 0) (fun _ => 0)
  case atStart => rfl
  case round =>
    subst hrel
    go_wp2
    go_ret2
    exact ⟨rfl, rfl⟩
set_option maxRecDepth 100000 in
theorem qunpack_zero (w : World) (R : Nat → Prop) (b : Option Addr) (c : Nat) (h : Rd w R 1 b 64 c (zr 64)) :
    Calls Tryz.prog 54 #[.slice b 64 c] w fun e w' => e = .returned (.tuple #[.slice none 0 0, .int .i64 0]) ∧ Chg Nil w w' := by
  obtain ⟨g, off, rfl, _, _, hc⟩ := h.cellAt (by omega)
  have k0 := hc 0 (by omega)
  rw [zr_get (by omega), Nat.add_zero] at k0
  have h2 := h.alloc (.cells (zr 64).toArray 5)
  have s2 := (zr_sl w 64 (by omega)).rd
  rw [show zr 64 = bys (List.replicate 64 0) from zr_bys 64] at h2 s2
  have HE := hid (equal_by _ _ _ _ _ _ _ _ _ _ _ s2 h2 (by omega) (by omega))
  rw [← zr_bys 64] at HE
  clear hc h h2 s2
  go_enter Tryz.func54, Tryz.ntmps54
  go_wp2
  go_loop [4, 21] (fun s4 s => s4 = .slice none 0 0 ∧ s = .int .i64 0) (fun _ _ => 0)
  case atStart => exact ⟨rfl, rfl⟩
  case round =>
    obtain ⟨rfl, rfl⟩ := hrel
    go_wp2_with (first | (go_at_call 116; refine (qpack_nil _).mono ?_; rintro e w' ⟨rfl, rfl⟩) | (go_at_call 10; refine HE.out.mono ?_; rintro e w' ⟨rfl, k, rfl⟩))
    go_ret2
    exact ⟨rfl, ((Chg.refl Nil w).alloc _).drewN k⟩
end Go.Proofs.YtdcbagmgflcemaaGreatDoor
namespace Go.Proofs.YtdcbagmgflcemaaGreatDoor
open Go.ChangeShapes Go.WideShapes Go.ChangeAt Go.RowKit
set_option linter.unusedVariables false
/-- A node without sectors. -/
def ndV (k m l u : Int) : Value := .agg #[.int .i64 k, .int .i64 m, .int .i64 0, .int .i64 0, .int .i64 0, .int .i64 l, .int .i64 u, .slice none 0 0]
def ndCells (k m l u : Int) : List Value := [.int .i64 k, .int .i64 m, .int .i64 0, .int .i64 0, .int .i64 0, .int .i64 l, .int .i64 u, .slice none 0 0]
/-- Its bytes. -/
def ndB (k m l u : Nat) : List Int := [(k : Int), ((m % 256 : Nat) : Int), ((m / 256 : Nat) : Int), 0, 0, 0, 0, (l : Int), (u : Int)] ++ List.replicate 23 0
theorem blocks_0 (w : World) : Calls Tryz.prog 131 #[.int .i64 0] w fun e w' => e = .returned (.int .i64 0) ∧ w = w' := by
  go_enter Tryz.func131, Tryz.ntmps131
  go_wp2
  go_ret
  exact ⟨rfl, rfl⟩
set_option maxRecDepth 100000 in
theorem ndright_0 (w : World) : Calls Tryz.prog 110 #[ndV 0 0 0 0] w fun e w' => e = .returned (.int .i64 0) ∧ Chg Nil w w' := by
  show Calls Tryz.prog 110 #[.agg #[.int .i64 0, .int .i64 0, .int .i64 0, .int .i64 0, .int .i64 0, .int .i64 0, .int .i64 0, .slice none 0 0]] w _
  go_enter Tryz.func110, Tryz.ntmps110
  go_wp2
  go_ret
  exact ⟨rfl, (Chg.refl Nil w).alloc _⟩
set_option maxRecDepth 100000 in
theorem ndright_1 (w : World) : Calls Tryz.prog 110 #[ndV 2 493 1 1] w fun e w' => e = .returned (.int .i64 0) ∧ Chg Nil w w' := by
  show Calls Tryz.prog 110 #[.agg #[.int .i64 2, .int .i64 493, .int .i64 0, .int .i64 0, .int .i64 0, .int .i64 1, .int .i64 1, .slice none 0 0]] w _
  go_enter Tryz.func110, Tryz.ntmps110
  go_wp2_with (go_at_call 190; refine (xright_nil _).mono ?_; rintro e w' ⟨rfl, rfl⟩)
  go_region_law (go_simp; go_at_call 131; refine (blocks_0 _).mono ?_; rintro e w' ⟨rfl, rfl⟩)
  all_goals
    go_wp2
    go_ret
    exact ⟨rfl, ((Chg.refl Nil w).alloc _).drew⟩
set_option maxRecDepth 100000 in
theorem ndpack_0 (w : World) : Calls Tryz.prog 47 #[ndV 0 0 0 0] w fun e w' => ∃ a c G, e = .returned (.tuple #[.slice a 32 c, .int .i64 0]) ∧ Sl w' 5 1 a 32 c (bys (List.replicate 32 0)) G ∧ Chg Nil w w' ∧ ∀ g, G = some g → w.heap.size ≤ g := by
  have hmk := mk_bytes 32 (by omega) 32 rfl
  show Calls Tryz.prog 47 #[.agg #[.int .i64 0, .int .i64 0, .int .i64 0, .int .i64 0, .int .i64 0, .int .i64 0, .int .i64 0, .slice none 0 0]] w _
  have HR := fun w => ndright_0 w
  unfold ndV at HR
  have B0 := Blk.new w 120 (ndCells 0 0 0 0)
  go_enter Tryz.func47, Tryz.ntmps47
  go_wp2_with (go_at_call 110; refine (HR _).mono ?_; rintro e w1 ⟨rfl, c1⟩; have d0 : w1.cell? ⟨w.heap.size, 0, none⟩ = some (.int .i64 0) := (B0.chg c1 (fun h => h)).cell 0; have d0' : (w1.alloc (.cells (zr 32).toArray 5)).cell? ⟨w.heap.size, 0, none⟩ = some (.int .i64 0) := ((B0.chg c1 (fun h => h)).alloc (.cells (zr 32).toArray 5)).cell 0; replace c1 := hid c1)
  go_ret2
  have s1 := zr_sl w1 32 (by omega)
  rw [zr_bys] at s1
  exact ⟨_, 32, _, rfl, s1, (((Chg.refl Nil w).alloc _).trans c1.out (fun _ _ h => h)).alloc _, fun g hg => by injection hg with hg; have := c1.out.size; simp at this; omega⟩
end Go.Proofs.YtdcbagmgflcemaaGreatDoor
