/- Bytes: Equal, and check.Mark. Conditions: rows shorter than 2^32; a disk of at most 256 sectors. -/
import Derived.Test.YtdcbagmgflcemaaGreatDoorZ08
import Derived.Lib.LazyBuf
namespace Go.Proofs.YtdcbagmgflcemaaGreatDoor
open Go.ChangeShapes Go.WideShapes Go.ChangeAt Go.RowKit
set_option linter.unusedVariables false
theorem equal_by (R R' : Nat → Prop) (a b : Option Addr) (n c n' c' : Nat) (l m : List Int) (w : World) (h : Rd w R 1 a n c (ints .u8 l)) (h' : Rd w R' 1 b n' c' (ints .u8 m)) (hn : n ≤ 4294967296) (hn' : n' ≤ 4294967296) :
    Calls Tryz.prog 10 #[.slice a n c, .slice b n' c'] w fun e w' => e = .returned (.bool (eqI l m)) ∧ ∃ k, w' = w.drewN k := by
  obtain rfl := h.ilen
  obtain rfl := h'.ilen
  by_cases hlen : l.length = m.length
  · have hb : ((l.length : Int) != (m.length : Int)) = false := by rw [bne_eq_false_iff_eq]; omega
    have H := hid h
    have H' := hid h'
    have HL := hid hlen
    clear h h' hlen
    go_enter Tryz.func10, Tryz.ntmps10
    go_wp2
    go_loopw [13] (fun i wr => ∃ k : Nat, k ≤ l.length ∧ i = .int .i64 k ∧ Hid (l.take k = m.take k) ∧ Hid (∃ q, wr = w.drewN q)) (fun i _ => l.length - (intOf i).toNat)
    case atStart => exact ⟨0, Nat.zero_le _, rfl, rfl, 0, rfl⟩
    case round =>
      obtain ⟨k, hk, rfl, hr, q, rfl⟩ := hrel
      by_cases hlt : k < l.length
      · have hlt' : k < m.length := by have := HL.out; omega
        obtain ⟨g, off, rfl, _, _, hc⟩ := H.out.at hlt
        obtain ⟨g', off', rfl, _, _, hd⟩ := H'.out.at hlt'
        have hc1 := hc k hlt
        have hd1 := hd k hlt'
        clear hc hd
        have i1 : (k : Int) < (l.length : Int) := by omega
        have i2 : (k : Int) < (m.length : Int) := by omega
        by_cases he : l[k] = m[k]
        · have hbb : (l[k] != m[k]) = false := by rw [bne_eq_false_iff_eq]; exact he
          have HE := hid he
          clear he
          go_wp2
          go_quiet (fail)
          go_wp2
          go_roundw
          case rel =>
            refine ⟨k + 1, by omega, by go_num, ?_, _, rfl⟩
            show l.take (k + 1) = m.take (k + 1)
            rw [List.take_succ_eq_append_getElem hlt, List.take_succ_eq_append_getElem hlt', hr.out, HE.out]
          case measure => simp [intOf]; omega
        · have hbb : (l[k] != m[k]) = true := by rw [bne_iff_ne]; exact he
          have HE := hid he
          clear he
          go_wp2
          go_quiet (fail)
          go_wp2
          go_ret
          refine ⟨ret_bool ?_, _, World.drewN_drewN _ _ _⟩
          symm
          unfold eqI
          rw [decide_eq_false_iff_not]
          rintro rfl
          exact HE.out rfl
      · go_wp2
        go_ret
        refine ⟨ret_bool ?_, q, rfl⟩
        symm
        refine eqI_true ?_
        have h1 := hr.out
        rwa [List.take_of_length_le (by omega), List.take_of_length_le (by have := HL.out; omega)] at h1
  · have hb : ((l.length : Int) != (m.length : Int)) = true := by rw [bne_iff_ne]; omega
    have HL := hid hlen
    clear h h' hlen
    go_enter Tryz.func10, Tryz.ntmps10
    go_wp2
    go_ret
    refine ⟨ret_bool ?_, 0, rfl⟩
    symm
    unfold eqI
    rw [decide_eq_false_iff_not]
    rintro rfl
    exact HL.out rfl
/-- The first sector of a disk of so many. -/
def markB (n : Nat) : List Int := [114, 105, 110, 103, 1, ((n % 256 : Nat) : Int), ((n / 256 : Nat) : Int)] ++ List.replicate 57 0
theorem mark_len (n : Nat) : (markB n).length = 64 := by simp [markB]
/-- So many bytes 0. -/
def zr (n : Nat) : List Value := List.replicate n (.int .u8 0)
theorem zr_len (n : Nat) : (zr n).length = n := by simp [zr]
theorem zr_bys (n : Nat) : zr n = bys (List.replicate n 0) := by simp [zr, ints]
theorem zr_get {n i : Nat} (h : i < n) : (zr n)[i]? = some (.int .u8 0) := by unfold zr; rw [List.getElem?_replicate, if_pos h]
theorem mk_bytes (n : Nat) (hn : n ≤ 4294967296) (k : Int) (hk : k = (n : Int)) (w : World) : (Instr.makeSlice 22 (.int .i64 k) (.int .i64 k)).run Tryz.prog w = .ok (.slice (some ⟨w.heap.size, 0, none⟩) n n) (w.alloc (.cells (zr n).toArray 5)) := by
  subst hk
  exact run_make1 (P := Tryz.prog) (t := 22) (e := 5) (z := .int .u8 0) (bytes := 1) Tryz.underlying22 (by kernel_rfl) rfl (by omega) n hn w
theorem zr_sl (w : World) (n : Nat) (hn : n ≤ 4294967296) : Sl (w.alloc (.cells (zr n).toArray 5)) 5 1 (some ⟨w.heap.size, 0, none⟩) n n (zr n) (some w.heap.size) :=
  Sl.of_blk (n := n) (s := 1) (Blk.new w 5 (zr n)) (by rw [zr_len, Nat.mul_one]) (by unfold maxLen; omega)
set_option maxRecDepth 100000 in
theorem mark_ok (w : World) (n : Nat) (hn : n ≤ 256) :
    Calls Tryz.prog 48 #[.int .i64 (n : Int)] w fun e w' => ∃ a c G, e = .returned (.slice a 64 c) ∧ Sl w' 5 1 a 64 c (bys (markB n)) G ∧ Chg Nil w w' ∧ ∀ g, G = some g → w.heap.size ≤ g := by
  have hmk := mk_bytes 64 (by omega) 64 rfl
  have B0 := Blk.new w 5 (zr 64)
  have S0 := zr_sl w 64 (by omega)
  have S1 := S0.over (lo := 0) (vs := [.int .u8 114, .int .u8 105, .int .u8 110, .int .u8 103, .int .u8 1]) (by omega) (by simp)
  rw [Nat.add_zero] at S1
  have C1 := setCells_chg (w.alloc (.cells (zr 64).toArray 5)) w.heap.size 0 [.int .u8 114, .int .u8 105, .int .u8 110, .int .u8 103, .int .u8 1] (One w.heap.size) rfl
  have hcp : ∀ ty, (Builtin.copy_ #[22, 9] ty #[.slice (some ⟨w.heap.size, 0, none⟩) 64 64, .string ⟨#[114, 105, 110, 103, 1]⟩]).run Tryz.prog (w.alloc (.cells (zr 64).toArray 5)) = .ok (goInt 5) ((w.alloc (.cells (zr 64).toArray 5)).setCells w.heap.size 0 [.int .u8 114, .int .u8 105, .int .u8 110, .int .u8 103, .int .u8 1]) := fun ty => by
    have := run_copy_string (P := Tryz.prog) (w.alloc (.cells (zr 64).toArray 5)) 22 9 ty 5 w.heap.size 0 64 64 ⟨#[114, 105, 110, 103, 1]⟩ Tryz.underlying22 (by intro w; exact Tryz.sizeOf5 w) (by decide) (fun j hj => by rw [B0.cell, Nat.zero_add, zr_get (by have : (⟨#[114, 105, 110, 103, 1]⟩ : ByteArray).size = 5 := rfl; omega)]; rfl) (fun j hj => B0.frozen _)
    exact this
  obtain ⟨W, hW⟩ : ∃ W, W = (w.alloc (.cells (zr 64).toArray 5)).setCells w.heap.size 0 [.int .u8 114, .int .u8 105, .int .u8 110, .int .u8 103, .int .u8 1] := ⟨_, rfl⟩
  rw [← hW] at S1 C1 hcp
  have f5 := S1.free 5 (by omega)
  have f6 := S1.free 6 (by omega)
  obtain ⟨g2, off2, e2, _, _, hcell⟩ := S1.rd.cellAt (by omega)
  injection e2 with e2
  injection e2 with e2 e3
  subst e2; subst e3
  have k5 := hcell 5 (by omega)
  have k6 := hcell 6 (by omega)
  rw [Nat.zero_add] at k5 k6
  have hs1 := hid S1
  have hc1 := hid (((Chg.refl Nil w).alloc (.cells (zr 64).toArray 5)).trans C1 (fun i hi hk => by rw [show i = w.heap.size from hk] at hi; omega))
  replace hW := hid hW
  clear S0 S1 C1 B0 hcell
  go_enter Tryz.func48, Tryz.ntmps48
  go_wp2
  go_ret
  have S2 := (hs1.out.put (i := 5) (by omega) (.int .u8 ((n : Int) % 256))).put (i := 6) (by omega) (.int .u8 ((n : Int) / 256))
  simp only [Nat.zero_add] at S2
  have e : List.set (List.set (List.take 0 (zr 64) ++ [.int .u8 114, .int .u8 105, .int .u8 110, .int .u8 103, .int .u8 1] ++ List.drop (0 + [Value.int .u8 114, .int .u8 105, .int .u8 110, .int .u8 103, .int .u8 1].length) (zr 64)) 5 (.int .u8 ((n : Int) % 256))) 6 (.int .u8 ((n : Int) / 256)) = bys (markB n) := by
    rw [show (n : Int) % 256 = ((n % 256 : Nat) : Int) by omega, show (n : Int) / 256 = ((n / 256 : Nat) : Int) by omega]
    rfl
  simp only [Nat.zero_add] at e
  rw [e] at S2
  exact ⟨_, 64, _, rfl, S2, (hc1.out.setCell (p := ⟨w.heap.size, 5, none⟩) (.inr (Nat.le_refl _)) _).setCell (p := ⟨w.heap.size, 6, none⟩) (.inr (Nat.le_refl _)) _, fun g hg => by injection hg with hg; omega⟩
end Go.Proofs.YtdcbagmgflcemaaGreatDoor
