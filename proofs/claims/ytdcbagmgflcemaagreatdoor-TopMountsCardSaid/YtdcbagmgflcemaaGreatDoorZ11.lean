/- Arrays by value, indexed; bits.With. Conditions: a number below 256 · Contracts of package snap. Conditions: a forest whose numbers are those of a disk's sectors · snap.Pack. Conditions: a forest whose numbers are those of a disk's sectors · snap.Unpack. Conditions: the bytes of a forest whose numbers are those of a disk's sectors · Contracts of package inode at the root of an empty file system: Pack. Conditions: just that. -/
import Derived.Test.YtdcbagmgflcemaaGreatDoorZ10
import Derived.Deep.DeepCutAuto
import Derived.Deep.CutBlock
namespace Go.Proofs.YtdcbagmgflcemaaGreatDoor
open Go.ChangeShapes Go.WideShapes Go.ChangeAt Go.RowKit
set_option linter.unusedVariables false
/-- An element of an array by value. -/
theorem index_arr {P : Program} {t e : TypeId} {n i : Nat} {vs : List Value} {v : Value} (w : World) (ht : P.underlying t = some (.array n e)) (hs : (P.info? e).map (·.size) = some 1) (ha : ∀ w, (isAgg e).run P w = .ok false w) (hi : i < n) (hv : vs[i]? = some v) :
    (Instr.index t (.agg vs.toArray) (.int .i64 (i : Int))).run P w = .ok v w := by
  cases hq : P.info? e with
  | none => simp [hq] at hs
  | some inf =>
    have hs' : inf.size = 1 := by simpa [hq] using hs
    have h1 : (0 : Int) ≤ (i : Int) ∧ (i : Int) < (n : Int) := by omega
    simp [Instr.index, asIntOf, Sem.run_bind, run_underlying ht, h1, part, sizeOf, typeInfo, hq, hs', ha, hv, Sem.run_pure]
    intro hh
    omega
/-- A load, a store, by what it runs to. -/
theorem wpList_load_run {P : Program} {ops : Array Oper} {rest : List Oper} {op : Oper} {a : Act} {w w' : World} {Q : Exit → Act → World → Prop} {ty : TypeId} {x : Operand} {v r : Value} (L : (Instr.loadAt ty v).run P w = .ok r w') (hgd : op.guard = none) (ho : op.op = .load ty x) (hx : a.eval x = v)
    (h : wpList P ops Q rest (a.put op.dst r) w') : wpList P ops Q (op :: rest) a w :=
  wpList_plain hgd fun _ hK => by
    unfold Oper.wp execOp
    simp only [ho, hx, Sem.run_bind, L, Result.andThen_ok, Sem.run_pure]
    exact hK _ _ h
theorem wpList_store_run {P : Program} {ops : Array Oper} {rest : List Oper} {op : Oper} {a : Act} {w w' : World} {Q : Exit → Act → World → Prop} {ty : TypeId} {x y : Operand} {v u : Value} (L : (Instr.storeAt ty v u).run P w = .ok () w') (hgd : op.guard = none) (ho : op.op = .store ty x y) (hx : a.eval x = v) (hy : a.eval y = u)
    (h : wpList P ops Q rest (a.put op.dst undef) w') : wpList P ops Q (op :: rest) a w :=
  wpList_plain hgd fun _ hK => by
    unfold Oper.wp execOp
    simp only [ho, hx, hy, Sem.run_bind, L, Result.andThen_ok, Sem.run_pure]
    exact hK _ _ h
theorem wpList_load_g {P : Program} {ops : Array Oper} {rest : List Oper} {op : Oper} {a : Act} {w w' : World} {Q : Exit → Act → World → Prop} {ty : TypeId} {x : Operand} {v r : Value} (L : (Instr.loadAt ty v).run P w = .ok r w') (hw : Region.wanted op (yielded ops a.tmps) = true) (ho : op.op = .load ty x) (hx : a.eval x = v)
    (h : wpList P ops Q rest (a.put op.dst r) w') : wpList P ops Q (op :: rest) a w := by
  unfold wpList
  rw [if_pos hw]
  left
  unfold Oper.wp execOp
  simp only [ho, hx, Sem.run_bind, L, Result.andThen_ok, Sem.run_pure]
  exact h
theorem wpList_bin_run {P : Program} {ops : Array Oper} {rest : List Oper} {op : Oper} {a : Act} {w w' : World} {Q : Exit → Act → World → Prop} {bo : BinOp} {t yt : TypeId} {x y : Operand} {v u r : Value} (L : (do eqGuard bo t x y v u; binOp bo t v u : Sem Value).run P w = .ok r w') (hw : Region.wanted op (yielded ops a.tmps) = true) (ho : op.op = .binOp bo t x y yt) (hx : a.eval x = v) (hy : a.eval y = u)
    (h : wpList P ops Q rest (a.put op.dst r) w') : wpList P ops Q (op :: rest) a w := by
  unfold wpList
  rw [if_pos hw]
  left
  unfold Oper.wp execOp
  simp only [ho, hx, hy]
  rw [Sem.run_bind, L]
  simp only [Result.andThen_ok, Sem.run_pure]
  exact h
/-- A result that lies in a block, and one beside it. -/
theorem results_blk {P : Program} {fn : Func} {p : Tmp} {ty t : TypeId} (h : fn.results = #[.cell p ty]) {tmps : Array Value} {w : World} {g : Nat} {cs : List Value} {d : TypeDesc} (hb : Blk w g t cs)
    (hp : tmps.getD p undef = .pointer (some ⟨g, 0, none⟩)) (hu : P.underlying ty = some d) (hd : d.isRow = true) (hi : (P.info? ty).map (·.size) = some cs.length) :
    (results fn tmps).run P w = .ok (.agg cs.toArray) w :=
  results_cell_row h tmps w g t cs.toArray (0, 0) d hp hb hu (by cases d <;> simp_all) (by simpa using hi)
theorem results_blk2 {P : Program} {fn : Func} {p u : Tmp} {ty t : TypeId} (h : fn.results = #[.cell p ty, .tmp u]) {tmps : Array Value} {w : World} {g : Nat} {cs : List Value} {d : TypeDesc} (hb : Blk w g t cs)
    (hp : tmps.getD p undef = .pointer (some ⟨g, 0, none⟩)) (hu : P.underlying ty = some d) (hd : d.isRow = true) (hi : (P.info? ty).map (·.size) = some cs.length) :
    (results fn tmps).run P w = .ok (.tuple #[.agg cs.toArray, tmps.getD u undef]) w := by
  rw [results_cell_tmp h, hp]
  have := run_loadVar_mid (P := P) w g 0 ty cs d (fun j v hv => by rw [Nat.zero_add, hb.cell, hv]) hu hd hi
  simp [asAddr, Result.andThen, this]
/-- A set with one more. -/
def withB (bs : List Int) (n : Nat) : List Int := bs.set (n / 8) (bits BinOp.or .u8 (bs.getD (n / 8) 0) (2 ^ (n % 8) % 256))
theorem withB_len (bs : List Int) (n : Nat) : (withB bs n).length = bs.length := by simp [withB]
/-- A whole block of an array or struct, read. -/
theorem load_blk {P : Program} {w : World} {g : Nat} {t ty : TypeId} {cs : List Value} {d : TypeDesc} (h : Blk w g t cs) (hu : P.underlying ty = some d) (hd : d.isRow = true) (hi : (P.info? ty).map (·.size) = some cs.length) :
    (Instr.loadAt ty (.pointer (some ⟨g, 0, none⟩))).run P w = .ok (.agg cs.toArray) w := by
  refine run_loadAt_mid w g 0 ty cs d (fun j v hv => ?_) hu hd hi
  rw [Nat.zero_add, h.cell, hv]
/-- Written. -/
theorem store_blk {P : Program} {w : World} {g : Nat} {t ty : TypeId} {cs vs : List Value} (h : Blk w g t cs) (hl : vs.length = cs.length) (hi : (P.info? ty).map (·.size) = some vs.length) (h1 : ∀ u ∈ vs, u.oneCell' = true) :
    (Instr.storeAt ty (.pointer (some ⟨g, 0, none⟩)) (.agg vs.toArray)).run P w = .ok () (w.setCells g 0 vs) ∧ Blk (w.setCells g 0 vs) g t vs := by
  refine ⟨?_, ?_⟩
  · have := run_storeAt_mid (P := P) w g 0 ty vs.toArray (by simpa using h.there (lo := 0) (n := vs.length) (by omega)) (by simpa using hi) (all_oneCell_toArray h1)
    simpa using this
  · have := h.cells (lo := 0) (vs := vs) (by omega)
    have e : over_ cs 0 vs = vs := by unfold over_; rw [List.take_zero, List.nil_append, List.drop_of_length_le (by omega), List.append_nil]
    rwa [e] at this
set_option maxRecDepth 100000 in
theorem with_ok (w : World) (bs : List Int) (hb : bs.length = 32) (n : Nat) (hn : n < 256) :
    Calls Tryz.prog 45 #[.agg (bys bs).toArray, .int .i64 n] w fun e w' => e = .returned (.agg (bys (withB bs n)).toArray) ∧ Chg Nil w w' := by
  have hd : n / 8 < 32 := by omega
  have B0 := Blk.new w 111 (bys bs)
  have hbl : (bys bs).length = 32 := by rw [ints_length, hb]
  have k0 : (w.alloc (.cells (bys bs).toArray 111)).cell? ⟨w.heap.size, n / 8, none⟩ = some (.int .u8 (bs.getD (n / 8) 0)) := by
    rw [B0.cell, ints_get _ _ (by omega)]
    simp [List.getD, show n / 8 < bs.length by omega]
  have k1 : (bys bs)[n / 8]'(by omega) = .int .u8 (bs.getD (n / 8) 0) := by
    simp [ints, List.getD, show n / 8 < bs.length by omega]
  go_enter Tryz.func45, Tryz.ntmps45
  go_wp2
  go_cut [2, 4] (fun s2 s4 wx => s2 = .pointer (some ⟨w.heap.size, 0, none⟩) ∧ s4 = .pointer (some ⟨w.heap.size + 1, 0, none⟩) ∧ Blk wx w.heap.size 111 (bys (withB bs n)) ∧ Blk wx (w.heap.size + 1) 111 (zr 32) ∧ Hid (Chg Nil w wx))
  case first =>
    go_region
    go_wp2
    go_meet
    have e : (bys bs).set (n / 8) (.int .u8 (bits BinOp.or .u8 (bs[n / 8]'(by omega)) (2 ^ (n % 8) % 256))) = bys (withB bs n) := by
      unfold withB
      rw [show bs.getD (n / 8) 0 = bs[n / 8]'(by omega) by simp [List.getD, show n / 8 < bs.length by omega]]
      simp [ints, List.map_set]
    rw [e]
    refine ⟨rfl, rfl, ((Blk.new w 111 (bys (withB bs n))).alloc _).drew, ?_, (((Chg.refl Nil w).alloc _).alloc _).drew⟩
    have := Blk.new (w.alloc (.cells (bys (withB bs n)).toArray 111)) 111 (zr 32)
    rw [show (w.alloc (.cells (bys (withB bs n)).toArray 111)).heap.size = w.heap.size + 1 by simp] at this
    exact this.drew
  case rest =>
    obtain ⟨rfl, rfl, B1, B2, hc⟩ := hcut
    have L1 := load_blk (P := Tryz.prog) B1 Tryz.underlying111 rfl (by rw [ints_length, withB_len, hb]; kernel_rfl)
    obtain ⟨L2, B3⟩ := store_blk (P := Tryz.prog) B2 (vs := bys (withB bs n)) (by rw [ints_length, withB_len, hb]; rfl) (by rw [ints_length, withB_len, hb]; kernel_rfl) (ints_one _ _)
    go_wp2_with (first | (refine wpList_load_run L1 (by rfl) (by rfl) (by rfl) ?_) | (refine wpList_store_run L2 (by rfl) (by rfl) (by rfl) (by rfl) ?_))
    refine bodyPost_ret (results_blk rfl B3 rfl Tryz.underlying111 rfl (by rw [ints_length, withB_len, hb]; kernel_rfl)) rfl ?_
    exact ⟨rfl, hc.out.trans (setCells_chg wc _ 0 _ (One (w.heap.size + 1)) rfl) (fun k hk hh => by rw [show k = w.heap.size + 1 from hh] at hk; omega)⟩
end Go.Proofs.YtdcbagmgflcemaaGreatDoor
namespace Go.Proofs.YtdcbagmgflcemaaGreatDoor
open Go.ChangeShapes Go.WideShapes Go.ChangeAt Go.RowKit
set_option linter.unusedVariables false
/-- A tree that is not there. -/
def trZ : List Value := List.replicate 16 (.int .i64 0) ++ zr 32
/-- A forest's cells; which trees are there. -/
structure Fo (cs : List Value) (T : Nat → Bool) : Prop where
  len : cs.length = 192
  num : ∀ k, k < 4 → ∀ i, i < 16 → ∃ x : Int, cs[k * 48 + i]? = some (.int .i64 x) ∧ 0 ≤ x ∧ x < 256
  there : ∀ k, k < 4 → ∃ x : Int, cs[k * 48]? = some (.int .i64 x) ∧ (x != 0) = T k
  none : ∀ k, k < 4 → T k = false → part_ cs (k * 48) 48 = trZ
set_option maxRecDepth 100000 in
theorem there_ok (w : World) (cs : List Value) (T : Nat → Bool) (h : Fo cs T) (k : Nat) (hk : k < 4) :
    Calls Tryz.prog 114 #[.agg cs.toArray, .int .i64 k] w fun e w' => e = .returned (.bool (T k)) ∧ Chg Nil w w' := by
  obtain ⟨x, hx, ht⟩ := h.there k hk
  have B0 := Blk.new w 115 cs
  have k0 := B0.cell (k * 48)
  rw [hx] at k0
  have hl := h.len
  go_enter Tryz.func114, Tryz.ntmps114
  go_wp2
  go_ret
  exact ⟨by rw [← ht]; rfl, (Chg.refl Nil w).alloc _⟩
theorem Fo.get {cs : List Value} {T : Nat → Bool} (h : Fo cs T) {k i : Nat} (hk : k < 4) (hi : i < 16) : ∃ x : Int, (part_ cs (k * 48) 16)[i]? = some (.int .i64 x) ∧ 0 ≤ x ∧ x < 256 := by
  obtain ⟨x, h1, h2⟩ := h.num k hk i hi
  exact ⟨x, by rw [part_get (by rw [h.len]; omega) hi]; exact h1, h2⟩
set_option maxRecDepth 100000 in
theorem snright_ok (w : World) (cs : List Value) (T : Nat → Bool) (h : Fo cs T) :
    Calls Tryz.prog 109 #[.agg cs.toArray] w fun e w' => e = .returned (.int .i64 0) ∧ Chg Nil w w' := by
  have hl := h.len
  have HT := hid (fun w k hk => there_ok w cs T h k hk)
  have H := hid h
  have B0 := hid (Blk.new w 115 cs)
  clear h
  go_enter Tryz.func109, Tryz.ntmps109
  go_wp2
  go_loopw [6] (fun i wr => ∃ k : Nat, k ≤ 4 ∧ i = .int .i64 k ∧ Hid (Blk wr w.heap.size 115 cs) ∧ Hid (Chg Nil w wr)) (fun i _ => 4 - (intOf i).toNat)
  case atStart => exact ⟨0, by omega, rfl, B0.out, (Chg.refl Nil w).alloc _⟩
  case round =>
    obtain ⟨k, hk, rfl, hB, hC⟩ := hrel
    by_cases hlt : k < 4
    · have L1 := run_loadAt_mid (P := Tryz.prog) wr w.heap.size (k * 48) 57 (part_ cs (k * 48) 16) _ (hB.out.range (by omega)) Tryz.underlying57 rfl (by rw [part_len (by omega)]; kernel_rfl)
      have L2 := load_blk (P := Tryz.prog) hB.out Tryz.underlying115 rfl (by rw [hl]; kernel_rfl)
      go_wp2_with (refine wpList_load_run L1 (by rfl) (by rfl) (by rfl) ?_)
      go_loop [13] (fun j => ∃ i : Nat, i ≤ 16 ∧ j = .int .i64 i) (fun j => 16 - (intOf j).toNat)
      case atStart => exact ⟨0, by omega, rfl⟩
      case round =>
        obtain ⟨i, hi, rfl⟩ := hrel
        by_cases hlt2 : i < 16
        · obtain ⟨x, hx, x0, x1⟩ := H.out.get hlt hlt2
          have hix := fun w => index_arr (P := Tryz.prog) w Tryz.underlying57 (by kernel_rfl) (fun w => Tryz.isAgg3 w) hlt2 hx
          clear hx
          go_wp2
          go_round
          case rel => exact ⟨i + 1, by omega, by go_num⟩
          case measure => simp [intOf]; omega
        · cases hT : T k with
          | true =>
            go_wp2_with (first | (refine wpList_load_run L2 (by rfl) (by rfl) (by rfl) ?_) | (go_at_call 114; refine (HT.out _ k hlt).mono ?_; rw [hT]; rintro e w5 ⟨rfl, c5⟩; replace c5 := hid c5))
            go_roundw
            case rel => exact ⟨k + 1, by omega, by go_num, hB.out.chg c5.out (fun h => h), hC.out.trans c5.out (fun _ _ h => h)⟩
            case measure => simp [intOf]; omega
          | false =>
            have L3 := hid (fun w5 (c5 : Chg Nil wr w5) => run_loadAt_mid (P := Tryz.prog) w5 w.heap.size (k * 48) 113 (part_ cs (k * 48) 48) _ ((Blk.chg hB.out c5 (fun h => h)).range (by omega)) Tryz.underlying113 rfl (by rw [part_len (by omega)]; kernel_rfl))
            rw [H.out.none k hlt hT] at L3
            have E3 : ∀ w, (do eqGuard .neq 113 (.tmp 30) (.tmp 31) (.agg trZ.toArray) (.agg trZ.toArray); binOp .neq 113 (.agg trZ.toArray) (.agg trZ.toArray) : Sem Value).run Tryz.prog w = .ok (.bool false) w := fun _ => by kernel_rfl
            replace E3 := hid E3
            go_wp2_with (first | (refine wpList_load_run L2 (by rfl) (by rfl) (by rfl) ?_) | (refine wpList_bin_run (E3.out _) (by rfl) (by rfl) (by rfl) (by rfl) ?_) | (refine wpList_load_g L3' (by rfl) (by rfl) (by rfl) ?_) | (go_at_call 114; refine (HT.out _ k hlt).mono ?_; rw [hT]; rintro e w5 ⟨rfl, c5⟩; have L3' := L3.out _ c5; replace c5 := hid c5))
            go_roundw
            case rel => exact ⟨k + 1, by omega, by go_num, hB.out.chg c5.out (fun h => h), hC.out.trans c5.out (fun _ _ h => h)⟩
            case measure => simp [intOf]; omega
    · go_wp2
      go_ret
      exact ⟨rfl, hC.out⟩
end Go.Proofs.YtdcbagmgflcemaaGreatDoor
namespace Go.Proofs.YtdcbagmgflcemaaGreatDoor
open Go.ChangeShapes Go.WideShapes Go.ChangeAt Go.RowKit
set_option linter.unusedVariables false
theorem Blk.rdPart {w : World} {p lo n c : Nat} {t : TypeId} {cs : List Value} (h : Blk w p t cs) (hl : lo + n ≤ cs.length) (hn : n ≤ c) (hc : c ≤ maxLen) : Rd w (One p) 1 (some ⟨p, lo, none⟩) n c (part_ cs lo n) :=
  ⟨hn, hc, by rw [part_len hl, Nat.mul_one], fun _ => ⟨p, lo, rfl, h.lt, rfl, fun j hj => by rw [h.cell, part_get hl (by omega)]⟩⟩
/-- A forest's cells, and its bytes: numbers, then sets. -/
structure FoB (cs : List Value) (T : Nat → Bool) (B C : List Int) : Prop where
  fo : Fo cs T
  bl : B.length = 64
  cl : C.length = 128
  num : ∀ k, k < 4 → ∀ i, i < 16 → cs[k * 48 + i]? = some (.int .i64 (B.getD (k * 16 + i) 0)) ∧ 0 ≤ B.getD (k * 16 + i) 0 ∧ B.getD (k * 16 + i) 0 < 256
  has : ∀ k, k < 4 → part_ cs (k * 48 + 16) 32 = bys ((C.drop (k * 32)).take 32)
theorem bys_append (l m : List Int) : bys l ++ bys m = bys (l ++ m) := ints_append _ _ _
theorem take_one {l : List Int} {n : Nat} (h : n < l.length) : l.take (n + 1) = l.take n ++ [l.getD n 0] := by
  rw [List.take_succ_eq_append_getElem h]
  simp [List.getD, h]
theorem take_more (l : List Int) (n m : Nat) : l.take (n + m) = l.take n ++ (l.drop n).take m := by
  rw [List.take_add]
set_option maxRecDepth 100000 in
set_option maxHeartbeats 2000000 in
theorem snpack_ok (w : World) (cs : List Value) (T : Nat → Bool) (B C : List Int) (h : FoB cs T B C) :
    Calls Tryz.prog 46 #[.agg cs.toArray] w fun e w' => ∃ a c G, e = .returned (.tuple #[.slice a 192 c, .int .i64 0]) ∧ Sl w' 5 1 a 192 c (bys (B ++ C)) G ∧ Chg Nil w w' ∧ ∀ g, G = some g → w.heap.size ≤ g := by
  have hl := h.fo.len
  have HR := hid (fun w => snright_ok w cs T h.fo)
  have H := hid h
  have B0 := hid (Blk.new w 115 cs)
  have L0 := load_blk (P := Tryz.prog) B0.out Tryz.underlying115 rfl (by rw [hl]; kernel_rfl)
  clear h
  go_enter Tryz.func46, Tryz.ntmps46
  go_wp2_with (first | (refine wpList_load_run L0 (by rfl) (by rfl) (by rfl) ?_) | (go_at_call 109; refine (HR.out _).mono ?_; rintro e w1 ⟨rfl, c1⟩; have b1 := hid (Blk.chg B0.out c1 (fun h => h)); replace c1 := hid (((Chg.refl Nil w).alloc _).trans c1 (fun _ _ h => h))))
  clear L0
  go_loopw [5, 15] (fun s5 i wr => ∃ (k n : Nat) (a : Option Addr) (c : Nat) (G : Option Nat), k ≤ 4 ∧ n = k * 16 ∧ s5 = .slice a n c ∧ i = .int .i64 k ∧ Hid (Sl wr 5 1 a n c (bys (B.take n)) G) ∧ Hid (Blk wr w.heap.size 115 cs) ∧ Hid (Chg Nil w wr) ∧ Hid (∀ g, G = some g → w.heap.size ≤ g)) (fun _ i _ => 4 - (intOf i).toNat)
  case atStart => exact ⟨0, 0, none, 0, none, by omega, rfl, rfl, rfl, Sl.empty _ _ _ _, b1.out, c1.out, fun g hg => by cases hg⟩
  case round =>
    obtain ⟨k, n, a, c, G, hk, hn, rfl, rfl, hS, hB, hC, hG⟩ := hrel
    by_cases hlt : k < 4
    · subst hn
      have L1 := run_loadAt_mid (P := Tryz.prog) wr w.heap.size (k * 48) 57 (part_ cs (k * 48) 16) _ (hB.out.range (by omega)) Tryz.underlying57 rfl (by rw [part_len (by omega)]; kernel_rfl)
      go_wp2_with (refine wpList_load_run L1 (by rfl) (by rfl) (by rfl) ?_)
      clear L1
      obtain ⟨wo, rfl⟩ : ∃ wo : World, wo = wr := ⟨_, rfl⟩
      go_loopw [5, 22] (fun s5 i wr => ∃ (j : Nat) (a : Option Addr) (c : Nat) (G : Option Nat), j ≤ 16 ∧ s5 = .slice a (k * 16 + j) c ∧ i = .int .i64 j ∧ Hid (Sl wr 5 1 a (k * 16 + j) c (bys (B.take (k * 16 + j))) G) ∧ Hid (Blk wr w.heap.size 115 cs) ∧ Hid (Chg Nil w wr) ∧ Hid (∀ g, G = some g → w.heap.size ≤ g)) (fun _ i _ => 16 - (intOf i).toNat)
      case atStart => exact ⟨0, a, c, G, by omega, rfl, rfl, hS, hB, hC, hG⟩
      case round =>
        obtain ⟨j, a, c, G, hj, rfl, rfl, hS, hB, hC, hG⟩ := hrel
        by_cases hlt2 : j < 16
        · obtain ⟨hx, x0, x1⟩ := H.out.num k hlt j hlt2
          obtain ⟨x, hxe⟩ : ∃ x, x = B.getD (k * 16 + j) 0 := ⟨_, rfl⟩
          rw [← hxe] at hx x0 x1
          have hix := fun w => index_arr (P := Tryz.prog) w Tryz.underlying57 (by kernel_rfl) (fun w => Tryz.isAgg3 w) hlt2 ((part_get (cs := cs) (lo := k * 48) (n := 16) (by omega) hlt2).trans hx)
          have hmod : x % 256 = x := by omega
          have S1 := hid (hS.out.alloc (.cells #[.int .u8 x] 5))
          have N1 := hid (Rd.of_blk (n := 1) (s := 1) (Blk.new wr 5 (bys [x])) rfl (by decide))
          have hxe' := hid hxe
          clear hx hxe
          go_wp2_with (at_builtin; refine wpList_append_sl rfl _ _ eU8 rfl rfl rfl S1.out N1.out (ints_one _ _) (by omega) (by omega) ?_; intro a' c' w4 G' y1 y2 y3; replace y1 := hid y1; replace y2 := hid y2; replace y3 := hid y3)
          go_roundw
          case rel =>
            refine ⟨j + 1, a', c', G', by omega, rfl, by go_num, ?_, Blk.chg (hB.out.alloc _) y2.out (hS.out.ne_blk hB.out (by decide)), ?_, ?_⟩
            · have := y1.out
              show Sl w4 5 1 a' (k * 16 + j + 1) c' (bys (B.take (k * 16 + j + 1))) G'
              rw [take_one (by rw [H.out.bl]; omega), ← hxe'.out, ← bys_append]
              exact this
            · exact (hC.out.alloc (.cells #[.int .u8 x] 5)).trans y2.out (fun i hi hh => absurd (hG.out i hh) (by omega))
            · intro g hg
              rcases y3.out with h3 | h3
              · exact hG.out g (by rw [← h3]; exact hg)
              · rw [hg] at h3
                injection h3 with h3
                have := hC.out.size
                simp at h3
                omega
          case measure => simp [intOf]; omega
        · obtain rfl : j = 16 := by omega
          go_wp2
          go_roundw
          case rel => exact ⟨k + 1, k * 16 + 16, a, c, G, by omega, by omega, rfl, by go_num, hS, hB, hC, hG⟩
          case measure => simp [intOf]; omega
    · have hn4 : n = 64 := by omega
      subst hn4
      have hk4 : 4 ≤ k := by omega
      clear hn
      go_wp2
      go_loopw [5, 32] (fun s5 i wr => ∃ (k : Nat) (a : Option Addr) (c : Nat) (G : Option Nat), k ≤ 4 ∧ s5 = .slice a (64 + k * 32) c ∧ i = .int .i64 k ∧ Hid (Sl wr 5 1 a (64 + k * 32) c (bys (B ++ C.take (k * 32))) G) ∧ Hid (Blk wr w.heap.size 115 cs) ∧ Hid (Chg Nil w wr) ∧ Hid (∀ g, G = some g → w.heap.size ≤ g)) (fun _ i _ => 4 - (intOf i).toNat)
      case atStart =>
        refine ⟨0, a, c, G, by omega, rfl, rfl, ?_, hB, hC, hG⟩
        have := hS.out
        rw [List.take_of_length_le (by rw [H.out.bl]; omega)] at this
        show Sl _ _ _ _ _ _ (bys (B ++ C.take (0 * 32))) _
        rw [Nat.zero_mul, List.take_zero, List.append_nil]
        exact this
      case round =>
        obtain ⟨k, a, c, G, hk, rfl, rfl, hS, hB, hC, hG⟩ := hrel
        by_cases hlt : k < 4
        · have N1 := hid (Blk.rdPart (lo := k * 48 + 16) (n := 32) (c := 32) hB.out (by omega) (by omega) (by decide))
          rw [H.out.has k hlt] at N1
          go_wp2_with (at_builtin; refine wpList_append_sl rfl _ _ eU8 rfl rfl rfl hS.out N1.out (ints_one _ _) (by omega) (by omega) ?_; intro a' c' w4 G' y1 y2 y3; replace y1 := hid y1; replace y2 := hid y2; replace y3 := hid y3)
          go_roundw
          case rel =>
            refine ⟨k + 1, a', c', G', by omega, by rw [show 64 + (k + 1) * 32 = 64 + k * 32 + 32 by omega], by go_num, ?_, Blk.chg hB.out y2.out (hS.out.ne_blk hB.out (by decide)), ?_, ?_⟩
            · have := y1.out
              show Sl w4 5 1 a' (64 + (k + 1) * 32) c' (bys (B ++ C.take ((k + 1) * 32))) G'
              rw [show (k + 1) * 32 = k * 32 + 32 by omega, take_more, ← List.append_assoc, ← bys_append, ← Nat.add_assoc]
              exact this
            · exact hC.out.trans y2.out (fun i hi hh => absurd (hG.out i hh) (by omega))
            · intro g hg
              rcases y3.out with h3 | h3
              · exact hG.out g (by rw [← h3]; exact hg)
              · rw [hg] at h3
                injection h3 with h3
                have := hC.out.size
                omega
          case measure => simp [intOf]; omega
        · obtain rfl : k = 4 := by omega
          go_wp2
          go_ret2
          refine ⟨a, c, G, rfl, ?_, hC.out, hG.out⟩
          have := hS.out
          rwa [List.take_of_length_le (by rw [H.out.cl]; omega)] at this
end Go.Proofs.YtdcbagmgflcemaaGreatDoor
namespace Go.Proofs.YtdcbagmgflcemaaGreatDoor
open Go.ChangeShapes Go.WideShapes Go.ChangeAt Go.RowKit
set_option linter.unusedVariables false
theorem drop_in (B C : List Int) (n : Nat) : (B ++ C).drop (B.length + n) = C.drop n := by rw [← List.drop_drop]; simp
/-- No forest. -/
def foZ : List Value := trZ ++ trZ ++ trZ ++ trZ
theorem foZ_len : foZ.length = 192 := by simp only [foZ, trZ, List.length_append, List.length_replicate, zr_len]
/-- The first m cells are right. -/
def upto_ (cs : List Value) (m : Nat) : List Value := cs.take m ++ foZ.drop m
theorem upto_len {cs : List Value} {m : Nat} (hl : cs.length = 192) (hm : m ≤ 192) : (upto_ cs m).length = 192 := by
  unfold upto_
  rw [List.length_append, List.length_take, List.length_drop, foZ_len, hl]
  omega
theorem upto_get {cs : List Value} {m : Nat} (hl : cs.length = 192) (hm : m ≤ 192) (i : Nat) : (upto_ cs m)[i]? = if i < m then cs[i]? else foZ[i]? := by
  unfold upto_
  by_cases h : i < m
  · rw [if_pos h, List.getElem?_append_left (by rw [List.length_take]; omega), List.getElem?_take, if_pos h]
  · rw [if_neg h, List.getElem?_append_right (by rw [List.length_take]; omega), List.getElem?_drop]
    congr 1
    rw [List.length_take]
    omega
theorem upto_all {cs : List Value} (hl : cs.length = 192) : upto_ cs 192 = cs := by
  unfold upto_
  rw [List.take_of_length_le (by omega), List.drop_of_length_le (by rw [foZ_len]; omega), List.append_nil]
theorem upto_set {cs : List Value} {m : Nat} {v : Value} (hl : cs.length = 192) (hm : m < 192) (hv : cs[m]? = some v) : (upto_ cs m).set m v = upto_ cs (m + 1) := by
  apply List.ext_getElem?
  intro i
  rw [List.getElem?_set, upto_get hl (by omega), upto_get hl (by omega), upto_len hl (by omega)]
  by_cases h : m = i
  · subst h
    rw [if_pos rfl, if_pos hm, if_pos (show m < m + 1 by omega), hv]
  · rw [if_neg h]
    by_cases h1 : i < m
    · rw [if_pos h1, if_pos (show i < m + 1 by omega)]
    · rw [if_neg h1, if_neg (show ¬ i < m + 1 by omega)]
theorem upto_over {cs : List Value} {m n : Nat} (hl : cs.length = 192) (hm : m + n ≤ 192) : over_ (upto_ cs m) m (part_ cs m n) = upto_ cs (m + n) := by
  have hp : (part_ cs m n).length = n := part_len (by omega)
  apply List.ext_getElem?
  intro i
  rw [over_get (by rw [hp, upto_len hl (by omega)]; omega), upto_get hl (by omega), upto_get hl (by omega), hp]
  by_cases h1 : i < m
  · rw [if_pos h1, if_pos h1, if_pos (show i < m + n by omega)]
  · rw [if_neg h1]
    by_cases h2 : i < m + n
    · rw [if_pos h2, if_pos h2, part_get (by omega) (by omega)]
      congr 1
      omega
    · rw [if_neg h2, if_neg h1, if_neg h2]
theorem FoB.one {cs : List Value} {T : Nat → Bool} {B C : List Int} (h : FoB cs T B C) : ∀ u ∈ cs, u.oneCell' = true := by
  intro u hu
  obtain ⟨i, hi, rfl⟩ := List.getElem_of_mem hu
  have hl := h.fo.len
  obtain ⟨k, hk, j, hj, rfl⟩ : ∃ k, k < 4 ∧ ∃ j, j < 48 ∧ k * 48 + j = i := ⟨i / 48, by omega, i % 48, by omega, by omega⟩
  by_cases h1 : j < 16
  · have := (h.num k hk j h1).1
    rw [List.getElem?_eq_getElem hi] at this
    injection this with this
    rw [this]
    rfl
  · have e := part_get (cs := cs) (lo := k * 48 + 16) (n := 32) (by omega) (j := j - 16) (by omega)
    rw [h.has k hk, show k * 48 + 16 + (j - 16) = k * 48 + j by omega, List.getElem?_eq_getElem hi] at e
    exact ints_one _ _ _ (List.mem_of_getElem? e)
set_option maxRecDepth 100000 in
set_option maxHeartbeats 2000000 in
theorem snunpack_ok (w : World) (R : Nat → Prop) (b : Option Addr) (bc : Nat) (cs : List Value) (T : Nat → Bool) (B C : List Int) (h : FoB cs T B C) (hb : Rd w R 1 b 192 bc (bys (B ++ C))) :
    Calls Tryz.prog 113 #[.slice b 192 bc] w fun e w' => e = .returned (.tuple #[.agg cs.toArray, .int .i64 0]) ∧ Chg Nil w w' := by
  have hl := h.fo.len
  have HP := hid (fun w => snpack_ok w cs T B C h)
  have H := hid h
  obtain ⟨g, off, rfl, hgl, _, hc⟩ := hb.cellAt (by omega)
  have HC := hid hc
  have HB := hid hb
  have hcap : 192 ≤ bc := hb.1
  have Z0 := hid (((Blk.new w 115 foZ).alloc (.cells foZ.toArray 115)))
  have Z1 : Blk ((w.alloc (.cells foZ.toArray 115)).alloc (.cells foZ.toArray 115)) (w.heap.size + 1) 115 foZ := by
    have := Blk.new (w.alloc (.cells foZ.toArray 115)) 115 foZ
    rwa [show (w.alloc (.cells foZ.toArray 115)).heap.size = w.heap.size + 1 by simp] at this
  replace Z1 := hid Z1
  clear h hb hc
  go_enter Tryz.func113, Tryz.ntmps113
  go_wp2
  go_loopw [13] (fun i wr => ∃ k : Nat, k ≤ 4 ∧ i = .int .i64 k ∧ Hid (Blk wr w.heap.size 115 foZ) ∧ Hid (Blk wr (w.heap.size + 1) 115 (upto_ cs (k * 48))) ∧ Hid (Chg Nil w wr)) (fun i _ => 4 - (intOf i).toNat)
  case atStart => exact ⟨0, by omega, rfl, Z0.out, Z1.out, ((Chg.refl Nil w).alloc _).alloc _⟩
  case round =>
    obtain ⟨k, hk, rfl, hZ, hB, hC⟩ := hrel
    by_cases hlt : k < 4
    · go_wp2
      obtain ⟨wo, rfl⟩ : ∃ wo : World, wo = wr := ⟨_, rfl⟩
      go_loopw [16] (fun i wr => ∃ j : Nat, j ≤ 16 ∧ i = .int .i64 j ∧ Hid (Blk wr w.heap.size 115 foZ) ∧ Hid (Blk wr (w.heap.size + 1) 115 (upto_ cs (k * 48 + j))) ∧ Hid (Chg Nil w wr)) (fun i _ => 16 - (intOf i).toNat)
      case atStart => exact ⟨0, by omega, rfl, hZ, hB, hC⟩
      case round =>
        obtain ⟨j, hj, rfl, hZ, hB, hC⟩ := hrel
        by_cases hlt2 : j < 16
        · obtain ⟨hx, x0, x1⟩ := H.out.num k hlt j hlt2
          have bx : wr.cell? ⟨g, off + (16 * k + j), none⟩ = some (.int .u8 (B.getD (k * 16 + j) 0)) := by
            rw [show 16 * k = k * 16 by omega]
            rw [hC.out.cell (a := ⟨g, off + (k * 16 + j), none⟩) hgl (fun h => h), HC.out _ (by omega)]
            rw [ints_get _ _ (by rw [List.length_append, H.out.bl, H.out.cl]; omega), List.getElem_append_left (by rw [H.out.bl]; omega)]
            simp [List.getD, show k * 16 + j < B.length by rw [H.out.bl]; omega]
          obtain ⟨x, hxe⟩ : ∃ x, x = B.getD (k * 16 + j) 0 := ⟨_, rfl⟩
          rw [← hxe] at hx x0 x1 bx
          obtain ⟨v, hv⟩ : ∃ v, foZ[k * 48 + j]? = some v := ⟨_, List.getElem?_eq_getElem (by rw [foZ_len]; omega)⟩
          have fx := hB.out.cell (k * 48 + j)
          rw [upto_get hl (by omega), if_neg (by omega), hv] at fx
          have ff := hB.out.frozen (k * 48 + j)
          have hx' := hid hx
          have i1 : 16 * (k : Int) + (j : Int) < 192 := by omega
          clear hx hv hxe
          go_wp2
          go_region
          go_wp2
          go_roundw
          case rel =>
            refine ⟨j + 1, by omega, by go_num, (hZ.out.far (p := ⟨w.heap.size + 1, k * 48 + j, none⟩) (by simp) _).drew, ?_, (hC.out.setCell (p := ⟨w.heap.size + 1, k * 48 + j, none⟩) (.inr (by simp)) _).drew⟩
            rw [show k * 48 + (j + 1) = k * 48 + j + 1 by omega, ← upto_set hl (by omega) hx'.out]
            exact (hB.out.set (k * 48 + j) _).drew
          case measure => simp [intOf]; omega
        · have hj16 : 16 ≤ j := by omega
          have hj3 : j = 16 := by omega
          have hB3 : Blk wr (w.heap.size + 1) 115 (upto_ cs (k * 48 + 16)) := by have := hB.out; rwa [hj3] at this
          have R3 := (HB.out.chg hC.out (fun _ _ _ h => h)).drewN 1
          have N3 : Rd (wr.drewN 1) R 1 (some ⟨g, off + (64 + 32 * k), none⟩) 32 (bc - (64 + 32 * k)) (part_ cs (k * 48 + 16) 32) := by
            have := R3.sub (lo := 64 + 32 * k) (k := 32) (by omega)
            rw [H.out.has k hlt]
            rw [show (List.drop (64 + 32 * k) (bys (B ++ C))) = bys (C.drop (k * 32)) by
              rw [show 64 + 32 * k = B.length + k * 32 by rw [H.out.bl]; omega]
              show List.drop _ (List.map _ _) = List.map _ _
              rw [← List.map_drop, drop_in]] at this
            simpa [ints, List.map_take] using this
          obtain ⟨g3, off3, e3, _, _, hc3⟩ := N3.cellAt (by omega)
          injection e3 with e3
          injection e3 with e3 e4
          subst e3; subst e4
          have hpl : (part_ cs (k * 48 + 16) 32).length = 32 := part_len (by omega)
          have hul := upto_len (m := k * 48 + 16) hl (by omega)
          have hcp : ∀ ty, (Builtin.copy_ #[22, 22] ty #[.slice (some ⟨w.heap.size + 1, k * 48 + 16, none⟩) 32 32, .slice (some ⟨g, off + (64 + 32 * k), none⟩) (192 - (64 + 32 * k)) (bc - (64 + 32 * k))]).run Tryz.prog wr.drew = .ok (goInt 32) (wr.drew.setCells (w.heap.size + 1) (k * 48 + 16) (part_ cs (k * 48 + 16) 32)) := fun ty => by
            have hmin : Nat.min (192 - (64 + 32 * k)) 32 = 32 := Nat.min_eq_right (by omega)
            have := run_copy_s (P := Tryz.prog) wr.drew 22 22 ty eU8 (w.heap.size + 1) (k * 48 + 16) 32 32 ⟨g, off + (64 + 32 * k), none⟩ (192 - (64 + 32 * k)) (bc - (64 + 32 * k)) (part_ cs (k * 48 + 16) 32) (by rw [hmin, hpl]) (fun i v hv => by
              have hi : i < 32 := by have := (List.getElem?_eq_some_iff.1 hv).1; omega
              rw [add_off]
              exact (hc3 i hi).trans hv) (fun i hi => ((hB3.there (lo := k * 48 + 16) (n := 32) (by omega)) i (by omega)).1) (fun i hi => hB3.frozen _) (by rw [H.out.has k hlt]; exact ints_one _ _)
            rwa [hmin] at this
          have hBn := Blk.cells (vs := part_ cs (k * 48 + 16) 32) hB3.drew (lo := k * 48 + 16) (by omega)
          rw [upto_over hl (by omega)] at hBn
          have FB := hid hBn
          have i1 : 64 + 32 * (k : Int) ≤ 192 := by omega
          have i2 : 64 + 32 * k ≤ 192 := by omega
          have v1 : IntKind.i64.wrap (32 * (k : Int)) = 32 * k := IntWalk.i64_in _ (by omega)
          have v2 : IntKind.i64.wrap (64 + 32 * (k : Int)) = 64 + 32 * k := IntWalk.i64_in _ (by omega)
          have hsl := fun w => run_from (P := Tryz.prog) eU8 (some ⟨g, off, none⟩) 192 bc (64 + 32 * k) (64 + 32 * (k : Int)) (by omega) (by omega) w
          simp only [adv, show ¬ bc = 64 + 32 * k by omega, if_false, Option.map_some, add_off, Nat.mul_one] at hsl
          clear hB3 R3 N3 hc3 hBn hj3
          go_wp2
          go_region_law (fail)
          all_goals
            go_wp2
            go_roundw
            case rel =>
              refine ⟨k + 1, by omega, by go_num, ?_, ?_, (hC.out.drew).trans (setCells_chg _ _ _ _ (One (w.heap.size + 1)) rfl) (fun i hi hh => by rw [show i = w.heap.size + 1 from hh] at hi; omega)⟩
              · exact Blk.chg (F := One (w.heap.size + 1)) hZ.out.drew (setCells_chg _ _ _ _ _ rfl) (fun hh => by have : w.heap.size = w.heap.size + 1 := hh; omega)
              · rw [show (k + 1) * 48 = k * 48 + 16 + 32 by omega]
                exact FB.out
            case measure => simp [intOf]; omega
    · have hk4 : k = 4 := by omega
      have hB4 : Blk wr (w.heap.size + 1) 115 cs := by have := hB.out; rwa [hk4, upto_all hl] at this
      have L4 := load_blk (P := Tryz.prog) hB4 Tryz.underlying115 rfl (by rw [hl]; kernel_rfl)
      have FB := hid hB4
      have hk5 : 4 ≤ k := by omega
      clear hk4 hB4
      go_wp2_with (refine wpList_load_run L4 (by rfl) (by rfl) (by rfl) ?_)
      refine (HP.out _).mono ?_
      rintro e w4 ⟨a4, c4, G4, rfl, s4, cc4, g4⟩
      have W4 := FB.out.chg cc4 (fun h => h)
      have R4 := hZ.out.chg cc4 (fun h => h)
      have C4 := hid (hC.out.trans cc4 (fun _ _ h => h))
      have HE := hid (equal_by _ _ _ _ 192 _ 192 _ _ _ w4 s4.rd (HB.out.chg C4.out (fun _ _ _ h => h)) (by omega) (by omega))
      have heq : eqI (B ++ C) (B ++ C) = true := eqI_true rfl
      have L5 := hid (fun k => load_blk (P := Tryz.prog) (W4.drewN k) Tryz.underlying115 rfl (by rw [hl]; kernel_rfl))
      have L6 := hid (fun k => store_blk (P := Tryz.prog) (ty := 115) (R4.drewN k) (vs := cs) (by rw [hl, foZ_len]) (by rw [hl]; kernel_rfl) H.out.one)
      clear W4 R4 L4 s4 cc4 g4
      go_wp2_with (first | (go_at_call 10; refine HE.out.mono ?_; rintro e w5 ⟨rfl, k, rfl⟩) | (refine wpList_load_run (L5.out _) (by rfl) (by rfl) (by rfl) ?_) | (refine wpList_store_run (L6.out _).1 (by rfl) (by rfl) (by rfl) (by rfl) ?_))
      refine bodyPost_ret (results_blk2 rfl (L6.out _).2 rfl Tryz.underlying115 rfl (by rw [hl]; kernel_rfl)) rfl ?_
      exact ⟨rfl, (C4.out.drewN _).trans (setCells_chg _ _ 0 _ (One w.heap.size) rfl) (fun k hk hh => by rw [show k = w.heap.size from hh] at hk; omega)⟩
end Go.Proofs.YtdcbagmgflcemaaGreatDoor
namespace Go.Proofs.YtdcbagmgflcemaaGreatDoor
open Go.ChangeShapes Go.WideShapes Go.ChangeAt Go.RowKit
set_option linter.unusedVariables false
set_option maxRecDepth 100000 in
set_option maxHeartbeats 4000000 in
theorem ndpack_32 (w : World) : Calls Tryz.prog 47 #[ndV 2 493 1 1] w fun e w' => ∃ a G, e = .returned (.tuple #[.slice a 32 32, .int .i64 0]) ∧ Sl w' 5 1 a 32 32 (bys (ndB 2 493 1 1)) G ∧ Chg Nil w w' ∧ ∀ g, G = some g → w.heap.size ≤ g := by
  have hmk := mk_bytes 32 (by omega) 32 rfl
  show Calls Tryz.prog 47 #[.agg #[.int .i64 2, .int .i64 493, .int .i64 0, .int .i64 0, .int .i64 0, .int .i64 1, .int .i64 1, .slice none 0 0]] w _
  have HR := fun w => ndright_1 w
  unfold ndV at HR
  have B0 := hid (Blk.new w 120 (ndCells 2 493 1 1))
  go_enter Tryz.func47, Tryz.ntmps47
  go_wp2_with fail
  refine (HR _).mono ?_
  rintro e w1 ⟨rfl, c1⟩
  have hsz : w.heap.size < w1.heap.size := by have := c1.size; simp at this; omega
  have B1 := B0.out.chg c1 (fun h => h)
  have b0 := B1.cell 0
  have b1 := B1.cell 1
  have b2 := B1.cell 2
  have b3 := B1.cell 3
  have b4 := B1.cell 4
  have b5 := B1.cell 5
  have b6 := B1.cell 6
  have b7 := B1.cell 7
  have S2 := hid ((zr_sl w1 32 (by omega)).alloc (.cells (zr 16).toArray 5))
  have C1 := hid ((((Chg.refl Nil w).alloc (.cells #[.int .i64 2, .int .i64 493, .int .i64 0, .int .i64 0, .int .i64 0, .int .i64 1, .int .i64 1, .slice none 0 0] 120)).trans c1 (fun _ _ h => h)))
  simp only [ndCells, List.getElem?_cons_succ, List.getElem?_cons_zero] at b0 b1 b2 b3 b4 b5 b6 b7
  have q0 : (zr 32)[0]? = some (.int .u8 0) := zr_get (by omega)
  have q1 : (zr 32)[1]? = some (.int .u8 0) := zr_get (by omega)
  have q2 : (zr 32)[2]? = some (.int .u8 0) := zr_get (by omega)
  have q3 : (zr 32)[3]? = some (.int .u8 0) := zr_get (by omega)
  have q4 : (zr 32)[4]? = some (.int .u8 0) := zr_get (by omega)
  have q5 : (zr 32)[5]? = some (.int .u8 0) := zr_get (by omega)
  have q6 : (zr 32)[6]? = some (.int .u8 0) := zr_get (by omega)
  have q7 : (zr 32)[7]? = some (.int .u8 0) := zr_get (by omega)
  have q8 : (zr 32)[8]? = some (.int .u8 0) := zr_get (by omega)
  clear c1 B0 B1
  go_upto_region 10 with (go_at_call 111; refine (xpack_nil _).mono ?_; rintro e w2 ⟨rfl, rfl⟩)
  go_cut [5] (fun s5 wx => s5 = .slice (some ⟨w1.heap.size, 0, none⟩) 32 32 ∧ wx = ((w1.alloc (.cells ((((((zr 32).set 0 (.int .u8 2)).set 1 (.int .u8 237)).set 2 (.int .u8 1)).set 3 (.int .u8 0)).set 4 (.int .u8 0)).toArray 5)).alloc (.cells (zr 16).toArray 5)).drew)
  case first =>
    go_region
    go_wp2
    go_meet
    exact ⟨rfl, rfl⟩
  case rest =>
    obtain ⟨rfl, rfl⟩ := hcut
    go_upto_region 11 with fail
    go_cut [5] (fun s5 wx => s5 = .slice (some ⟨w1.heap.size, 0, none⟩) 32 32 ∧ wx = ((w1.alloc (.cells ((((((((((zr 32).set 0 (.int .u8 2)).set 1 (.int .u8 237)).set 2 (.int .u8 1)).set 3 (.int .u8 0)).set 4 (.int .u8 0)).set 5 (.int .u8 0)).set 6 (.int .u8 0)).set 7 (.int .u8 1)).set 8 (.int .u8 1)).toArray 5)).alloc (.cells (zr 16).toArray 5)).drew.drew)
    case first =>
      go_region
      go_wp2
      go_meet
      exact ⟨rfl, rfl⟩
    case rest =>
      obtain ⟨rfl, hw⟩ := hcut
      have B9 : Blk wc w1.heap.size 5 ((((((((((zr 32).set 0 (.int .u8 2)).set 1 (.int .u8 237)).set 2 (.int .u8 1)).set 3 (.int .u8 0)).set 4 (.int .u8 0)).set 5 (.int .u8 0)).set 6 (.int .u8 0)).set 7 (.int .u8 1)).set 8 (.int .u8 1)) := by rw [hw]; exact (Blk.new w1 _ _).alloc _
      have P9 : Blk wc (w1.heap.size + 1) 5 (zr 16) := by
        rw [hw]
        have := Blk.new (w1.alloc (.cells ((((((((((zr 32).set 0 (.int .u8 2)).set 1 (.int .u8 237)).set 2 (.int .u8 1)).set 3 (.int .u8 0)).set 4 (.int .u8 0)).set 5 (.int .u8 0)).set 6 (.int .u8 0)).set 7 (.int .u8 1)).set 8 (.int .u8 1)).toArray 5)) 5 (zr 16)
        rwa [show (w1.alloc (.cells ((((((((((zr 32).set 0 (.int .u8 2)).set 1 (.int .u8 237)).set 2 (.int .u8 1)).set 3 (.int .u8 0)).set 4 (.int .u8 0)).set 5 (.int .u8 0)).set 6 (.int .u8 0)).set 7 (.int .u8 1)).set 8 (.int .u8 1)).toArray 5)).heap.size = w1.heap.size + 1 by simp] at this
      have CC : Chg Nil w wc := by rw [hw]; exact (((C1.out.alloc _).alloc _).drew).drew
      have S9 := Sl.of_blk (n := 32) (s := 1) B9 (by simp [zr_len]) (by decide)
      have R9 := Rd.of_blk (n := 16) (s := 1) P9 (by simp [zr_len]) (by decide)
      have S10 := S9.over (lo := 9) (vs := zr 16) (by omega) (by rw [zr_len]; omega)
      rw [Nat.zero_add] at S10
      have hfin : List.take 9 ((((((((((zr 32).set 0 (.int .u8 2)).set 1 (.int .u8 237)).set 2 (.int .u8 1)).set 3 (.int .u8 0)).set 4 (.int .u8 0)).set 5 (.int .u8 0)).set 6 (.int .u8 0)).set 7 (.int .u8 1)).set 8 (.int .u8 1)) ++ zr 16 ++ List.drop (9 + (zr 16).length) ((((((((((zr 32).set 0 (.int .u8 2)).set 1 (.int .u8 237)).set 2 (.int .u8 1)).set 3 (.int .u8 0)).set 4 (.int .u8 0)).set 5 (.int .u8 0)).set 6 (.int .u8 0)).set 7 (.int .u8 1)).set 8 (.int .u8 1)) = bys (ndB 2 493 1 1) := by rfl
      rw [hfin] at S10
      have hcp : ∀ ty, (Builtin.copy_ #[22, 22] ty #[.slice (some ⟨w1.heap.size, 9, none⟩) 23 23, .slice (some ⟨w1.heap.size + 1, 0, none⟩) 16 16]).run Tryz.prog wc = .ok (goInt 16) (wc.setCells w1.heap.size 9 (zr 16)) := fun ty =>
        copy_sl _ _ _ ty eU8 B9 23 23 R9 (by omega) (by omega) (by simp [zr_len]) (by rw [zr_bys]; exact ints_one _ _)
      have FS := hid S10
      have FC : Hid (Chg Nil w (wc.setCells w1.heap.size 9 (zr 16))) := hid (CC.trans (setCells_chg wc w1.heap.size 9 (zr 16) (One w1.heap.size) rfl) (fun k hk hh => by rw [show k = w1.heap.size from hh] at hk; omega))
      replace hw := hid hw
      clear B9 P9 CC S9 R9 S10 hfin b0 b1 b2 b3 b4 b5 b6 b7 q0 q1 q2 q3 q4 q5 q6 q7 q8
      go_wp2
      go_ret2
      exact ⟨_, _, rfl, FS.out, FC.out, fun g hg => by injection hg with hg; omega⟩
theorem ndpack_1 (w : World) : Calls Tryz.prog 47 #[ndV 2 493 1 1] w fun e w' => ∃ a c G, e = .returned (.tuple #[.slice a 32 c, .int .i64 0]) ∧ Sl w' 5 1 a 32 c (bys (ndB 2 493 1 1)) G ∧ Chg Nil w w' ∧ ∀ g, G = some g → w.heap.size ≤ g := (ndpack_32 w).mono (fun e w' ⟨a, G, h⟩ => ⟨a, 32, G, h⟩)
end Go.Proofs.YtdcbagmgflcemaaGreatDoor
