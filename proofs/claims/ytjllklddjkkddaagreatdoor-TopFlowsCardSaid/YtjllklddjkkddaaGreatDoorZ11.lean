/- Arrays by value, indexed; bits.With. Conditions: a number below 256 · Contracts of package snap. Conditions: a forest whose numbers are those of a disk's sectors · snap.Pack. Conditions: a forest whose numbers are those of a disk's sectors. -/
import Derived.Test.YtjllklddjkkddaaGreatDoorZ10
import Derived.Deep.DeepCutAuto
import Derived.Deep.CutBlock
namespace Go.Proofs.YtjllklddjkkddaaGreatDoor
open Go.ChangeShapes Go.WideShapes Go.ChangeAt Go.RowKit
set_option linter.unusedVariables false
/-- An element of an array by value. -/
theorem index_arr {P : Program} {t e : TypeId} {n i : Nat} {vs : List Value} {v : Value} (w : World) (ht : P.underlying t = some (.array n e)) (hs : (P.info? e).map (·.size) = some 1) (ha : ∀ w, (isAgg e).run P w = .ok false w) (hi : i < n) (hv : vs[i]? = some v) :
    (Instr.index t (.agg vs.toArray) (.int .i64 (i : Int))).run P w = .ok v w := by
  cases hq : P.info? e with
  | none => simp [hq] at hs
  | some inf =>
    have hs' : inf.size = 1 := by simpa [hq] using hs
    have h1 : (0 : Int) ≤ (i : Int) ∧ (i : Int) < (n : Int) := by omega
    simp [Instr.index, asIntOf, Sem.run_bind, run_underlying ht, h1, part, sizeOf, typeInfo, hq, hs', ha, hv, Sem.run_pure]
    intro hh
    omega
/-- A load, a store, by what it runs to. -/
theorem wpList_load_run {P : Program} {ops : Array Oper} {rest : List Oper} {op : Oper} {a : Act} {w w' : World} {Q : Exit → Act → World → Prop} {ty : TypeId} {x : Operand} {v r : Value} (L : (Instr.loadAt ty v).run P w = .ok r w') (hgd : op.guard = none) (ho : op.op = .load ty x) (hx : a.eval x = v)
    (h : wpList P ops Q rest (a.put op.dst r) w') : wpList P ops Q (op :: rest) a w :=
  wpList_plain hgd fun _ hK => by
    unfold Oper.wp execOp
    simp only [ho, hx, Sem.run_bind, L, Result.andThen_ok, Sem.run_pure]
    exact hK _ _ h
theorem wpList_store_run {P : Program} {ops : Array Oper} {rest : List Oper} {op : Oper} {a : Act} {w w' : World} {Q : Exit → Act → World → Prop} {ty : TypeId} {x y : Operand} {v u : Value} (L : (Instr.storeAt ty v u).run P w = .ok () w') (hgd : op.guard = none) (ho : op.op = .store ty x y) (hx : a.eval x = v) (hy : a.eval y = u)
    (h : wpList P ops Q rest (a.put op.dst undef) w') : wpList P ops Q (op :: rest) a w :=
  wpList_plain hgd fun _ hK => by
    unfold Oper.wp execOp
    simp only [ho, hx, hy, Sem.run_bind, L, Result.andThen_ok, Sem.run_pure]
    exact hK _ _ h
theorem wpList_load_g {P : Program} {ops : Array Oper} {rest : List Oper} {op : Oper} {a : Act} {w w' : World} {Q : Exit → Act → World → Prop} {ty : TypeId} {x : Operand} {v r : Value} (L : (Instr.loadAt ty v).run P w = .ok r w') (hw : Region.wanted op (yielded ops a.tmps) = true) (ho : op.op = .load ty x) (hx : a.eval x = v)
    (h : wpList P ops Q rest (a.put op.dst r) w') : wpList P ops Q (op :: rest) a w := by
  unfold wpList
  rw [if_pos hw]
  left
  unfold Oper.wp execOp
  simp only [ho, hx, Sem.run_bind, L, Result.andThen_ok, Sem.run_pure]
  exact h
theorem wpList_bin_run {P : Program} {ops : Array Oper} {rest : List Oper} {op : Oper} {a : Act} {w w' : World} {Q : Exit → Act → World → Prop} {bo : BinOp} {t yt : TypeId} {x y : Operand} {v u r : Value} (L : (do eqGuard bo t x y v u; binOp bo t v u : Sem Value).run P w = .ok r w') (hw : Region.wanted op (yielded ops a.tmps) = true) (ho : op.op = .binOp bo t x y yt) (hx : a.eval x = v) (hy : a.eval y = u)
    (h : wpList P ops Q rest (a.put op.dst r) w') : wpList P ops Q (op :: rest) a w := by
  unfold wpList
  rw [if_pos hw]
  left
  unfold Oper.wp execOp
  simp only [ho, hx, hy]
  rw [Sem.run_bind, L]
  simp only [Result.andThen_ok, Sem.run_pure]
  exact h
/-- A result that lies in a block, and one beside it. -/
theorem results_blk {P : Program} {fn : Func} {p : Tmp} {ty t : TypeId} (h : fn.results = #[.cell p ty]) {tmps : Array Value} {w : World} {g : Nat} {cs : List Value} {d : TypeDesc} (hb : Blk w g t cs)
    (hp : tmps.getD p undef = .pointer (some ⟨g, 0, none⟩)) (hu : P.underlying ty = some d) (hd : d.isRow = true) (hi : (P.info? ty).map (·.size) = some cs.length) :
    (results fn tmps).run P w = .ok (.agg cs.toArray) w :=
  results_cell_row h tmps w g t cs.toArray (0, 0) d hp hb hu (by cases d <;> simp_all) (by simpa using hi)
theorem results_blk2 {P : Program} {fn : Func} {p u : Tmp} {ty t : TypeId} (h : fn.results = #[.cell p ty, .tmp u]) {tmps : Array Value} {w : World} {g : Nat} {cs : List Value} {d : TypeDesc} (hb : Blk w g t cs)
    (hp : tmps.getD p undef = .pointer (some ⟨g, 0, none⟩)) (hu : P.underlying ty = some d) (hd : d.isRow = true) (hi : (P.info? ty).map (·.size) = some cs.length) :
    (results fn tmps).run P w = .ok (.tuple #[.agg cs.toArray, tmps.getD u undef]) w := by
  rw [results_cell_tmp h, hp]
  have := run_loadVar_mid (P := P) w g 0 ty cs d (fun j v hv => by rw [Nat.zero_add, hb.cell, hv]) hu hd hi
  simp [asAddr, Result.andThen, this]
/-- A set with one more. -/
def withB (bs : List Int) (n : Nat) : List Int := bs.set (n / 8) (bits BinOp.or .u8 (bs.getD (n / 8) 0) (2 ^ (n % 8) % 256))
theorem withB_len (bs : List Int) (n : Nat) : (withB bs n).length = bs.length := by simp [withB]
/-- A whole block of an array or struct, read. -/
theorem load_blk {P : Program} {w : World} {g : Nat} {t ty : TypeId} {cs : List Value} {d : TypeDesc} (h : Blk w g t cs) (hu : P.underlying ty = some d) (hd : d.isRow = true) (hi : (P.info? ty).map (·.size) = some cs.length) :
    (Instr.loadAt ty (.pointer (some ⟨g, 0, none⟩))).run P w = .ok (.agg cs.toArray) w := by
  refine run_loadAt_mid w g 0 ty cs d (fun j v hv => ?_) hu hd hi
  rw [Nat.zero_add, h.cell, hv]
/-- Written. -/
theorem store_blk {P : Program} {w : World} {g : Nat} {t ty : TypeId} {cs vs : List Value} (h : Blk w g t cs) (hl : vs.length = cs.length) (hi : (P.info? ty).map (·.size) = some vs.length) (h1 : ∀ u ∈ vs, u.oneCell' = true) :
    (Instr.storeAt ty (.pointer (some ⟨g, 0, none⟩)) (.agg vs.toArray)).run P w = .ok () (w.setCells g 0 vs) ∧ Blk (w.setCells g 0 vs) g t vs := by
  refine ⟨?_, ?_⟩
  · have := run_storeAt_mid (P := P) w g 0 ty vs.toArray (by simpa using h.there (lo := 0) (n := vs.length) (by omega)) (by simpa using hi) (all_oneCell_toArray h1)
    simpa using this
  · have := h.cells (lo := 0) (vs := vs) (by omega)
    have e : over_ cs 0 vs = vs := by unfold over_; rw [List.take_zero, List.nil_append, List.drop_of_length_le (by omega), List.append_nil]
    rwa [e] at this
set_option maxRecDepth 100000 in
theorem with_ok (w : World) (bs : List Int) (hb : bs.length = 32) (n : Nat) (hn : n < 256) :
    Calls Tryz.prog 44 #[.agg (bys bs).toArray, .int .i64 n] w fun e w' => e = .returned (.agg (bys (withB bs n)).toArray) ∧ Chg Nil w w' := by
  have hd : n / 8 < 32 := by omega
  have B0 := Blk.new w 118 (bys bs)
  have hbl : (bys bs).length = 32 := by rw [ints_length, hb]
  have k0 : (w.alloc (.cells (bys bs).toArray 118)).cell? ⟨w.heap.size, n / 8, none⟩ = some (.int .u8 (bs.getD (n / 8) 0)) := by
    rw [B0.cell, ints_get _ _ (by omega)]
    simp [List.getD, show n / 8 < bs.length by omega]
  have k1 : (bys bs)[n / 8]'(by omega) = .int .u8 (bs.getD (n / 8) 0) := by
    simp [ints, List.getD, show n / 8 < bs.length by omega]
  go_enter Tryz.func44, Tryz.ntmps44
  go_wp2
  go_cut [2, 4] (fun s2 s4 wx => s2 = .pointer (some ⟨w.heap.size, 0, none⟩) ∧ s4 = .pointer (some ⟨w.heap.size + 1, 0, none⟩) ∧ Blk wx w.heap.size 118 (bys (withB bs n)) ∧ Blk wx (w.heap.size + 1) 118 (zr 32) ∧ Hid (Chg Nil w wx))
  case first =>
    go_region
    go_wp2
    go_meet
    have e : (bys bs).set (n / 8) (.int .u8 (bits BinOp.or .u8 (bs[n / 8]'(by omega)) (2 ^ (n % 8) % 256))) = bys (withB bs n) := by
      unfold withB
      rw [show bs.getD (n / 8) 0 = bs[n / 8]'(by omega) by simp [List.getD, show n / 8 < bs.length by omega]]
      simp [ints, List.map_set]
    rw [e]
    refine ⟨rfl, rfl, ((Blk.new w 118 (bys (withB bs n))).alloc _).drew, ?_, (((Chg.refl Nil w).alloc _).alloc _).drew⟩
    have := Blk.new (w.alloc (.cells (bys (withB bs n)).toArray 118)) 118 (zr 32)
    rw [show (w.alloc (.cells (bys (withB bs n)).toArray 118)).heap.size = w.heap.size + 1 by simp] at this
    exact this.drew
  case rest =>
    obtain ⟨rfl, rfl, B1, B2, hc⟩ := hcut
    have L1 := load_blk (P := Tryz.prog) B1 Tryz.underlying118 rfl (by rw [ints_length, withB_len, hb]; kernel_rfl)
    obtain ⟨L2, B3⟩ := store_blk (P := Tryz.prog) B2 (vs := bys (withB bs n)) (by rw [ints_length, withB_len, hb]; rfl) (by rw [ints_length, withB_len, hb]; kernel_rfl) (ints_one _ _)
    go_wp2_with (first | (refine wpList_load_run L1 (by rfl) (by rfl) (by rfl) ?_) | (refine wpList_store_run L2 (by rfl) (by rfl) (by rfl) (by rfl) ?_))
    refine bodyPost_ret (results_blk rfl B3 rfl Tryz.underlying118 rfl (by rw [ints_length, withB_len, hb]; kernel_rfl)) rfl ?_
    exact ⟨rfl, hc.out.trans (setCells_chg wc _ 0 _ (One (w.heap.size + 1)) rfl) (fun k hk hh => by rw [show k = w.heap.size + 1 from hh] at hk; omega)⟩
end Go.Proofs.YtjllklddjkkddaaGreatDoor
namespace Go.Proofs.YtjllklddjkkddaaGreatDoor
open Go.ChangeShapes Go.WideShapes Go.ChangeAt Go.RowKit
set_option linter.unusedVariables false
/-- A tree that is not there. -/
def trZ : List Value := List.replicate 16 (.int .i64 0) ++ zr 32
/-- A forest's cells; which trees are there. -/
structure Fo (cs : List Value) (T : Nat → Bool) : Prop where
  len : cs.length = 192
  num : ∀ k, k < 4 → ∀ i, i < 16 → ∃ x : Int, cs[k * 48 + i]? = some (.int .i64 x) ∧ 0 ≤ x ∧ x < 256
  there : ∀ k, k < 4 → ∃ x : Int, cs[k * 48]? = some (.int .i64 x) ∧ (x != 0) = T k
  none : ∀ k, k < 4 → T k = false → part_ cs (k * 48) 48 = trZ
set_option maxRecDepth 100000 in
theorem there_ok (w : World) (cs : List Value) (T : Nat → Bool) (h : Fo cs T) (k : Nat) (hk : k < 4) :
    Calls Tryz.prog 114 #[.agg cs.toArray, .int .i64 k] w fun e w' => e = .returned (.bool (T k)) ∧ Chg Nil w w' := by
  obtain ⟨x, hx, ht⟩ := h.there k hk
  have B0 := Blk.new w 122 cs
  have k0 := B0.cell (k * 48)
  rw [hx] at k0
  have hl := h.len
  go_enter Tryz.func114, Tryz.ntmps114
  go_wp2
  go_ret
  exact ⟨by rw [← ht]; rfl, (Chg.refl Nil w).alloc _⟩
theorem Fo.get {cs : List Value} {T : Nat → Bool} (h : Fo cs T) {k i : Nat} (hk : k < 4) (hi : i < 16) : ∃ x : Int, (part_ cs (k * 48) 16)[i]? = some (.int .i64 x) ∧ 0 ≤ x ∧ x < 256 := by
  obtain ⟨x, h1, h2⟩ := h.num k hk i hi
  exact ⟨x, by rw [part_get (by rw [h.len]; omega) hi]; exact h1, h2⟩
set_option maxRecDepth 100000 in
theorem snright_ok (w : World) (cs : List Value) (T : Nat → Bool) (h : Fo cs T) :
    Calls Tryz.prog 109 #[.agg cs.toArray] w fun e w' => e = .returned (.int .i64 0) ∧ Chg Nil w w' := by
  have hl := h.len
  have HT := hid (fun w k hk => there_ok w cs T h k hk)
  have H := hid h
  have B0 := hid (Blk.new w 122 cs)
  clear h
  go_enter Tryz.func109, Tryz.ntmps109
  go_wp2
  go_loopw [6] (fun i wr => ∃ k : Nat, k ≤ 4 ∧ i = .int .i64 k ∧ Hid (Blk wr w.heap.size 122 cs) ∧ Hid (Chg Nil w wr)) (fun i _ => 4 - (intOf i).toNat)
  case atStart => exact ⟨0, by omega, rfl, B0.out, (Chg.refl Nil w).alloc _⟩
  case round =>
    obtain ⟨k, hk, rfl, hB, hC⟩ := hrel
    by_cases hlt : k < 4
    · have L1 := run_loadAt_mid (P := Tryz.prog) wr w.heap.size (k * 48) 61 (part_ cs (k * 48) 16) _ (hB.out.range (by omega)) Tryz.underlying61 rfl (by rw [part_len (by omega)]; kernel_rfl)
      have L2 := load_blk (P := Tryz.prog) hB.out Tryz.underlying122 rfl (by rw [hl]; kernel_rfl)
      go_wp2_with (refine wpList_load_run L1 (by rfl) (by rfl) (by rfl) ?_)
      go_loop [13] (fun j => ∃ i : Nat, i ≤ 16 ∧ j = .int .i64 i) (fun j => 16 - (intOf j).toNat)
      case atStart => exact ⟨0, by omega, rfl⟩
      case round =>
        obtain ⟨i, hi, rfl⟩ := hrel
        by_cases hlt2 : i < 16
        · obtain ⟨x, hx, x0, x1⟩ := H.out.get hlt hlt2
          have hix := fun w => index_arr (P := Tryz.prog) w Tryz.underlying61 (by kernel_rfl) (fun w => Tryz.isAgg3 w) hlt2 hx
          clear hx
          go_wp2
          go_round
          case rel => exact ⟨i + 1, by omega, by go_num⟩
          case measure => simp [intOf]; omega
        · cases hT : T k with
          | true =>
            go_wp2_with (first | (refine wpList_load_run L2 (by rfl) (by rfl) (by rfl) ?_) | (go_at_call 114; refine (HT.out _ k hlt).mono ?_; rw [hT]; rintro e w5 ⟨rfl, c5⟩; replace c5 := hid c5))
            go_roundw
            case rel => exact ⟨k + 1, by omega, by go_num, hB.out.chg c5.out (fun h => h), hC.out.trans c5.out (fun _ _ h => h)⟩
            case measure => simp [intOf]; omega
          | false =>
            have L3 := hid (fun w5 (c5 : Chg Nil wr w5) => run_loadAt_mid (P := Tryz.prog) w5 w.heap.size (k * 48) 120 (part_ cs (k * 48) 48) _ ((Blk.chg hB.out c5 (fun h => h)).range (by omega)) Tryz.underlying120 rfl (by rw [part_len (by omega)]; kernel_rfl))
            rw [H.out.none k hlt hT] at L3
            have E3 : ∀ w, (do eqGuard .neq 120 (.tmp 30) (.tmp 31) (.agg trZ.toArray) (.agg trZ.toArray); binOp .neq 120 (.agg trZ.toArray) (.agg trZ.toArray) : Sem Value).run Tryz.prog w = .ok (.bool false) w := fun _ => by kernel_rfl
            replace E3 := hid E3
            go_wp2_with (first | (refine wpList_load_run L2 (by rfl) (by rfl) (by rfl) ?_) | (refine wpList_bin_run (E3.out _) (by rfl) (by rfl) (by rfl) (by rfl) ?_) | (refine wpList_load_g L3' (by rfl) (by rfl) (by rfl) ?_) | (go_at_call 114; refine (HT.out _ k hlt).mono ?_; rw [hT]; rintro e w5 ⟨rfl, c5⟩; have L3' := L3.out _ c5; replace c5 := hid c5))
            go_roundw
            case rel => exact ⟨k + 1, by omega, by go_num, hB.out.chg c5.out (fun h => h), hC.out.trans c5.out (fun _ _ h => h)⟩
            case measure => simp [intOf]; omega
    · go_wp2
      go_ret
      exact ⟨rfl, hC.out⟩
end Go.Proofs.YtjllklddjkkddaaGreatDoor
namespace Go.Proofs.YtjllklddjkkddaaGreatDoor
open Go.ChangeShapes Go.WideShapes Go.ChangeAt Go.RowKit
set_option linter.unusedVariables false
theorem Blk.rdPart {w : World} {p lo n c : Nat} {t : TypeId} {cs : List Value} (h : Blk w p t cs) (hl : lo + n ≤ cs.length) (hn : n ≤ c) (hc : c ≤ maxLen) : Rd w (One p) 1 (some ⟨p, lo, none⟩) n c (part_ cs lo n) :=
  ⟨hn, hc, by rw [part_len hl, Nat.mul_one], fun _ => ⟨p, lo, rfl, h.lt, rfl, fun j hj => by rw [h.cell, part_get hl (by omega)]⟩⟩
/-- A forest's cells, and its bytes: numbers, then sets. -/
structure FoB (cs : List Value) (T : Nat → Bool) (B C : List Int) : Prop where
  fo : Fo cs T
  bl : B.length = 64
  cl : C.length = 128
  num : ∀ k, k < 4 → ∀ i, i < 16 → cs[k * 48 + i]? = some (.int .i64 (B.getD (k * 16 + i) 0)) ∧ 0 ≤ B.getD (k * 16 + i) 0 ∧ B.getD (k * 16 + i) 0 < 256
  has : ∀ k, k < 4 → part_ cs (k * 48 + 16) 32 = bys ((C.drop (k * 32)).take 32)
theorem bys_append (l m : List Int) : bys l ++ bys m = bys (l ++ m) := ints_append _ _ _
theorem take_one {l : List Int} {n : Nat} (h : n < l.length) : l.take (n + 1) = l.take n ++ [l.getD n 0] := by
  rw [List.take_succ_eq_append_getElem h]
  simp [List.getD, h]
theorem take_more (l : List Int) (n m : Nat) : l.take (n + m) = l.take n ++ (l.drop n).take m := by
  rw [List.take_add]
set_option maxRecDepth 100000 in
set_option maxHeartbeats 2000000 in
theorem snpack_ok (w : World) (cs : List Value) (T : Nat → Bool) (B C : List Int) (h : FoB cs T B C) :
    Calls Tryz.prog 45 #[.agg cs.toArray] w fun e w' => ∃ a c G, e = .returned (.tuple #[.slice a 192 c, .int .i64 0]) ∧ Sl w' 5 1 a 192 c (bys (B ++ C)) G ∧ Chg Nil w w' ∧ ∀ g, G = some g → w.heap.size ≤ g := by
  have hl := h.fo.len
  have HR := hid (fun w => snright_ok w cs T h.fo)
  have H := hid h
  have B0 := hid (Blk.new w 122 cs)
  have L0 := load_blk (P := Tryz.prog) B0.out Tryz.underlying122 rfl (by rw [hl]; kernel_rfl)
  clear h
  go_enter Tryz.func45, Tryz.ntmps45
  go_wp2_with (first | (refine wpList_load_run L0 (by rfl) (by rfl) (by rfl) ?_) | (go_at_call 109; refine (HR.out _).mono ?_; rintro e w1 ⟨rfl, c1⟩; have b1 := hid (Blk.chg B0.out c1 (fun h => h)); replace c1 := hid (((Chg.refl Nil w).alloc _).trans c1 (fun _ _ h => h))))
  clear L0
  go_loopw [5, 15] (fun s5 i wr => ∃ (k n : Nat) (a : Option Addr) (c : Nat) (G : Option Nat), k ≤ 4 ∧ n = k * 16 ∧ s5 = .slice a n c ∧ i = .int .i64 k ∧ Hid (Sl wr 5 1 a n c (bys (B.take n)) G) ∧ Hid (Blk wr w.heap.size 122 cs) ∧ Hid (Chg Nil w wr) ∧ Hid (∀ g, G = some g → w.heap.size ≤ g)) (fun _ i _ => 4 - (intOf i).toNat)
  case atStart => exact ⟨0, 0, none, 0, none, by omega, rfl, rfl, rfl, Sl.empty _ _ _ _, b1.out, c1.out, fun g hg => by cases hg⟩
  case round =>
    obtain ⟨k, n, a, c, G, hk, hn, rfl, rfl, hS, hB, hC, hG⟩ := hrel
    by_cases hlt : k < 4
    · subst hn
      have L1 := run_loadAt_mid (P := Tryz.prog) wr w.heap.size (k * 48) 61 (part_ cs (k * 48) 16) _ (hB.out.range (by omega)) Tryz.underlying61 rfl (by rw [part_len (by omega)]; kernel_rfl)
      go_wp2_with (refine wpList_load_run L1 (by rfl) (by rfl) (by rfl) ?_)
      clear L1
      obtain ⟨wo, rfl⟩ : ∃ wo : World, wo = wr := ⟨_, rfl⟩
      go_loopw [5, 22] (fun s5 i wr => ∃ (j : Nat) (a : Option Addr) (c : Nat) (G : Option Nat), j ≤ 16 ∧ s5 = .slice a (k * 16 + j) c ∧ i = .int .i64 j ∧ Hid (Sl wr 5 1 a (k * 16 + j) c (bys (B.take (k * 16 + j))) G) ∧ Hid (Blk wr w.heap.size 122 cs) ∧ Hid (Chg Nil w wr) ∧ Hid (∀ g, G = some g → w.heap.size ≤ g)) (fun _ i _ => 16 - (intOf i).toNat)
      case atStart => exact ⟨0, a, c, G, by omega, rfl, rfl, hS, hB, hC, hG⟩
      case round =>
        obtain ⟨j, a, c, G, hj, rfl, rfl, hS, hB, hC, hG⟩ := hrel
        by_cases hlt2 : j < 16
        · obtain ⟨hx, x0, x1⟩ := H.out.num k hlt j hlt2
          obtain ⟨x, hxe⟩ : ∃ x, x = B.getD (k * 16 + j) 0 := ⟨_, rfl⟩
          rw [← hxe] at hx x0 x1
          have hix := fun w => index_arr (P := Tryz.prog) w Tryz.underlying61 (by kernel_rfl) (fun w => Tryz.isAgg3 w) hlt2 ((part_get (cs := cs) (lo := k * 48) (n := 16) (by omega) hlt2).trans hx)
          have hmod : x % 256 = x := by omega
          have S1 := hid (hS.out.alloc (.cells #[.int .u8 x] 5))
          have N1 := hid (Rd.of_blk (n := 1) (s := 1) (Blk.new wr 5 (bys [x])) rfl (by decide))
          have hxe' := hid hxe
          clear hx hxe
          go_wp2_with (at_builtin; refine wpList_append_sl rfl _ _ eU8 rfl rfl rfl S1.out N1.out (ints_one _ _) (by omega) (by omega) ?_; intro a' c' w4 G' y1 y2 y3; replace y1 := hid y1; replace y2 := hid y2; replace y3 := hid y3)
          go_roundw
          case rel =>
            refine ⟨j + 1, a', c', G', by omega, rfl, by go_num, ?_, Blk.chg (hB.out.alloc _) y2.out (hS.out.ne_blk hB.out (by decide)), ?_, ?_⟩
            · have := y1.out
              show Sl w4 5 1 a' (k * 16 + j + 1) c' (bys (B.take (k * 16 + j + 1))) G'
              rw [take_one (by rw [H.out.bl]; omega), ← hxe'.out, ← bys_append]
              exact this
            · exact (hC.out.alloc (.cells #[.int .u8 x] 5)).trans y2.out (fun i hi hh => absurd (hG.out i hh) (by omega))
            · intro g hg
              rcases y3.out with h3 | h3
              · exact hG.out g (by rw [← h3]; exact hg)
              · rw [hg] at h3
                injection h3 with h3
                have := hC.out.size
                simp at h3
                omega
          case measure => simp [intOf]; omega
        · obtain rfl : j = 16 := by omega
          go_wp2
          go_roundw
          case rel => exact ⟨k + 1, k * 16 + 16, a, c, G, by omega, by omega, rfl, by go_num, hS, hB, hC, hG⟩
          case measure => simp [intOf]; omega
    · have hn4 : n = 64 := by omega
      subst hn4
      have hk4 : 4 ≤ k := by omega
      clear hn
      go_wp2
      go_loopw [5, 32] (fun s5 i wr => ∃ (k : Nat) (a : Option Addr) (c : Nat) (G : Option Nat), k ≤ 4 ∧ s5 = .slice a (64 + k * 32) c ∧ i = .int .i64 k ∧ Hid (Sl wr 5 1 a (64 + k * 32) c (bys (B ++ C.take (k * 32))) G) ∧ Hid (Blk wr w.heap.size 122 cs) ∧ Hid (Chg Nil w wr) ∧ Hid (∀ g, G = some g → w.heap.size ≤ g)) (fun _ i _ => 4 - (intOf i).toNat)
      case atStart =>
        refine ⟨0, a, c, G, by omega, rfl, rfl, ?_, hB, hC, hG⟩
        have := hS.out
        rw [List.take_of_length_le (by rw [H.out.bl]; omega)] at this
        show Sl _ _ _ _ _ _ (bys (B ++ C.take (0 * 32))) _
        rw [Nat.zero_mul, List.take_zero, List.append_nil]
        exact this
      case round =>
        obtain ⟨k, a, c, G, hk, rfl, rfl, hS, hB, hC, hG⟩ := hrel
        by_cases hlt : k < 4
        · have N1 := hid (Blk.rdPart (lo := k * 48 + 16) (n := 32) (c := 32) hB.out (by omega) (by omega) (by decide))
          rw [H.out.has k hlt] at N1
          go_wp2_with (at_builtin; refine wpList_append_sl rfl _ _ eU8 rfl rfl rfl hS.out N1.out (ints_one _ _) (by omega) (by omega) ?_; intro a' c' w4 G' y1 y2 y3; replace y1 := hid y1; replace y2 := hid y2; replace y3 := hid y3)
          go_roundw
          case rel =>
            refine ⟨k + 1, a', c', G', by omega, by rw [show 64 + (k + 1) * 32 = 64 + k * 32 + 32 by omega], by go_num, ?_, Blk.chg hB.out y2.out (hS.out.ne_blk hB.out (by decide)), ?_, ?_⟩
            · have := y1.out
              show Sl w4 5 1 a' (64 + (k + 1) * 32) c' (bys (B ++ C.take ((k + 1) * 32))) G'
              rw [show (k + 1) * 32 = k * 32 + 32 by omega, take_more, ← List.append_assoc, ← bys_append, ← Nat.add_assoc]
              exact this
            · exact hC.out.trans y2.out (fun i hi hh => absurd (hG.out i hh) (by omega))
            · intro g hg
              rcases y3.out with h3 | h3
              · exact hG.out g (by rw [← h3]; exact hg)
              · rw [hg] at h3
                injection h3 with h3
                have := hC.out.size
                omega
          case measure => simp [intOf]; omega
        · obtain rfl : k = 4 := by omega
          go_wp2
          go_ret2
          refine ⟨a, c, G, rfl, ?_, hC.out, hG.out⟩
          have := hS.out
          rwa [List.take_of_length_le (by rw [H.out.cl]; omega)] at this
end Go.Proofs.YtjllklddjkkddaaGreatDoor
