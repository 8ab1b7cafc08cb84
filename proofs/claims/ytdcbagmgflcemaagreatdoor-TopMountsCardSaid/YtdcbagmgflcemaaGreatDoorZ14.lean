/- A part of a block that is a struct or an array, read and written at once. No program in sight; no condition · The nodes of an empty file system; orphan.Lost of them. Conditions: just these nodes · Contracts of package inode: Unpack of no node, and of the root of an empty file system. Conditions: just these · Contracts of package inode: Unpack of the root of an empty file system. Conditions: just these · A block's cells as a function of the place. No program in sight; no condition. -/
import Derived.Test.YtdcbagmgflcemaaGreatDoorZ11
import Derived.Laws.Tables
import Derived.Test.YtdcbagmgflcemaaGreatDoorZ10
namespace Go.Proofs.YtdcbagmgflcemaaGreatDoor
open Go.ChangeShapes Go.WideShapes Go.ChangeAt Go.RowKit
set_option linter.unusedVariables false
theorem load_part {P : Program} {w : World} {g lo n : Nat} {t ty : TypeId} {cs : List Value} {d : TypeDesc} (h : Blk w g t cs) (hl : lo + n ≤ cs.length) (hu : P.underlying ty = some d) (hd : d.isRow = true) (hi : (P.info? ty).map (·.size) = some n) :
    (Instr.loadAt ty (.pointer (some ⟨g, lo, none⟩))).run P w = .ok (.agg (part_ cs lo n).toArray) w :=
  run_loadAt_mid w g lo ty (part_ cs lo n) d (h.range hl) hu hd (by rw [part_len hl]; exact hi)
theorem store_part {P : Program} {w : World} {g lo : Nat} {t ty : TypeId} {cs vs : List Value} (h : Blk w g t cs) (hl : lo + vs.length ≤ cs.length) (hi : (P.info? ty).map (·.size) = some vs.length) (h1 : ∀ u ∈ vs, u.oneCell' = true) :
    (Instr.storeAt ty (.pointer (some ⟨g, lo, none⟩)) (.agg vs.toArray)).run P w = .ok () (w.setCells g lo vs) ∧ Blk (w.setCells g lo vs) g t (over_ cs lo vs) ∧ Chg (One g) w (w.setCells g lo vs) := by
  refine ⟨?_, h.cells hl, setCells_chg _ _ _ _ _ rfl⟩
  have := run_storeAt_mid (P := P) w g lo ty vs.toArray (by simpa using h.there (lo := lo) (n := vs.length) hl) (by simpa using hi) (all_oneCell_toArray h1)
  simpa using this
theorem One.new {w w' : World} {g : Nat} (hg : w.heap.size ≤ g) (h : Chg (One g) w w') : Chg Nil w w' := h.mono (fun k hk hh => by rw [show k = g from hh] at hk; omega)
theorem Chg.one {F : Nat → Prop} {w w1 w' : World} {g : Nat} (h : Chg F w w1) (hg : F g ∨ w.heap.size ≤ g) (h' : Chg (One g) w1 w') : Chg F w w' := h.trans h' (fun k hk hh => by
  rw [show k = g from hh] at hk ⊢
  rcases hg with hg | hg
  · exact hg
  · omega)
theorem over_nil (cs : List Value) (lo : Nat) : over_ cs lo [] = cs := by
  unfold over_
  simp
theorem over_right {X L vs : List Value} {lo i : Nat} (h : lo = X.length + i) : over_ (X ++ L) lo vs = X ++ over_ L i vs := by
  subst h
  unfold over_
  rw [List.take_length_add_append, Nat.add_assoc, ← List.drop_drop, List.drop_left, List.append_assoc, List.append_assoc]
  simp
theorem over_left {X L vs : List Value} {lo : Nat} (h : lo + vs.length ≤ X.length) : over_ (X ++ L) lo vs = over_ X lo vs ++ L := by
  unfold over_
  rw [List.take_append_of_le_length (by omega), List.drop_append_of_le_length (by omega)]
  simp
theorem over_whole {X vs : List Value} (h : vs.length = X.length) : over_ X 0 vs = vs := by
  unfold over_
  rw [List.drop_of_length_le (by omega)]
  simp
theorem fold_set (off : Nat) : ∀ (vs : List Value) (k : Nat) (cs : Array Value), off + k + vs.length ≤ cs.size → ((vs.zipIdx k).foldl (fun cs x => cs.setIfInBounds (off + x.2) x.1) cs).toList = over_ cs.toList (off + k) vs := by
  intro vs
  induction vs with
  | nil => intro k cs _; simp [over_nil]
  | cons v vs ih =>
    intro k cs h
    simp only [List.length_cons] at h
    rw [List.zipIdx_cons, List.foldl_cons, ih (k + 1) _ (by simp; omega)]
    simp only [Array.toList_setIfInBounds]
    rw [← Nat.add_assoc, over_cons v (by simp; omega)]
/-- One field of a struct or an array that is built. -/
theorem fill_cons {place : Nat → Option (Nat × Nat)} {cs : List Value} {i : Nat} {v : Value} {rest : List (Nat × Value)} {off size : Nat} {vs : List Value} (hv : v.cells = vs.toArray) (hp : place i = some (off, size)) (hs : vs.length = size) (hb : off + size ≤ cs.length) :
    Instr.fill place cs.toArray ((i, v) :: rest) = Instr.fill place (over_ cs off vs).toArray rest := by
  rw [Instr.fill, hp]
  simp only [hv, List.size_toArray]
  rw [if_neg (by simp; omega)]
  congr 1
  have h1 := fold_set off vs 0 cs.toArray (by simp; omega)
  rw [Nat.add_zero] at h1
  rw [← h1]
  simp
/-- What is to be known of a struct's type. -/
def shapeOf (P : Program) (t : TypeId) : Option (List Value × List (Nat × Nat)) :=
  match P.info? t, P.underlying t with
  | some it, some (.struct fields) =>
    match it.zero, fields.toList.mapM (fun f => (P.info? f.type).map fun i => (f.offset, i.size)) with
    | some z, some places => some (z.cells.toList, places)
    | _, _ => none
  | _, _ => none
theorem built_struct {P : Program} {t : TypeId} {Z X : List Value} {places : List (Nat × Nat)} {parts : List (Nat × Value)} (h : shapeOf P t = some (Z, places)) (hf : Instr.fill (places.toArray[·]?) Z.toArray parts = some X.toArray) : P.built t parts = some X.toArray := by
  unfold shapeOf at h
  unfold Program.built
  cases hi : P.info? t with
  | none => rw [hi] at h; cases h
  | some it =>
    cases hu : P.underlying t with
    | none => rw [hi, hu] at h; cases h
    | some d =>
      cases d <;> try (rw [hi, hu] at h; cases h; done)
      case struct fields =>
        rw [hi, hu] at h
        simp only at h ⊢
        cases hz : it.zero with
        | none => rw [hz] at h; cases h
        | some z =>
          cases hm : fields.toList.mapM (fun f => (P.info? f.type).map fun i => (f.offset, i.size)) with
          | none => rw [hz, hm] at h; cases h
          | some pl =>
            rw [hz, hm] at h
            simp only [Option.some.injEq, Prod.mk.injEq] at h
            obtain ⟨rfl, rfl⟩ := h
            simpa using hf
theorem run_build_struct {P : Program} {t : TypeId} {Z X : List Value} {places : List (Nat × Nat)} {parts : Array (Nat × Value)} (w : World) (h : shapeOf P t = some (Z, places)) (hf : Instr.fill (places.toArray[·]?) Z.toArray parts.toList = some X.toArray) :
    (Instr.build t parts).run P w = .ok (.agg X.toArray) w := run_build w t parts _ (built_struct h hf)
theorem wpList_build_run {P : Program} {ops : Array Oper} {rest : List Oper} {op : Oper} {a : Act} {w w' : World} {Q : Exit → Act → World → Prop} {t : TypeId} {vals : Array (Nat × Value)} {parts : Array (Nat × Operand)} {r : Value} (L : (Instr.build t vals).run P w = .ok r w') (hgd : op.guard = none) (ho : op.op = .build t parts) (hp : (parts.toList.map fun x => (x.1, a.eval x.2)) = vals.toList)
    (h : wpList P ops Q rest (a.put op.dst r) w') : wpList P ops Q (op :: rest) a w :=
  wpList_plain hgd fun _ hK => by
    have hp2 : (parts.map fun (i, x) => (i, a.eval x)) = vals := by
      apply Array.ext'
      rw [Array.toList_map]
      exact hp
    subst hp2
    unfold Oper.wp execOp
    simp only [ho, Sem.run_bind, L, Result.andThen_ok, Sem.run_pure]
    exact hK _ _ h
theorem wp_load_run {P : Program} {op : Oper} {a : Act} {w w' : World} {K : Act → World → Prop} {Q : Exit → Act → World → Prop} {ty : TypeId} {x : Operand} {v r : Value} (L : (Instr.loadAt ty v).run P w = .ok r w') (ho : op.op = .load ty x) (hx : a.eval x = v)
    (h : K (a.put op.dst r) w') : op.wp P a w K Q := by
  unfold Oper.wp execOp
  simp only [ho, hx, Sem.run_bind, L, Result.andThen_ok, Sem.run_pure]
  exact h
theorem wp_store_run {P : Program} {op : Oper} {a : Act} {w w' : World} {K : Act → World → Prop} {Q : Exit → Act → World → Prop} {ty : TypeId} {x y : Operand} {v u : Value} (L : (Instr.storeAt ty v u).run P w = .ok () w') (ho : op.op = .store ty x y) (hx : a.eval x = v) (hy : a.eval y = u)
    (h : K (a.put op.dst undef) w') : op.wp P a w K Q := by
  unfold Oper.wp execOp
  simp only [ho, hx, hy, Sem.run_bind, L, Result.andThen_ok, Sem.run_pure]
  exact h
theorem step_load_run {P : Program} {ops : Array Oper} {op : Oper} {a : Act} {w w' : World} {K : Act → World → Prop} {Q : Exit → Act → World → Prop} {E : Prop} {ty : TypeId} {x : Operand} {v r : Value} (L : (Instr.loadAt ty v).run P w = .ok r w') (hw : Region.wanted op (yielded ops a.tmps) = true) (ho : op.op = .load ty x) (hx : a.eval x = v)
    (h : K (a.put op.dst r) w') : if Region.wanted op (yielded ops a.tmps) = true then Oper.wp P op a w K Q else E := by
  rw [if_pos hw]
  exact wp_load_run L ho hx h
theorem step_store_run {P : Program} {ops : Array Oper} {op : Oper} {a : Act} {w w' : World} {K : Act → World → Prop} {Q : Exit → Act → World → Prop} {E : Prop} {ty : TypeId} {x y : Operand} {v u : Value} (L : (Instr.storeAt ty v u).run P w = .ok () w') (hw : Region.wanted op (yielded ops a.tmps) = true) (ho : op.op = .store ty x y) (hx : a.eval x = v) (hy : a.eval y = u)
    (h : K (a.put op.dst undef) w') : if Region.wanted op (yielded ops a.tmps) = true then Oper.wp P op a w K Q else E := by
  rw [if_pos hw]
  exact wp_store_run L ho hx hy h
end Go.Proofs.YtdcbagmgflcemaaGreatDoor
namespace Go.Proofs.YtdcbagmgflcemaaGreatDoor
open Go.ChangeShapes Go.WideShapes Go.ChangeAt Go.RowKit
set_option linter.unusedVariables false
/-- The node that stands at a place. -/
def ndQ (j : Nat) : Nat × Nat × Nat × Nat := if j = 0 then (2, 493, 1, 1) else (0, 0, 0, 0)
theorem ndQ_two (j : Nat) : ndQ j = (2, 493, 1, 1) ∨ ndQ j = (0, 0, 0, 0) := by unfold ndQ; split <;> simp
def ndR (x : Nat × Nat × Nat × Nat) : List Value := ndCells x.1 x.2.1 x.2.2.1 x.2.2.2
def ndL (k : Nat) : List (Nat × Nat × Nat × Nat) := (List.range k).map ndQ
theorem ndL_len (k : Nat) : (ndL k).length = k := by simp [ndL]
theorem ndL_get {k j : Nat} (h : j < (ndL k).length) : (ndL k)[j] = ndQ j := by simp [ndL]
theorem ndL_succ (k : Nat) : ndL (k + 1) = ndL k ++ [ndQ k] := by simp [ndL, List.range_succ]
theorem ndR_len (x : Nat × Nat × Nat × Nat) : (ndR x).length = 8 := rfl
theorem ndR_one (x : Nat × Nat × Nat × Nat) : ∀ u ∈ ndR x, u.oneCell' = true := by
  intro u hu
  simp only [ndR, ndCells, List.mem_cons, List.not_mem_nil, or_false] at hu
  rcases hu with rfl | rfl | rfl | rfl | rfl | rfl | rfl | rfl <;> rfl
set_option maxRecDepth 100000 in
theorem lost_ok (w : World) (R : Nat → Prop) (a : Option Addr) (c : Nat) (h : Rd w R 8 a 32 c ((ndL 32).flatMap ndR)) :
    Calls Tryz.prog 55 #[.slice a 32 c, .slice none 0 0] w fun e w' => e = .returned (.slice none 0 0) ∧ Chg Nil w w' := by
  have H := hid h
  clear h
  go_enter Tryz.func55, Tryz.ntmps55
  go_wp2
  go_loopw [5, 10] (fun s5 i wr => ∃ k : Nat, k ≤ 32 ∧ s5 = .slice none 0 0 ∧ i = .int .i64 k ∧ Hid (Chg Nil w wr)) (fun _ i _ => 32 - (intOf i).toNat)
  case atStart => exact ⟨0, by omega, rfl, rfl, Chg.refl Nil w⟩
  case round =>
    obtain ⟨k, hk, rfl, rfl, hc⟩ := hrel
    by_cases hlt : k < 32
    · have h1 := H.out.chg hc.out (fun _ _ _ h => h)
      obtain ⟨g, off, rfl, _, _, he⟩ := h1.elem (f := ndR) ndR_len (ndL_len 32).symm (by omega)
      have he' := fun i hi => he k (by rw [ndL_len]; exact hlt) i hi
      simp only [ndL_get] at he'
      have e0 := he' 0 (by omega)
      have e1 := he' 1 (by omega)
      have e2 := he' 2 (by omega)
      have e3 := he' 3 (by omega)
      have e4 := he' 4 (by omega)
      have e5 := he' 5 (by omega)
      have e6 := he' 6 (by omega)
      have e7 := he' 7 (by omega)
      clear he he' h1
      rcases ndQ_two k with hq | hq
      all_goals
        simp only [hq, ndR, ndCells, List.getElem?_cons_succ, List.getElem?_cons_zero, Nat.add_zero] at e0 e1 e2 e3 e4 e5 e6 e7
        clear hq
        go_wp2
        go_roundw
        case rel => exact ⟨k + 1, by omega, rfl, by go_num, hc.out.alloc _⟩
        case measure => simp [intOf]; omega
    · go_wp2
      go_ret
      exact ⟨rfl, hc.out⟩
end Go.Proofs.YtdcbagmgflcemaaGreatDoor
namespace Go.Proofs.YtdcbagmgflcemaaGreatDoor
open Go.ChangeShapes Go.WideShapes Go.ChangeAt Go.RowKit
set_option linter.unusedVariables false
set_option maxRecDepth 100000 in
set_option maxHeartbeats 4000000 in
theorem ndunpack_0 (w : World) (R : Nat → Prop) (b : Option Addr) (c : Nat) (h : Rd w R 1 b 32 c (zr 32)) :
    Calls Tryz.prog 115 #[.slice b 32 c] w fun e w' => e = .returned (.tuple #[ndV 0 0 0 0, .int .i64 0]) ∧ Chg Nil w w' := by
  obtain ⟨g, off, rfl, hgl, _, hc⟩ := h.cellAt (by omega)
  have HP := fun w => ndpack_0 w
  unfold ndV at HP ⊢
  have k0 := hc 0 (by omega)
  have k1 := hc 1 (by omega)
  have k2 := hc 2 (by omega)
  have k3 := hc 3 (by omega)
  have k4 := hc 4 (by omega)
  have k5 := hc 5 (by omega)
  have k6 := hc 6 (by omega)
  have k7 := hc 7 (by omega)
  have k8 := hc 8 (by omega)
  rw [zr_get (by omega)] at k0 k1 k2 k3 k4 k5 k6 k7 k8
  rw [Nat.add_zero] at k0
  have hcap : 32 ≤ c := h.1
  have i0 : IntKind.i64.wrap 0 = 0 := by rfl
  have HX : ∀ (w' : World), Chg Nil w w' → Rd w' R 1 (some ⟨g, off + 9, none⟩) 16 (c - 9) (zr 16) := fun w' hw => by
    have := (h.chg hw (fun _ _ _ h => h)).sub (lo := 9) (k := 16) (by omega)
    exact this
  replace HX := hid HX
  have H := hid h
  clear h hc
  go_enter Tryz.func115, Tryz.ntmps115
  go_wp2
  go_region_held3 (fun w' => w'.cell? ⟨g, off, none⟩ = some (.int .u8 0) ∧ w'.cell? ⟨g, off + 1, none⟩ = some (.int .u8 0) ∧ w'.cell? ⟨g, off + 2, none⟩ = some (.int .u8 0) ∧ w'.cell? ⟨g, off + 3, none⟩ = some (.int .u8 0) ∧ w'.cell? ⟨g, off + 4, none⟩ = some (.int .u8 0) ∧ w'.cell? ⟨g, off + 5, none⟩ = some (.int .u8 0) ∧ w'.cell? ⟨g, off + 6, none⟩ = some (.int .u8 0) ∧ w'.cell? ⟨g, off + 7, none⟩ = some (.int .u8 0) ∧ w'.cell? ⟨g, off + 8, none⟩ = some (.int .u8 0)) (go_keep) (fail)
  go_wp2_with fail
  have o0 : bits BinOp.or IntKind.i64 0 0 = 0 := by kernel_rfl
  rw [o0]
  refine (xunpack_zero _ _ _ _ (HX.out _ (((Chg.refl Nil w).alloc _).alloc _).drew)).mono ?_
  rintro e w2 ⟨rfl, c2⟩
  have C1 := hid ((((Chg.refl Nil w).alloc (.cells (ndCells 0 0 0 0).toArray 120)).alloc (.cells (ndCells 0 0 0 0).toArray 120)).drew.trans c2 (fun _ _ h => h))
  have Bn : Blk w2 (w.heap.size + 1) 120 (ndCells 0 0 0 0) := by
    have := Blk.new (w.alloc (.cells (ndCells 0 0 0 0).toArray 120)) 120 (ndCells 0 0 0 0)
    rw [show (w.alloc (.cells (ndCells 0 0 0 0).toArray 120)).heap.size = w.heap.size + 1 by simp] at this
    exact Blk.chg (F := Nil) this.drew c2 (fun h => h)
  have Br : Blk w2 w.heap.size 120 (ndCells 0 0 0 0) := Blk.chg (F := Nil) ((Blk.new w 120 (ndCells 0 0 0 0)).alloc _).drew c2 (fun h => h)
  have W3 := Bn.set 7 (.slice none 0 0)
  rw [show (ndCells 0 0 0 0).set 7 (.slice none 0 0) = ndCells 0 0 0 0 from rfl] at W3
  have L3 := load_blk (P := Tryz.prog) W3 Tryz.underlying120 rfl (by kernel_rfl)
  have n7 := Bn.cell 7
  have f7 := Bn.frozen 7
  simp only [ndCells, List.getElem?_cons_succ, List.getElem?_cons_zero] at n7
  have C3 := hid (C1.out.setCell (p := ⟨w.heap.size + 1, 7, none⟩) (.inr (by simp)) (.slice none 0 0))
  have Br3 := hid (Br.far (p := ⟨w.heap.size + 1, 7, none⟩) (by simp) (.slice none 0 0))
  replace W3 := hid W3
  clear Bn c2 Br C1 k0 k1 k2 k3 k4 k5 k6 k7 k8
  go_wp2_with (refine wpList_load_run L3 (by rfl) (by rfl) (by rfl) ?_)
  refine (ndpack_0 _).mono ?_
  rintro e w4 ⟨a4, c4, G4, rfl, s4, cc4, g4⟩
  have W4 := W3.out.chg cc4 (fun h => h)
  have R4 := Br3.out.chg cc4 (fun h => h)
  have C4 := hid (C3.out.trans cc4 (fun _ _ h => h))
  have h4 := H.out.chg C4.out (fun _ _ _ h => h)
  rw [zr_bys 32] at h4
  have HE := hid (equal_by _ _ _ _ 32 _ 32 _ _ _ w4 s4.rd h4 (by omega) (by omega))
  clear h4
  have L5 := hid (fun k => load_blk (P := Tryz.prog) (W4.drewN k) Tryz.underlying120 rfl (by kernel_rfl))
  have L6 := hid (fun k => store_blk (P := Tryz.prog) (ty := 120) (R4.drewN k) (vs := ndCells 0 0 0 0) rfl (by kernel_rfl) (ndR_one (0, 0, 0, 0)))
  clear W4 R4 L3 s4 cc4 g4
  go_wp2_with (first | (go_at_call 10; refine HE.out.mono ?_; rintro e w5 ⟨rfl, k, rfl⟩) | (refine wpList_load_run (L5.out _) (by rfl) (by rfl) (by rfl) ?_) | (refine wpList_store_run (L6.out _).1 (by rfl) (by rfl) (by rfl) (by rfl) ?_))
  refine bodyPost_ret (results_blk2 rfl (L6.out _).2 rfl Tryz.underlying120 rfl (by kernel_rfl)) rfl ?_
  exact ⟨rfl, (C4.out.drewN _).trans (setCells_chg _ _ 0 _ (One w.heap.size) rfl) (fun k hk hh => by rw [show k = w.heap.size from hh] at hk; omega)⟩
end Go.Proofs.YtdcbagmgflcemaaGreatDoor
namespace Go.Proofs.YtdcbagmgflcemaaGreatDoor
open Go.ChangeShapes Go.WideShapes Go.ChangeAt Go.RowKit
set_option linter.unusedVariables false
set_option maxRecDepth 100000 in
set_option maxHeartbeats 4000000 in
theorem ndunpack_1 (w : World) (R : Nat → Prop) (b : Option Addr) (c : Nat) (h : Rd w R 1 b 32 c (bys (ndB 2 493 1 1))) :
    Calls Tryz.prog 115 #[.slice b 32 c] w fun e w' => e = .returned (.tuple #[ndV 2 493 1 1, .int .i64 0]) ∧ Chg Nil w w' := by
  obtain ⟨g, off, rfl, hgl, _, hc⟩ := h.cellAt (by omega)
  have HP := fun w => ndpack_1 w
  unfold ndV at HP ⊢
  have k0 := hc 0 (by omega)
  have k1 := hc 1 (by omega)
  have k2 := hc 2 (by omega)
  have k3 := hc 3 (by omega)
  have k4 := hc 4 (by omega)
  have k5 := hc 5 (by omega)
  have k6 := hc 6 (by omega)
  have k7 := hc 7 (by omega)
  have k8 := hc 8 (by omega)
  rw [show (bys (ndB 2 493 1 1))[0]? = some (.int .u8 2) from rfl] at k0
  rw [show (bys (ndB 2 493 1 1))[1]? = some (.int .u8 237) from rfl] at k1
  rw [show (bys (ndB 2 493 1 1))[2]? = some (.int .u8 1) from rfl] at k2
  rw [show (bys (ndB 2 493 1 1))[3]? = some (.int .u8 0) from rfl] at k3
  rw [show (bys (ndB 2 493 1 1))[4]? = some (.int .u8 0) from rfl] at k4
  rw [show (bys (ndB 2 493 1 1))[5]? = some (.int .u8 0) from rfl] at k5
  rw [show (bys (ndB 2 493 1 1))[6]? = some (.int .u8 0) from rfl] at k6
  rw [show (bys (ndB 2 493 1 1))[7]? = some (.int .u8 1) from rfl] at k7
  rw [show (bys (ndB 2 493 1 1))[8]? = some (.int .u8 1) from rfl] at k8
  rw [Nat.add_zero] at k0
  have hcap : 32 ≤ c := h.1
  have i0 : IntKind.i64.wrap 0 = 0 := by rfl
  have HX : ∀ (w' : World), Chg Nil w w' → Rd w' R 1 (some ⟨g, off + 9, none⟩) 16 (c - 9) (zr 16) := fun w' hw => by
    have := (h.chg hw (fun _ _ _ h => h)).sub (lo := 9) (k := 16) (by omega)
    exact this
  replace HX := hid HX
  have H := hid h
  clear h hc
  go_enter Tryz.func115, Tryz.ntmps115
  go_wp2
  go_region_held3 (fun w' => w'.cell? ⟨g, off, none⟩ = some (.int .u8 2) ∧ w'.cell? ⟨g, off + 1, none⟩ = some (.int .u8 237) ∧ w'.cell? ⟨g, off + 2, none⟩ = some (.int .u8 1) ∧ w'.cell? ⟨g, off + 3, none⟩ = some (.int .u8 0) ∧ w'.cell? ⟨g, off + 4, none⟩ = some (.int .u8 0) ∧ w'.cell? ⟨g, off + 5, none⟩ = some (.int .u8 0) ∧ w'.cell? ⟨g, off + 6, none⟩ = some (.int .u8 0) ∧ w'.cell? ⟨g, off + 7, none⟩ = some (.int .u8 1) ∧ w'.cell? ⟨g, off + 8, none⟩ = some (.int .u8 1)) (go_keep) (fail)
  go_wp2_with fail
  have o0 : bits BinOp.or IntKind.i64 0 0 = 0 := by kernel_rfl
  have o1 : bits BinOp.or IntKind.i64 237 256 = 493 := by kernel_rfl
  rw [o0, o1]
  refine (xunpack_zero _ _ _ _ (HX.out _ (((Chg.refl Nil w).alloc _).alloc _).drew)).mono ?_
  rintro e w2 ⟨rfl, c2⟩
  have C1 := hid ((((Chg.refl Nil w).alloc (.cells (ndCells 0 0 0 0).toArray 120)).alloc (.cells (ndCells 2 493 1 1).toArray 120)).drew.trans c2 (fun _ _ h => h))
  have Bn : Blk w2 (w.heap.size + 1) 120 (ndCells 2 493 1 1) := by
    have := Blk.new (w.alloc (.cells (ndCells 0 0 0 0).toArray 120)) 120 (ndCells 2 493 1 1)
    rw [show (w.alloc (.cells (ndCells 0 0 0 0).toArray 120)).heap.size = w.heap.size + 1 by simp] at this
    exact Blk.chg (F := Nil) this.drew c2 (fun h => h)
  have Br : Blk w2 w.heap.size 120 (ndCells 0 0 0 0) := Blk.chg (F := Nil) ((Blk.new w 120 (ndCells 0 0 0 0)).alloc _).drew c2 (fun h => h)
  have W3 := Bn.set 7 (.slice none 0 0)
  rw [show (ndCells 2 493 1 1).set 7 (.slice none 0 0) = ndCells 2 493 1 1 from rfl] at W3
  have L3 := load_blk (P := Tryz.prog) W3 Tryz.underlying120 rfl (by kernel_rfl)
  have n7 := Bn.cell 7
  have f7 := Bn.frozen 7
  simp only [ndCells, List.getElem?_cons_succ, List.getElem?_cons_zero] at n7
  have C3 := hid (C1.out.setCell (p := ⟨w.heap.size + 1, 7, none⟩) (.inr (by simp)) (.slice none 0 0))
  have Br3 := hid (Br.far (p := ⟨w.heap.size + 1, 7, none⟩) (by simp) (.slice none 0 0))
  replace W3 := hid W3
  clear Bn c2 Br C1 k0 k1 k2 k3 k4 k5 k6 k7 k8
  go_wp2_with (refine wpList_load_run L3 (by rfl) (by rfl) (by rfl) ?_)
  refine (ndpack_1 _).mono ?_
  rintro e w4 ⟨a4, c4, G4, rfl, s4, cc4, g4⟩
  have W4 := W3.out.chg cc4 (fun h => h)
  have R4 := Br3.out.chg cc4 (fun h => h)
  have C4 := hid (C3.out.trans cc4 (fun _ _ h => h))
  have h4 := H.out.chg C4.out (fun _ _ _ h => h)
  have heq : eqI (ndB 2 493 1 1) (ndB 2 493 1 1) = true := eqI_true rfl
  have HE := hid (equal_by _ _ _ _ 32 _ 32 _ _ _ w4 s4.rd h4 (by omega) (by omega))
  clear h4
  have L5 := hid (fun k => load_blk (P := Tryz.prog) (W4.drewN k) Tryz.underlying120 rfl (by kernel_rfl))
  have L6 := hid (fun k => store_blk (P := Tryz.prog) (ty := 120) (R4.drewN k) (vs := ndCells 2 493 1 1) rfl (by kernel_rfl) (ndR_one (2, 493, 1, 1)))
  clear W4 R4 L3 s4 cc4 g4
  go_wp2_with (first | (go_at_call 10; refine HE.out.mono ?_; rintro e w5 ⟨rfl, k, rfl⟩) | (refine wpList_load_run (L5.out _) (by rfl) (by rfl) (by rfl) ?_) | (refine wpList_store_run (L6.out _).1 (by rfl) (by rfl) (by rfl) (by rfl) ?_))
  refine bodyPost_ret (results_blk2 rfl (L6.out _).2 rfl Tryz.underlying120 rfl (by kernel_rfl)) rfl ?_
  exact ⟨rfl, (C4.out.drewN _).trans (setCells_chg _ _ 0 _ (One w.heap.size) rfl) (fun k hk hh => by rw [show k = w.heap.size from hh] at hk; omega)⟩
end Go.Proofs.YtdcbagmgflcemaaGreatDoor
namespace Go.Proofs.YtdcbagmgflcemaaGreatDoor
open Go.ChangeShapes Go.WideShapes Go.ChangeAt Go.RowKit
set_option linter.unusedVariables false
/-- n cells, told by place. -/
def tab (n : Nat) (f : Nat → Value) : List Value := (List.range n).map f
theorem tab_len (n : Nat) (f : Nat → Value) : (tab n f).length = n := by simp [tab]
theorem tab_get {n i : Nat} (f : Nat → Value) (h : i < n) : (tab n f)[i]? = some (f i) := by simp [tab, h]
theorem tab_ext {n : Nat} {f g : Nat → Value} (h : ∀ i, i < n → f i = g i) : tab n f = tab n g := by
  unfold tab
  exact List.map_congr_left (fun i hi => h i (by simpa using hi))
theorem tab_of {n : Nat} {f : Nat → Value} {l : List Value} (hl : l.length = n) (h : ∀ i, i < n → l[i]? = some (f i)) : l = tab n f := by
  apply List.ext_getElem?
  intro i
  by_cases hi : i < n
  · rw [h i hi, tab_get f hi]
  · rw [List.getElem?_eq_none (by omega), List.getElem?_eq_none (by rw [tab_len]; omega)]
theorem tab_set {n i : Nat} {f : Nat → Value} {v : Value} (h : i < n) : (tab n f).set i v = tab n (fun j => if j = i then v else f j) := by
  refine tab_of (by rw [List.length_set, tab_len]) (fun j hj => ?_)
  rw [List.getElem?_set, tab_len]
  by_cases hji : i = j
  · subst hji
    rw [if_pos rfl, if_pos h, if_pos rfl]
  · rw [if_neg hji, tab_get f hj, if_neg (fun hh => hji hh.symm)]
theorem tab_part {n lo m : Nat} {f : Nat → Value} (h : lo + m ≤ n) : part_ (tab n f) lo m = tab m (fun i => f (lo + i)) :=
  tab_of (part_len (by rw [tab_len]; omega)) (fun j hj => by rw [part_get (by rw [tab_len]; omega) hj, tab_get f (by omega)])
theorem tab_over {n lo m : Nat} {f g : Nat → Value} (h : lo + m ≤ n) : over_ (tab n f) lo (tab m g) = tab n (fun i => if lo ≤ i ∧ i < lo + m then g (i - lo) else f i) := by
  refine tab_of (by rw [over_len (by rw [tab_len, tab_len]; omega), tab_len]) (fun j hj => ?_)
  rw [over_get (by rw [tab_len, tab_len]; omega), tab_len]
  by_cases h1 : j < lo
  · rw [if_pos h1, tab_get f hj, if_neg (by omega)]
  · rw [if_neg h1]
    by_cases h2 : j < lo + m
    · rw [if_pos h2, tab_get g (by omega), if_pos ⟨by omega, h2⟩]
    · rw [if_neg h2, tab_get f hj, if_neg (by omega)]
theorem tab_one {n : Nat} {f : Nat → Value} (h : ∀ i, i < n → (f i).oneCell' = true) : ∀ u ∈ tab n f, u.oneCell' = true := by
  intro u hu
  unfold tab at hu
  obtain ⟨i, hi, rfl⟩ := List.mem_map.1 hu
  exact h i (by simpa using hi)
section
variable {w : World} {p n : Nat} {t : TypeId} {f : Nat → Value}
theorem Blk.tabSet (h : Blk w p t (tab n f)) {i : Nat} (hi : i < n) (v : Value) : Blk (w.setCell ⟨p, i, none⟩ v) p t (tab n (fun j => if j = i then v else f j)) := by
  have := h.set i v
  rwa [tab_set hi] at this
theorem Blk.tabCell (h : Blk w p t (tab n f)) {i : Nat} (hi : i < n) : w.cell? ⟨p, i, none⟩ = some (f i) := by rw [h.cell, tab_get f hi]
theorem Blk.tabEq {g : Nat → Value} (h : Blk w p t (tab n f)) (he : ∀ i, i < n → f i = g i) : Blk w p t (tab n g) := by rwa [← tab_ext he]
end
end Go.Proofs.YtdcbagmgflcemaaGreatDoor
