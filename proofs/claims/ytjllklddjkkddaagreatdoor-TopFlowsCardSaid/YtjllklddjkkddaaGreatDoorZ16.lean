/- The nodes of an empty file system; orphan.Lost of them. Conditions: just these nodes · Contracts of package inode: Unpack of no node, and of the root of an empty file system. Conditions: just these · Contracts of package inode: Unpack of the root of an empty file system. Conditions: just these. -/
import Derived.Test.YtjllklddjkkddaaGreatDoorZ12
import Derived.Test.YtjllklddjkkddaaGreatDoorZ10
import Derived.Test.YtjllklddjkkddaaGreatDoorZ11
namespace Go.Proofs.YtjllklddjkkddaaGreatDoor
open Go.ChangeShapes Go.WideShapes Go.ChangeAt Go.RowKit
set_option linter.unusedVariables false
/-- The node that stands at a place. -/
def ndQ (j : Nat) : Nat × Nat × Nat × Nat := if j = 0 then (2, 493, 1, 1) else (0, 0, 0, 0)
theorem ndQ_two (j : Nat) : ndQ j = (2, 493, 1, 1) ∨ ndQ j = (0, 0, 0, 0) := by unfold ndQ; split <;> simp
def ndR (x : Nat × Nat × Nat × Nat) : List Value := ndCells x.1 x.2.1 x.2.2.1 x.2.2.2
def ndL (k : Nat) : List (Nat × Nat × Nat × Nat) := (List.range k).map ndQ
theorem ndL_len (k : Nat) : (ndL k).length = k := by simp [ndL]
theorem ndL_get {k j : Nat} (h : j < (ndL k).length) : (ndL k)[j] = ndQ j := by simp [ndL]
theorem ndL_succ (k : Nat) : ndL (k + 1) = ndL k ++ [ndQ k] := by simp [ndL, List.range_succ]
theorem ndR_len (x : Nat × Nat × Nat × Nat) : (ndR x).length = 8 := rfl
theorem ndR_one (x : Nat × Nat × Nat × Nat) : ∀ u ∈ ndR x, u.oneCell' = true := by
  intro u hu
  simp only [ndR, ndCells, List.mem_cons, List.not_mem_nil, or_false] at hu
  rcases hu with rfl | rfl | rfl | rfl | rfl | rfl | rfl | rfl <;> rfl
set_option maxRecDepth 100000 in
theorem lost_ok (w : World) (R : Nat → Prop) (a : Option Addr) (c : Nat) (h : Rd w R 8 a 32 c ((ndL 32).flatMap ndR)) :
    Calls Tryz.prog 55 #[.slice a 32 c, .slice none 0 0] w fun e w' => e = .returned (.slice none 0 0) ∧ Chg Nil w w' := by
  have H := hid h
  clear h
  go_enter Tryz.func55, Tryz.ntmps55
  go_wp2
  go_loopw [5, 10] (fun s5 i wr => ∃ k : Nat, k ≤ 32 ∧ s5 = .slice none 0 0 ∧ i = .int .i64 k ∧ Hid (Chg Nil w wr)) (fun _ i _ => 32 - (intOf i).toNat)
  case atStart => exact ⟨0, by omega, rfl, rfl, Chg.refl Nil w⟩
  case round =>
    obtain ⟨k, hk, rfl, rfl, hc⟩ := hrel
    by_cases hlt : k < 32
    · have h1 := H.out.chg hc.out (fun _ _ _ h => h)
      obtain ⟨g, off, rfl, _, _, he⟩ := h1.elem (f := ndR) ndR_len (ndL_len 32).symm (by omega)
      have he' := fun i hi => he k (by rw [ndL_len]; exact hlt) i hi
      simp only [ndL_get] at he'
      have e0 := he' 0 (by omega)
      have e1 := he' 1 (by omega)
      have e2 := he' 2 (by omega)
      have e3 := he' 3 (by omega)
      have e4 := he' 4 (by omega)
      have e5 := he' 5 (by omega)
      have e6 := he' 6 (by omega)
      have e7 := he' 7 (by omega)
      clear he he' h1
      rcases ndQ_two k with hq | hq
      all_goals
        simp only [hq, ndR, ndCells, List.getElem?_cons_succ, List.getElem?_cons_zero, Nat.add_zero] at e0 e1 e2 e3 e4 e5 e6 e7
        clear hq
        go_wp2
        go_roundw
        case rel => exact ⟨k + 1, by omega, rfl, by go_num, hc.out.alloc _⟩
        case measure => simp [intOf]; omega
    · go_wp2
      go_ret
      exact ⟨rfl, hc.out⟩
end Go.Proofs.YtjllklddjkkddaaGreatDoor
namespace Go.Proofs.YtjllklddjkkddaaGreatDoor
open Go.ChangeShapes Go.WideShapes Go.ChangeAt Go.RowKit
set_option linter.unusedVariables false
set_option maxRecDepth 100000 in
set_option maxHeartbeats 4000000 in
theorem ndunpack_0 (w : World) (R : Nat → Prop) (b : Option Addr) (c : Nat) (h : Rd w R 1 b 32 c (zr 32)) :
    Calls Tryz.prog 115 #[.slice b 32 c] w fun e w' => e = .returned (.tuple #[ndV 0 0 0 0, .int .i64 0]) ∧ Chg Nil w w' := by
  obtain ⟨g, off, rfl, hgl, _, hc⟩ := h.cellAt (by omega)
  have HP := fun w => ndpack_0 w
  unfold ndV at HP ⊢
  have k0 := hc 0 (by omega)
  have k1 := hc 1 (by omega)
  have k2 := hc 2 (by omega)
  have k3 := hc 3 (by omega)
  have k4 := hc 4 (by omega)
  have k5 := hc 5 (by omega)
  have k6 := hc 6 (by omega)
  have k7 := hc 7 (by omega)
  have k8 := hc 8 (by omega)
  rw [zr_get (by omega)] at k0 k1 k2 k3 k4 k5 k6 k7 k8
  rw [Nat.add_zero] at k0
  have hcap : 32 ≤ c := h.1
  have i0 : IntKind.i64.wrap 0 = 0 := by rfl
  have HX : ∀ (w' : World), Chg Nil w w' → Rd w' R 1 (some ⟨g, off + 9, none⟩) 16 (c - 9) (zr 16) := fun w' hw => by
    have := (h.chg hw (fun _ _ _ h => h)).sub (lo := 9) (k := 16) (by omega)
    exact this
  replace HX := hid HX
  have H := hid h
  clear h hc
  go_enter Tryz.func115, Tryz.ntmps115
  go_wp2
  go_region_held3 (fun w' => w'.cell? ⟨g, off, none⟩ = some (.int .u8 0) ∧ w'.cell? ⟨g, off + 1, none⟩ = some (.int .u8 0) ∧ w'.cell? ⟨g, off + 2, none⟩ = some (.int .u8 0) ∧ w'.cell? ⟨g, off + 3, none⟩ = some (.int .u8 0) ∧ w'.cell? ⟨g, off + 4, none⟩ = some (.int .u8 0) ∧ w'.cell? ⟨g, off + 5, none⟩ = some (.int .u8 0) ∧ w'.cell? ⟨g, off + 6, none⟩ = some (.int .u8 0) ∧ w'.cell? ⟨g, off + 7, none⟩ = some (.int .u8 0) ∧ w'.cell? ⟨g, off + 8, none⟩ = some (.int .u8 0)) (go_keep) (fail)
  go_wp2_with fail
  have o0 : bits BinOp.or IntKind.i64 0 0 = 0 := by kernel_rfl
  rw [o0]
  refine (xunpack_zero _ _ _ _ (HX.out _ (((Chg.refl Nil w).alloc _).alloc _).drew)).mono ?_
  rintro e w2 ⟨rfl, c2⟩
  have C1 := hid ((((Chg.refl Nil w).alloc (.cells (ndCells 0 0 0 0).toArray 128)).alloc (.cells (ndCells 0 0 0 0).toArray 128)).drew.trans c2 (fun _ _ h => h))
  have Bn : Blk w2 (w.heap.size + 1) 128 (ndCells 0 0 0 0) := by
    have := Blk.new (w.alloc (.cells (ndCells 0 0 0 0).toArray 128)) 128 (ndCells 0 0 0 0)
    rw [show (w.alloc (.cells (ndCells 0 0 0 0).toArray 128)).heap.size = w.heap.size + 1 by simp] at this
    exact Blk.chg (F := Nil) this.drew c2 (fun h => h)
  have Br : Blk w2 w.heap.size 128 (ndCells 0 0 0 0) := Blk.chg (F := Nil) ((Blk.new w 128 (ndCells 0 0 0 0)).alloc _).drew c2 (fun h => h)
  have W3 := Bn.set 7 (.slice none 0 0)
  rw [show (ndCells 0 0 0 0).set 7 (.slice none 0 0) = ndCells 0 0 0 0 from rfl] at W3
  have L3 := load_blk (P := Tryz.prog) W3 Tryz.underlying128 rfl (by kernel_rfl)
  have n7 := Bn.cell 7
  have f7 := Bn.frozen 7
  simp only [ndCells, List.getElem?_cons_succ, List.getElem?_cons_zero] at n7
  have C3 := hid (C1.out.setCell (p := ⟨w.heap.size + 1, 7, none⟩) (.inr (by simp)) (.slice none 0 0))
  have Br3 := hid (Br.far (p := ⟨w.heap.size + 1, 7, none⟩) (by simp) (.slice none 0 0))
  replace W3 := hid W3
  clear Bn c2 Br C1 k0 k1 k2 k3 k4 k5 k6 k7 k8
  go_wp2_with (refine wpList_load_run L3 (by rfl) (by rfl) (by rfl) ?_)
  refine (ndpack_0 _).mono ?_
  rintro e w4 ⟨a4, c4, G4, rfl, s4, cc4, g4⟩
  have W4 := W3.out.chg cc4 (fun h => h)
  have R4 := Br3.out.chg cc4 (fun h => h)
  have C4 := hid (C3.out.trans cc4 (fun _ _ h => h))
  have h4 := H.out.chg C4.out (fun _ _ _ h => h)
  rw [zr_bys 32] at h4
  have HE := hid (equal_by _ _ _ _ 32 _ 32 _ _ _ w4 s4.rd h4 (by omega) (by omega))
  clear h4
  have L5 := hid (fun k => load_blk (P := Tryz.prog) (W4.drewN k) Tryz.underlying128 rfl (by kernel_rfl))
  have L6 := hid (fun k => store_blk (P := Tryz.prog) (ty := 128) (R4.drewN k) (vs := ndCells 0 0 0 0) rfl (by kernel_rfl) (ndR_one (0, 0, 0, 0)))
  clear W4 R4 L3 s4 cc4 g4
  go_wp2_with (first | (go_at_call 50; refine HE.out.mono ?_; rintro e w5 ⟨rfl, k, rfl⟩) | (refine wpList_load_run (L5.out _) (by rfl) (by rfl) (by rfl) ?_) | (refine wpList_store_run (L6.out _).1 (by rfl) (by rfl) (by rfl) (by rfl) ?_))
  refine bodyPost_ret (results_blk2 rfl (L6.out _).2 rfl Tryz.underlying128 rfl (by kernel_rfl)) rfl ?_
  exact ⟨rfl, (C4.out.drewN _).trans (setCells_chg _ _ 0 _ (One w.heap.size) rfl) (fun k hk hh => by rw [show k = w.heap.size from hh] at hk; omega)⟩
end Go.Proofs.YtjllklddjkkddaaGreatDoor
namespace Go.Proofs.YtjllklddjkkddaaGreatDoor
open Go.ChangeShapes Go.WideShapes Go.ChangeAt Go.RowKit
set_option linter.unusedVariables false
set_option maxRecDepth 100000 in
set_option maxHeartbeats 4000000 in
theorem ndunpack_1 (w : World) (R : Nat → Prop) (b : Option Addr) (c : Nat) (h : Rd w R 1 b 32 c (bys (ndB 2 493 1 1))) :
    Calls Tryz.prog 115 #[.slice b 32 c] w fun e w' => e = .returned (.tuple #[ndV 2 493 1 1, .int .i64 0]) ∧ Chg Nil w w' := by
  obtain ⟨g, off, rfl, hgl, _, hc⟩ := h.cellAt (by omega)
  have HP := fun w => ndpack_1 w
  unfold ndV at HP ⊢
  have k0 := hc 0 (by omega)
  have k1 := hc 1 (by omega)
  have k2 := hc 2 (by omega)
  have k3 := hc 3 (by omega)
  have k4 := hc 4 (by omega)
  have k5 := hc 5 (by omega)
  have k6 := hc 6 (by omega)
  have k7 := hc 7 (by omega)
  have k8 := hc 8 (by omega)
  rw [show (bys (ndB 2 493 1 1))[0]? = some (.int .u8 2) from rfl] at k0
  rw [show (bys (ndB 2 493 1 1))[1]? = some (.int .u8 237) from rfl] at k1
  rw [show (bys (ndB 2 493 1 1))[2]? = some (.int .u8 1) from rfl] at k2
  rw [show (bys (ndB 2 493 1 1))[3]? = some (.int .u8 0) from rfl] at k3
  rw [show (bys (ndB 2 493 1 1))[4]? = some (.int .u8 0) from rfl] at k4
  rw [show (bys (ndB 2 493 1 1))[5]? = some (.int .u8 0) from rfl] at k5
  rw [show (bys (ndB 2 493 1 1))[6]? = some (.int .u8 0) from rfl] at k6
  rw [show (bys (ndB 2 493 1 1))[7]? = some (.int .u8 1) from rfl] at k7
  rw [show (bys (ndB 2 493 1 1))[8]? = some (.int .u8 1) from rfl] at k8
  rw [Nat.add_zero] at k0
  have hcap : 32 ≤ c := h.1
  have i0 : IntKind.i64.wrap 0 = 0 := by rfl
  have HX : ∀ (w' : World), Chg Nil w w' → Rd w' R 1 (some ⟨g, off + 9, none⟩) 16 (c - 9) (zr 16) := fun w' hw => by
    have := (h.chg hw (fun _ _ _ h => h)).sub (lo := 9) (k := 16) (by omega)
    exact this
  replace HX := hid HX
  have H := hid h
  clear h hc
  go_enter Tryz.func115, Tryz.ntmps115
  go_wp2
  go_region_held3 (fun w' => w'.cell? ⟨g, off, none⟩ = some (.int .u8 2) ∧ w'.cell? ⟨g, off + 1, none⟩ = some (.int .u8 237) ∧ w'.cell? ⟨g, off + 2, none⟩ = some (.int .u8 1) ∧ w'.cell? ⟨g, off + 3, none⟩ = some (.int .u8 0) ∧ w'.cell? ⟨g, off + 4, none⟩ = some (.int .u8 0) ∧ w'.cell? ⟨g, off + 5, none⟩ = some (.int .u8 0) ∧ w'.cell? ⟨g, off + 6, none⟩ = some (.int .u8 0) ∧ w'.cell? ⟨g, off + 7, none⟩ = some (.int .u8 1) ∧ w'.cell? ⟨g, off + 8, none⟩ = some (.int .u8 1)) (go_keep) (fail)
  go_wp2_with fail
  have o0 : bits BinOp.or IntKind.i64 0 0 = 0 := by kernel_rfl
  have o1 : bits BinOp.or IntKind.i64 237 256 = 493 := by kernel_rfl
  rw [o0, o1]
  refine (xunpack_zero _ _ _ _ (HX.out _ (((Chg.refl Nil w).alloc _).alloc _).drew)).mono ?_
  rintro e w2 ⟨rfl, c2⟩
  have C1 := hid ((((Chg.refl Nil w).alloc (.cells (ndCells 0 0 0 0).toArray 128)).alloc (.cells (ndCells 2 493 1 1).toArray 128)).drew.trans c2 (fun _ _ h => h))
  have Bn : Blk w2 (w.heap.size + 1) 128 (ndCells 2 493 1 1) := by
    have := Blk.new (w.alloc (.cells (ndCells 0 0 0 0).toArray 128)) 128 (ndCells 2 493 1 1)
    rw [show (w.alloc (.cells (ndCells 0 0 0 0).toArray 128)).heap.size = w.heap.size + 1 by simp] at this
    exact Blk.chg (F := Nil) this.drew c2 (fun h => h)
  have Br : Blk w2 w.heap.size 128 (ndCells 0 0 0 0) := Blk.chg (F := Nil) ((Blk.new w 128 (ndCells 0 0 0 0)).alloc _).drew c2 (fun h => h)
  have W3 := Bn.set 7 (.slice none 0 0)
  rw [show (ndCells 2 493 1 1).set 7 (.slice none 0 0) = ndCells 2 493 1 1 from rfl] at W3
  have L3 := load_blk (P := Tryz.prog) W3 Tryz.underlying128 rfl (by kernel_rfl)
  have n7 := Bn.cell 7
  have f7 := Bn.frozen 7
  simp only [ndCells, List.getElem?_cons_succ, List.getElem?_cons_zero] at n7
  have C3 := hid (C1.out.setCell (p := ⟨w.heap.size + 1, 7, none⟩) (.inr (by simp)) (.slice none 0 0))
  have Br3 := hid (Br.far (p := ⟨w.heap.size + 1, 7, none⟩) (by simp) (.slice none 0 0))
  replace W3 := hid W3
  clear Bn c2 Br C1 k0 k1 k2 k3 k4 k5 k6 k7 k8
  go_wp2_with (refine wpList_load_run L3 (by rfl) (by rfl) (by rfl) ?_)
  refine (ndpack_1 _).mono ?_
  rintro e w4 ⟨a4, c4, G4, rfl, s4, cc4, g4⟩
  have W4 := W3.out.chg cc4 (fun h => h)
  have R4 := Br3.out.chg cc4 (fun h => h)
  have C4 := hid (C3.out.trans cc4 (fun _ _ h => h))
  have h4 := H.out.chg C4.out (fun _ _ _ h => h)
  have heq : eqI (ndB 2 493 1 1) (ndB 2 493 1 1) = true := eqI_true rfl
  have HE := hid (equal_by _ _ _ _ 32 _ 32 _ _ _ w4 s4.rd h4 (by omega) (by omega))
  clear h4
  have L5 := hid (fun k => load_blk (P := Tryz.prog) (W4.drewN k) Tryz.underlying128 rfl (by kernel_rfl))
  have L6 := hid (fun k => store_blk (P := Tryz.prog) (ty := 128) (R4.drewN k) (vs := ndCells 2 493 1 1) rfl (by kernel_rfl) (ndR_one (2, 493, 1, 1)))
  clear W4 R4 L3 s4 cc4 g4
  go_wp2_with (first | (go_at_call 50; refine HE.out.mono ?_; rintro e w5 ⟨rfl, k, rfl⟩) | (refine wpList_load_run (L5.out _) (by rfl) (by rfl) (by rfl) ?_) | (refine wpList_store_run (L6.out _).1 (by rfl) (by rfl) (by rfl) (by rfl) ?_))
  refine bodyPost_ret (results_blk2 rfl (L6.out _).2 rfl Tryz.underlying128 rfl (by kernel_rfl)) rfl ?_
  exact ⟨rfl, (C4.out.drewN _).trans (setCells_chg _ _ 0 _ (One w.heap.size) rfl) (fun k hk hh => by rw [show k = w.heap.size from hh] at hk; omega)⟩
end Go.Proofs.YtjllklddjkkddaaGreatDoor
