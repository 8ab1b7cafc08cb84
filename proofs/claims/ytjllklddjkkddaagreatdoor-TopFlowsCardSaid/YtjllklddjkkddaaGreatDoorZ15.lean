/- Contracts of package inode at no node, and at the root of an empty file system. Conditions: just these. -/
import Derived.Test.YtjllklddjkkddaaGreatDoorZ10
namespace Go.Proofs.YtjllklddjkkddaaGreatDoor
open Go.ChangeShapes Go.WideShapes Go.ChangeAt Go.RowKit
set_option linter.unusedVariables false
/-- A node without sectors. -/
def ndV (k m l u : Int) : Value := .agg #[.int .i64 k, .int .i64 m, .int .i64 0, .int .i64 0, .int .i64 0, .int .i64 l, .int .i64 u, .slice none 0 0]
def ndCells (k m l u : Int) : List Value := [.int .i64 k, .int .i64 m, .int .i64 0, .int .i64 0, .int .i64 0, .int .i64 l, .int .i64 u, .slice none 0 0]
/-- Its bytes. -/
def ndB (k m l u : Nat) : List Int := [(k : Int), ((m % 256 : Nat) : Int), ((m / 256 : Nat) : Int), 0, 0, 0, 0, (l : Int), (u : Int)] ++ List.replicate 23 0
theorem blocks_0 (w : World) : Calls Tryz.prog 131 #[.int .i64 0] w fun e w' => e = .returned (.int .i64 0) ∧ w = w' := by
  go_enter Tryz.func131, Tryz.ntmps131
  go_wp2
  go_ret
  exact ⟨rfl, rfl⟩
set_option maxRecDepth 100000 in
theorem ndright_0 (w : World) : Calls Tryz.prog 110 #[ndV 0 0 0 0] w fun e w' => e = .returned (.int .i64 0) ∧ Chg Nil w w' := by
  show Calls Tryz.prog 110 #[.agg #[.int .i64 0, .int .i64 0, .int .i64 0, .int .i64 0, .int .i64 0, .int .i64 0, .int .i64 0, .slice none 0 0]] w _
  go_enter Tryz.func110, Tryz.ntmps110
  go_wp2
  go_ret
  exact ⟨rfl, (Chg.refl Nil w).alloc _⟩
set_option maxRecDepth 100000 in
theorem ndright_1 (w : World) : Calls Tryz.prog 110 #[ndV 2 493 1 1] w fun e w' => e = .returned (.int .i64 0) ∧ Chg Nil w w' := by
  show Calls Tryz.prog 110 #[.agg #[.int .i64 2, .int .i64 493, .int .i64 0, .int .i64 0, .int .i64 0, .int .i64 1, .int .i64 1, .slice none 0 0]] w _
  go_enter Tryz.func110, Tryz.ntmps110
  go_wp2_with (go_at_call 190; refine (xright_nil _).mono ?_; rintro e w' ⟨rfl, rfl⟩)
  go_region_law (go_simp; go_at_call 131; refine (blocks_0 _).mono ?_; rintro e w' ⟨rfl, rfl⟩)
  all_goals
    go_wp2
    go_ret
    exact ⟨rfl, ((Chg.refl Nil w).alloc _).drew⟩
set_option maxRecDepth 100000 in
theorem ndpack_0 (w : World) : Calls Tryz.prog 46 #[ndV 0 0 0 0] w fun e w' => ∃ a c G, e = .returned (.tuple #[.slice a 32 c, .int .i64 0]) ∧ Sl w' 5 1 a 32 c (bys (List.replicate 32 0)) G ∧ Chg Nil w w' ∧ ∀ g, G = some g → w.heap.size ≤ g := by
  have hmk := mk_bytes 32 (by omega) 32 rfl
  show Calls Tryz.prog 46 #[.agg #[.int .i64 0, .int .i64 0, .int .i64 0, .int .i64 0, .int .i64 0, .int .i64 0, .int .i64 0, .slice none 0 0]] w _
  have HR := fun w => ndright_0 w
  unfold ndV at HR
  have B0 := Blk.new w 128 (ndCells 0 0 0 0)
  go_enter Tryz.func46, Tryz.ntmps46
  go_wp2_with (go_at_call 110; refine (HR _).mono ?_; rintro e w1 ⟨rfl, c1⟩; have d0 : w1.cell? ⟨w.heap.size, 0, none⟩ = some (.int .i64 0) := (B0.chg c1 (fun h => h)).cell 0; have d0' : (w1.alloc (.cells (zr 32).toArray 5)).cell? ⟨w.heap.size, 0, none⟩ = some (.int .i64 0) := ((B0.chg c1 (fun h => h)).alloc (.cells (zr 32).toArray 5)).cell 0; replace c1 := hid c1)
  go_ret2
  have s1 := zr_sl w1 32 (by omega)
  rw [zr_bys] at s1
  exact ⟨_, 32, _, rfl, s1, (((Chg.refl Nil w).alloc _).trans c1.out (fun _ _ h => h)).alloc _, fun g hg => by injection hg with hg; have := c1.out.size; simp at this; omega⟩
end Go.Proofs.YtjllklddjkkddaaGreatDoor
