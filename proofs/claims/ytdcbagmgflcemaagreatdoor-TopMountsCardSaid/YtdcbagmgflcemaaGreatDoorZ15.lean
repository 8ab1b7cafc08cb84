/- Contracts of package journal where nothing was told. Conditions: a disk of at least 64 sectors; sector 5 begins with bytes 0. -/
import Derived.Test.YtdcbagmgflcemaaGreatDoorZ10
import Derived.Handy
namespace Go.Proofs.YtdcbagmgflcemaaGreatDoor
open Go.ChangeShapes Go.WideShapes Go.ChangeAt Go.RowKit
set_option linter.unusedVariables false
theorem jregion_ok (w : World) (F : Nat → Prop) (p n : Nat) (zs : List Int) (m : Nat) (h : DkAt w F p n zs m) (hn : 64 ≤ n) :
    Calls Tryz.prog 192 #[.pointer (some ⟨p, 0, none⟩), .int .i64 5, .int .i64 32] w fun e w' => e = .returned (.int .i64 0) ∧ w = w' := by
  have HS := hid (dksize_ok w F p n zs m h)
  have n2 := h.bd.2
  have i1 : ¬ ((n : Int) - 32 < 5) := by omega
  clear h
  go_enter Tryz.func192, Tryz.ntmps192
  go_wp2_with (go_at_call 43; refine HS.out.mono ?_; rintro e w' ⟨rfl, rfl⟩)
  go_ret
  exact ⟨rfl, rfl⟩
set_option maxRecDepth 100000 in
theorem jscan_ok (w : World) (F : Nat → Prop) (p n : Nat) (zs : List Int) (m : Nat) (h : DkAt w F p n zs m) (hn : 64 ≤ n) (h0 : secS zs 5 = List.replicate 64 0) :
    Calls Tryz.prog 112 #[.pointer (some ⟨p, 0, none⟩), .int .i64 5, .int .i64 32] w fun e w' => e = .returned (.tuple #[.slice none 0 0, .int .u32 0, .bool false, .int .i64 0]) ∧ Chg Nil w w' := by
  have HG := hid (jregion_ok w F p n zs m h hn)
  have HR := dkread_ok w F p n zs m h 5 (by omega)
  rw [h0] at HR
  replace HR := hid HR
  clear h h0
  go_enter Tryz.func112, Tryz.ntmps112
  go_wp2_with (go_at_call 192; refine HG.out.mono ?_; rintro e w' ⟨rfl, rfl⟩)
  refine HR.out.mono ?_
  rintro e w1 ⟨a, c, G, rfl, s1, c1, g1⟩
  obtain ⟨g, off, rfl, _, _, hc⟩ := s1.rd.at (i := 0) (by simp)
  have k0 := hc 0 (by simp)
  have k5 := hc 5 (by simp)
  simp only [List.getElem_replicate, Nat.add_zero] at k0 k5
  have hcap := s1.1
  replace c1 := hid c1
  clear hc s1 g1
  go_wp2_with fail
  go_returns
  exact ⟨rfl, c1.out⟩
/-- A journal's words. -/
def lgCells (p : Nat) : List Value := [.pointer (some ⟨p, 0, none⟩), .int .i64 5, .int .i64 32, .int .u32 0]
set_option maxRecDepth 100000 in
theorem jopen_ok (w : World) (F : Nat → Prop) (p n : Nat) (zs : List Int) (m : Nat) (h : DkAt w F p n zs m) (hn : 64 ≤ n) (h0 : secS zs 5 = List.replicate 64 0) :
    Calls Tryz.prog 51 #[.pointer (some ⟨p, 0, none⟩), .int .i64 5, .int .i64 32] w fun e w' => ∃ q, e = .returned (.tuple #[.pointer (some ⟨q, 0, none⟩), .int .i64 0]) ∧ w.heap.size ≤ q ∧ Blk w' q 231 (lgCells p) ∧ Chg Nil w w' := by
  have HS := hid (jscan_ok w F p n zs m h hn h0)
  clear h h0
  go_enter Tryz.func51, Tryz.ntmps51
  go_wp2_with (go_at_call 112; refine HS.out.mono ?_; rintro e w1 ⟨rfl, c1⟩; replace c1 := hid c1)
  go_ret2
  exact ⟨w1.heap.size, rfl, c1.out.size, Blk.new w1 _ (lgCells p), c1.out.alloc _⟩
end Go.Proofs.YtdcbagmgflcemaaGreatDoor
