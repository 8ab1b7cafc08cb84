/- The contract of math/bits.Len32 at a number below 256 (after the shelf's template of it). -/
import Derived.Test.YtipmjfpoglkiaaaBase
import Derived.Lib.BitFns
namespace Go.Proofs.Ytipmjfpoglkiaaa
set_option linter.unusedVariables false
theorem tab_size : Lib.len8tab.size = 256 := by decide +kernel
theorem tab_at (b : Nat) (hb : b < 256) : (Lib.len8tab[b]'(tab_size ▸ hb)).toNat = Lib.bitLen b ∧ Lib.bitLen b ≤ 8 := by
  have : ∀ b : Fin 256, (Lib.len8tab[b.val]?.map UInt8.toNat) = some (Lib.bitLen b.val) ∧ Lib.bitLen b.val ≤ 8 := by decide +kernel
  obtain ⟨h1, h2⟩ := this ⟨b, hb⟩
  refine ⟨?_, h2⟩
  have hs : b < Lib.len8tab.size := tab_size ▸ hb
  rw [getElem?_pos Lib.len8tab b hs] at h1
  simpa using h1
set_option maxHeartbeats 4000000 in
set_option maxRecDepth 100000 in
theorem len32_x (x : Int) (w : World) (h0 : 0 ≤ x) (h1 : x < 256) :
    Calls Try.prog 51 #[.int .u32 x] w fun e w' => e = .returned (.int .i64 (Lib.bitLen x.toNat)) ∧ w = w' := by
  go_enter Try.func51, Try.ntmps51
  go_wp2
  all_goals (go_ret; refine ⟨congrArg Ending.returned (congrArg (Value.int IntKind.i64) ?_), rfl⟩)
  obtain ⟨b, rfl⟩ : ∃ b : Nat, x = b := ⟨x.toNat, by omega⟩
  obtain ⟨t1, t2⟩ := tab_at b (by omega)
  simp only [Int.toNat_natCast] at *
  rw [t1, IntWalk.wrap64_in (Lib.bitLen b : Int) (by omega), IntWalk.wrap64_in (Lib.bitLen b : Int) (by omega)]
/-- The place of the highest bit. -/
def topB (b : Nat) : Nat := Lib.bitLen b - 1
theorem topB_ok (b : Nat) (hb : b < 256) (h0 : b ≠ 0) : Lib.bitLen b = topB b + 1 ∧ topB b < 8 ∧ b / 2 ^ topB b = 1 ∧ b.testBit (topB b) = true ∧ ∀ i, i < 8 → topB b < i → b.testBit i = false := by
  have : ∀ b : Fin 256, b.val ≠ 0 → Lib.bitLen b.val = topB b.val + 1 ∧ topB b.val < 8 ∧ b.val / 2 ^ topB b.val = 1 ∧ b.val.testBit (topB b.val) = true ∧ ∀ i : Fin 8, topB b.val < i.val → b.val.testBit i.val = false := by decide +kernel
  obtain ⟨h1, h2, h3, h4, h5⟩ := this ⟨b, hb⟩ h0
  exact ⟨h1, h2, h3, h4, fun i hi => h5 ⟨i, hi⟩⟩
end Go.Proofs.Ytipmjfpoglkiaaa
