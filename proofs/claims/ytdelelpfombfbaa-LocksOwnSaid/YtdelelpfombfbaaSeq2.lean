/- slices.Sorted of slices.Values at ints: a new slice that holds what the slice held, sorted. Conditions: the slice is not too long. -/
import Derived.Test.YtdelelpfombfbaaSeq
import Derived.Test.YtdelelpfombfbaaSortJ
namespace Go.Proofs.Ytdelelpfombfbaa
open Go.ChangeShapes Go.WideShapes Go.ChangeAt Go.RowKit Go.Shelf
set_option linter.unusedVariables false
def PSeq (zs : List Int) (w : World) (e : Ending) (w' : World) : Prop := ∃ a c G, e = .returned (.slice a zs.length c) ∧ Sl w' 3 1 a zs.length c (ints .i64 zs) G ∧ Below w.heap.size w w' ∧ ∀ g, G = some g → w.heap.size ≤ g
theorem appendSeq_ok (Bs : Nat) (R : Nat → Prop) (a : Option Addr) (len cap : Nat) (zs : List Int) (hreach : len ≤ 1000000) (w : World) (hBs : Bs < w.heap.size) (hR : ∀ g, R g → g < w.heap.size)
    (hc : w.cell? ⟨Bs, 0, none⟩ = some (.slice a len cap)) (hI : Rd w R 1 a len cap (ints .i64 zs)) :
    Calls Try.prog 73 #[.slice none 0 0, .func (.func 69) #[] #[.pointer (some ⟨Bs, 0, none⟩)]] w (PSeq zs w) := by
  refine ((callsIn_wide (n := 5)).1 (appendSeq_in Bs R a len cap zs hreach w hBs hR hc hI)).mono ?_
  rintro e w' ⟨v, rfl, h1, h2⟩
  obtain ⟨a', c', G, rfl, q1, q2⟩ := sl_of_owns h1
  exact ⟨a', c', G, rfl, q1, h2, q2⟩
theorem collect_ok (Bs : Nat) (R : Nat → Prop) (a : Option Addr) (len cap : Nat) (zs : List Int) (hreach : len ≤ 1000000) (w : World) (hBs : Bs < w.heap.size) (hR : ∀ g, R g → g < w.heap.size)
    (hc : w.cell? ⟨Bs, 0, none⟩ = some (.slice a len cap)) (hI : Rd w R 1 a len cap (ints .i64 zs)) :
    Calls Try.prog 67 #[.func (.func 69) #[] #[.pointer (some ⟨Bs, 0, none⟩)]] w (PSeq zs w) := by
  have A := hid (appendSeq_ok Bs R a len cap zs hreach w hBs hR hc hI)
  clear hBs hR hc hI
  go_enter Try.func67, Try.ntmps67
  go_wp2_with fail
  refine A.out.mono ?_
  rintro e w1 ⟨a', c', G, rfl, q1, q2, q3⟩
  replace q1 := hid q1
  go_wp2
  go_ret
  exact ⟨a', c', G, rfl, q1.out, q2, q3⟩
theorem sorted_ok (Bs : Nat) (R : Nat → Prop) (a : Option Addr) (len cap : Nat) (zs : List Int) (hreach : len ≤ 1000000) (w : World) (hBs : Bs < w.heap.size) (hR : ∀ g, R g → g < w.heap.size)
    (hc : w.cell? ⟨Bs, 0, none⟩ = some (.slice a len cap)) (hI : Rd w R 1 a len cap (ints .i64 zs)) :
    Calls Try.prog 51 #[.func (.func 69) #[] #[.pointer (some ⟨Bs, 0, none⟩)]] w fun e w' => ∃ a' c' G, e = .returned (.slice a' zs.length c') ∧ Sl w' 3 1 a' zs.length c' (ints .i64 (sortI zs)) G ∧ Chg Nil w w' ∧ ∀ g, G = some g → w.heap.size ≤ g := by
  obtain rfl := hI.ilen
  have A := hid (collect_ok Bs R a _ cap zs hreach w hBs hR hc hI)
  clear hBs hR hc hI
  go_enter Try.func51, Try.ntmps51
  go_wp2_with fail
  refine A.out.mono ?_
  rintro e w1 ⟨a', c', G, rfl, q1, q2, q3⟩
  have SO := hid (sort_ints a' _ c' zs G w1 q1 (by omega))
  clear q1 A
  go_wp2_with fail
  refine SO.out.mono ?_
  rintro e w2 ⟨rfl, s1, s2⟩
  replace s1 := hid s1
  go_wp2
  go_ret
  exact ⟨a', c', G, rfl, s1.out, (Chg.of_below q2 Nil).trans s2 (fun i hi hG => by have := q3 i hG; omega), q3⟩
end Go.Proofs.Ytdelelpfombfbaa
