/- The contract of deadBegun: it returns true and changes nothing that was there. No condition. -/
import Derived.Test.YtoocjfolhghjoaaDead3
import Derived.Test.YtoocjfolhghjoaaCbsQ
namespace Go.Proofs.Ytoocjfolhghjoaa
open Go.ChangeShapes Go.WideShapes Go.ChangeAt Go.RowKit
set_option linter.unusedVariables false
def dx0 : DT := newT 1 1 2 0
def dx1 : DT := ⟨1, 1, 2, 0, 2, true, true⟩
def dx2 : DT := ⟨1, 1, 2, 1, 4, true, false⟩
theorem dx0_ok : ∀ x ∈ [dx0], DOk 0 x := fun x h => by rw [List.mem_singleton.1 h]; exact ok_new (by decide) (by decide) (by decide) (by decide) (by decide)
theorem dx1_ok : ∀ x ∈ [dx1], DOk 1 x := fun x h => by rw [List.mem_singleton.1 h]; exact ⟨by decide, by decide, by decide, by decide, by decide, by decide, by decide, by decide⟩
theorem dx2_ok : ∀ x ∈ [dx2], DOk 2 x := fun x h => by rw [List.mem_singleton.1 h]; exact ⟨by decide, by decide, by decide, by decide, by decide, by decide, by decide, by decide⟩
def Fresh (N : Nat) : Nat → Prop := fun k => N ≤ k
theorem dtick_yes (w : World) (F : Nat → Prop) (p now : Nat) (x y : DT) (n : Int) (h : DeadAt w F p now [x]) (hn : now ≤ 1073741824) (hok : ∀ z ∈ [x], DOk now z) (he : elig x = true) (hy : passT (now + 1) (runT x) = y) (ht : (x.t : Int) = n) :
    Calls Try.prog 25 #[.pointer (some ⟨p, 0, none⟩)] w fun e w' => e = .returned (.int .i64 n) ∧ DeadAt w' F p (now + 1) [y] ∧ Chg F w w' := by
  refine (dtick_ok w F p now [x] h (by simp) hn hok).mono ?_
  rintro e w' ⟨b, hb, rfl, h1, h2⟩
  obtain rfl := first_yes hb he
  subst hy
  subst ht
  exact ⟨rfl, h1, h2⟩
theorem dtick_no (w : World) (F : Nat → Prop) (p now : Nat) (x y : DT) (h : DeadAt w F p now [x]) (hn : now ≤ 1073741824) (hok : ∀ z ∈ [x], DOk now z) (he : elig x = false) (hy : passT (now + 1) x = y) :
    Calls Try.prog 25 #[.pointer (some ⟨p, 0, none⟩)] w fun e w' => e = .returned (.int .i64 0) ∧ DeadAt w' F p (now + 1) [y] ∧ Chg F w w' := by
  refine (dtick_ok w F p now [x] h (by simp) hn hok).mono ?_
  rintro e w' ⟨b, hb, rfl, h1, h2⟩
  obtain rfl := first_none hb he
  subst hy
  exact ⟨rfl, h1, h2⟩
theorem dbegun_ok (w : World) : Calls Try.prog 20 #[] w fun e w' => e = .returned (.bool true) ∧ Chg Nil w w' := by
  go_enter Try.func20, Try.ntmps20
  go_wp2_with fail
  refine (dnew_ok w).mono ?_
  rintro e w1 ⟨F, p, rfl, h1, c1, g1⟩
  replace h1 := hid h1
  replace c1 := hid c1
  replace g1 := hid g1
  go_wp2_with fail
  refine (dadd_ok w1 F p 0 [] 1 1 2 h1.out (by simp) (by omega) (by omega) (by omega) (by omega) (by omega) (by omega) (by simp)).mono ?_
  rintro e w2 ⟨F2, rfl, h2, c2, g2⟩
  replace h2 := hid h2
  replace c2 := hid c2
  replace g2 := hid g2
  go_wp2_with fail
  refine (dtick_yes w2 F2 p 0 dx0 dx1 1 h2.out (by omega) dx0_ok rfl rfl rfl).mono ?_
  rintro e w3 ⟨rfl, h3, c3⟩
  replace h3 := hid h3
  replace c3 := hid c3
  go_wp2_with fail
  refine (dtick_no w3 F2 p 1 dx1 dx2 h3.out (by omega) dx1_ok rfl rfl).mono ?_
  rintro e w4 ⟨rfl, h4, c4⟩
  replace h4 := hid h4
  replace c4 := hid c4
  go_wp2_with fail
  refine (dtick_yes w4 F2 p 2 dx2 ⟨1, 1, 2, 0, 4, true, true⟩ 1 h4.out (by omega) dx2_ok rfl rfl rfl).mono ?_
  rintro e w5 ⟨rfl, h5, c5⟩
  go_wp2
  go_ret
  refine ⟨rfl, ?_⟩
  have hF : ∀ i, i < w.heap.size → F i → False := fun i hi hh => by
    rcases g1.out i hh with h | h
    · exact h
    · omega
  have hF2 : ∀ i, i < w.heap.size → F2 i → False := fun i hi hh => by
    rcases g2.out i hh with h | h
    · exact hF i hi h
    · have := c1.out.size; omega
  exact (((c1.out.trans c2.out hF).trans c3.out hF2).trans c4.out hF2).trans c5 hF2
end Go.Proofs.Ytoocjfolhghjoaa
