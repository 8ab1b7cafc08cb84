/- The contract of deadBegun: it returns true and changes nothing that was there. No condition. -/
import Derived.Test.YtipmjfpoglkiaaaDead3
import Derived.Test.YtipmjfpoglkiaaaCbsQ
namespace Go.Proofs.Ytipmjfpoglkiaaa
open Go.ChangeShapes Go.WideShapes Go.ChangeAt Go.RowKit
set_option linter.unusedVariables false
def dx0 : DT := newT 1 1 2 0
def dx1 : DT := ⟨1, 1, 2, 0, 2, true, true⟩
def dx2 : DT := ⟨1, 1, 2, 1, 4, true, false⟩
theorem dx0_ok : ∀ x ∈ [dx0], DOk 0 x := fun x h => by rw [List.mem_singleton.1 h]; exact ok_new (by decide) (by decide) (by decide) (by decide) (by decide)
theorem dx1_ok : ∀ x ∈ [dx1], DOk 1 x := fun x h => by rw [List.mem_singleton.1 h]; exact ⟨by decide, by decide, by decide, by decide, by decide, by decide, by decide, by decide⟩
theorem dx2_ok : ∀ x ∈ [dx2], DOk 2 x := fun x h => by rw [List.mem_singleton.1 h]; exact ⟨by decide, by decide, by decide, by decide, by decide, by decide, by decide, by decide⟩
def Fresh (N : Nat) : Nat → Prop := fun k => N ≤ k
theorem dtick_yes (w : World) (F : Nat → Prop) (p now : Nat) (x y : DT) (n : Int) (h : DeadAt w F p now [x]) (hn : now ≤ 1073741824) (hok : ∀ z ∈ [x], DOk now z) (he : elig x = true) (hy : passT (now + 1) (runT x) = y) (ht : (x.t : Int) = n) :
    Calls Try.prog 26 #[.pointer (some ⟨p, 0, none⟩)] w fun e w' => e = .returned (.int .i64 n) ∧ DeadAt w' F p (now + 1) [y] ∧ Chg F w w' := by
  refine (dtick_ok w F p now [x] h (by simp) hn hok).mono ?_
  rintro e w' ⟨b, hb, rfl, h1, h2⟩
  obtain rfl := first_yes hb he
  subst hy
  subst ht
  exact ⟨rfl, h1, h2⟩
theorem dtick_no (w : World) (F : Nat → Prop) (p now : Nat) (x y : DT) (h : DeadAt w F p now [x]) (hn : now ≤ 1073741824) (hok : ∀ z ∈ [x], DOk now z) (he : elig x = false) (hy : passT (now + 1) x = y) :
    Calls Try.prog 26 #[.pointer (some ⟨p, 0, none⟩)] w fun e w' => e = .returned (.int .i64 0) ∧ DeadAt w' F p (now + 1) [y] ∧ Chg F w w' := by
  refine (dtick_ok w F p now [x] h (by simp) hn hok).mono ?_
  rintro e w' ⟨b, hb, rfl, h1, h2⟩
  obtain rfl := first_none hb he
  subst hy
  exact ⟨rfl, h1, h2⟩
end Go.Proofs.Ytipmjfpoglkiaaa
