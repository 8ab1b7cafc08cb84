/- Package space where no space has a page, told by which spaces there are. Conditions: just that. -/
import Derived.Test.YtdcbagmgflcemaaGreatDoorZ16
import Derived.Test.YtdcbagmgflcemaaGreatDoorZ17
namespace Go.Proofs.YtdcbagmgflcemaaGreatDoor
open Go.ChangeShapes Go.WideShapes Go.ChangeAt Go.RowKit
set_option linter.unusedVariables false
def SpB (w : World) (F : Nat → Prop) (p n : Nat) (sp : Nat → Bool) : Prop := ∃ b f, SpA w F p b n f ∧ ∀ j : Nat, j ≤ 16 → (f (j : Int)).isSome = sp j
theorem SpB.chg {w w' : World} {F H : Nat → Prop} {p n : Nat} {sp : Nat → Bool} (h : SpB w F p n sp) (hc : Chg H w w') (hd : Dj F H) : SpB w' F p n sp := by
  obtain ⟨b, f, h, hs⟩ := h
  exact ⟨b, f, h.chg hc hd, hs⟩
theorem SpB.lt {w : World} {F : Nat → Prop} {p n : Nat} {sp : Nat → Bool} (h : SpB w F p n sp) : ∀ k, F k → k < w.heap.size := by
  obtain ⟨b, f, h, hs⟩ := h
  exact h.lt
theorem none_of {f : Int → Option Value} {sp : Nat → Bool} (hs : ∀ j : Nat, j ≤ 16 → (f (j : Int)).isSome = sp j) {s : Nat} (h : s ≤ 16) (h0 : sp s = false) : f (s : Int) = none := by
  have := hs s h
  rw [h0] at this
  simpa using this
theorem some_of {f : Int → Option Value} {sp : Nat → Bool} (hs : ∀ j : Nat, j ≤ 16 → (f (j : Int)).isSome = sp j) {s : Nat} (h : s ≤ 16) (h0 : sp s = true) : f (s : Int) ≠ none := by
  have := hs s h
  rw [h0] at this
  intro hh
  rw [hh] at this
  cases this
theorem sp_upd {f : Int → Option Value} {sp : Nat → Bool} (hs : ∀ j : Nat, j ≤ 16 → (f (j : Int)).isSome = sp j) (s : Nat) (o : Option Value) : ∀ j : Nat, j ≤ 16 → (updM f (s : Int) o (j : Int)).isSome = updF sp s o.isSome j := by
  intro j hj
  unfold updM updF
  by_cases h : j = s
  · rw [if_pos (by omega), if_pos h]
  · rw [if_neg (by omega), if_neg h]
    exact hs j hj
theorem spbnew_ok (w : World) : Calls Tryz.prog 32 #[.int .i64 64, .int .i64 64] w fun e w' => ∃ F p, e = .returned (.tuple #[.pointer (some ⟨p, 0, none⟩), .int .i64 0]) ∧ SpB w' F p 0 (fun _ => false) ∧ F p ∧ Chg Nil w w' ∧ Grew w.heap.size Nil F := by
  refine (spcnew_ok w).mono ?_
  rintro e w' ⟨F, p, b, rfl, h1, h2, h3⟩
  exact ⟨F, p, rfl, ⟨b, _, h1, fun _ _ => rfl⟩, h1.fp, h2, h3⟩
theorem spbmake_ok (w : World) (F : Nat → Prop) (p n : Nat) (sp : Nat → Bool) (h : SpB w F p n sp) (hn : n ≤ 1000) (s : Nat) (h1 : 1 ≤ s) (h2 : s ≤ 16) (hs : sp s = false) (hb : ∀ j : Nat, 1 ≤ j → j < s → sp j = true) :
    Calls Tryz.prog 33 #[.pointer (some ⟨p, 0, none⟩)] w fun e w' => e = .returned (.tuple #[.int .i64 (s : Int), .int .i64 0]) ∧ ∃ F', SpB w' F' p (n + 1) (updF sp s true) ∧ Chg F w w' ∧ Grew w.heap.size F F' := by
  obtain ⟨b, f, h, hf⟩ := h
  refine (spcmake_ok w F p b n f h hn s h1 h2 (none_of hf h2 hs) (fun j h3 h4 => some_of hf (by omega) (hb j h3 h4))).mono ?_
  rintro e w' ⟨rfl, g, a1, a2, a3⟩
  refine ⟨rfl, _, ⟨b, _, a1, sp_upd hf s _⟩, a2, fun k hk => ?_⟩
  rcases hk with hk | hk
  · exact .inl hk
  · exact .inr (by rw [show k = g from hk]; exact a3)
end Go.Proofs.YtdcbagmgflcemaaGreatDoor
