/- A remainder as a natural number; one task of a run on one processor put anew. No condition. -/
import Derived.Test.YthcgeigijnbpkaaSprO
namespace Go.Proofs.Ythcgeigijnbpkaa
open Go.ChangeShapes Go.WideShapes Go.ChangeAt Go.RowKit
set_option linter.unusedVariables false
theorem rest_nat (k n : Int) (w : World) (h1 : 1 ≤ n) (h2 : n ≤ 9223372036854775807) :
    Calls Try.prog 12 #[.int .i64 k, .int .i64 n] w fun e w' => ∃ q : Nat, (q : Int) < n ∧ e = .returned (.int .i64 q) ∧ w = w' := by
  refine (rest_any k n w h1 h2).mono ?_
  rintro e w' ⟨rfl, rfl⟩
  have hb1 := rest_nonneg k n h1
  have hb2 := rest_lt k n h1
  obtain ⟨q, hq⟩ := Int.eq_ofNat_of_zero_le hb1
  exact ⟨q, by omega, by rw [hq], rfl⟩
/-- One task is put anew, but for its number and where it runs. -/
theorem one_upd {P P' : Nat → ST → Prop} {n run i : Nat} {s : SR} {f : ST → ST} (h : OneS P n run s) (hr : run < n) (hf : ∀ x, (f x).t = x.t ∧ (f x).cl = x.cl ∧ (f x).r = x.r ∧ (f x).o = x.o ∧ (f x).pin = x.pin ∧ (f x).cpu = x.cpu)
    (h1 : ∀ j x, j ≠ i → P j x → P' j x) (h2 : ∀ x, P i x → P' i (f x)) : OneS P' n run (({ s with ts := upd s.ts i f } : SR).fill) := by
  have h3 : OneS P' n run { s with ts := upd s.ts i f } := by
    refine ⟨h.nn, by show (upd s.ts i f).length = _; rw [upd_len, h.len], fun j x hx => ?_⟩
    have hx' : (upd s.ts i f)[j]? = some x := hx
    rw [upd_get] at hx'
    split at hx'
    · rename_i hij
      subst hij
      cases hz : s.ts[i]? with
      | none => rw [hz] at hx'; cases hx'
      | some z =>
        rw [hz] at hx'
        simp at hx'
        subst hx'
        obtain ⟨a1, a2, a3, a4, a5, a6, a7⟩ := h.each i z hz
        obtain ⟨g1, g2, g3, g4, g5, g6⟩ := hf z
        exact ⟨h2 z a1, by rw [g1]; exact a2, by rw [g2]; exact a3, by rw [g3]; exact a4, by rw [g4]; exact a5, by rw [g5]; exact a6, by rw [g6]; exact a7⟩
    · rename_i hij
      obtain ⟨a1, a2⟩ := h.each j x hx'
      exact ⟨h1 j x (fun hh => hij hh.symm) a1, a2⟩
  rw [fill_one_on (s := ({ s with ts := upd s.ts i f } : SR)) h3.nn (one_on h3 hr)]
  exact h3
theorem one_who {P : Nat → ST → Prop} {n run i : Nat} {s : SR} (h : OneS P n run s) (hi : i < n) : ∃ x, s.ts[i]? = some x ∧ s.who ((i : Int) + 1) = some (i, x) := by
  obtain ⟨x, hx⟩ : ∃ x, s.ts[i]? = some x := ⟨_, List.getElem?_eq_getElem (by rw [h.len]; exact hi)⟩
  refine ⟨x, hx, who_some (fnd_is hx (h.each i x hx).2.1 (fun j y hy hc => ?_)) hx⟩
  have := (h.each j y hy).2.1
  omega
end Go.Proofs.Ythcgeigijnbpkaa
