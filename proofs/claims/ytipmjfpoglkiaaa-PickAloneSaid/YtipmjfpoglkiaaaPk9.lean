/- The beginning of the law PickAlone: both schedulers hold the same tasks. No condition. -/
import Derived.Test.YtipmjfpoglkiaaaPk8
namespace Go.Proofs.Ytipmjfpoglkiaaa
open Go.ChangeShapes Go.WideShapes Go.ChangeAt Go.RowKit
set_option linter.unusedVariables false
theorem two_start {w0 w3 wr : World} {E : Env} {p pf n : Nat} {s : PKS} {F : Nat → Prop} (h : PkM E p n s wr) (hE : E.w = w3) (hf : FairAt w3 F pf s.ts) (f2 : ∀ k, F k → w0.heap.size ≤ k) (f3 : ∀ k, F k → E.K k) (f4 : ∀ k, E.K k → F k ∨ k < w0.heap.size) (f5 : ∀ k, k < w0.heap.size → E.K k) (hB : Below w0.heap.size w0 w3) : ∃ E', Two w0 E' p pf n s wr := by
  have hb := h.bel
  rw [hE] at hb
  have hs : E.w.heap.size ≤ wr.heap.size := by rw [hE]; exact hb.size
  exact ⟨E.at wr hs, h.env (Chg.refl Nil wr) (fun k hk => hk.elim) rfl (Grew.refl _ _), ⟨F, hf.chg hb (fun k hk hn => hn (f3 k hk)), f2, f3, f4⟩, hB.trans (hb.below (fun k hk hF => hF (f5 k hk)) hB.size), rfl, f5⟩
/-- Just k tasks of fair shares were added. -/
structure Al0 (zs : List Int) (k : Nat) (s : PKS) : Prop where
  i : AlI k 0 s
  ts : s.ts = mkF zs k
  va : ∀ i, k ≤ i → s.va ((i + 1 : Nat) : Int) = none
  of0 : ∀ t, s.of t = none
theorem al0_new (zs : List Int) : Al0 zs 0 pkNew := ⟨⟨rfl, rfl, by rw [Nat.zero_mul]; exact mkF_inv zs 0 (by omega), by omega, fun i hi => by omega, fun _ _ => rfl, rfl, fun i x hx => by simp [pkNew] at hx, by simp [pkNew], by simp [pkNew], by simp [pkNew]⟩, rfl, fun _ _ => rfl, fun _ => rfl⟩
theorem Al0.add {zs : List Int} {k : Nat} {s : PKS} (h : Al0 zs k s) (hk : k < zs.length) (h16 : zs.length ≤ 16) {o : Option Nat} (ho : FLeast s.ts s.ts.length o) : Al0 zs (k + 1) { s with ts := s.ts ++ [wokenF o (newF (k + 1) (wtF zs[k]))], cl := updM s.cl ((k + 1 : Nat) : Int) (some (.int .i64 1)), va := updM s.va ((k + 1 : Nat) : Int) (some (.int .i64 (wtF zs[k] : Nat))) } := by
  have e : s.ts ++ [wokenF o (newF (k + 1) (wtF zs[k]))] = mkF zs (k + 1) := by
    rw [h.ts] at ho ⊢
    rw [show newF (k + 1) (wtF zs[k]) = ⟨k + 1, wtF zs[k], 0, 0, false⟩ from rfl, mkF_woken zs k o ho, mkF_succ zs k hk]
  have hI := h.i
  refine ⟨⟨hI.b, hI.ds, ?_, by omega, ?_, ?_, ?_, ?_, hI.u1, hI.u2, hI.nw⟩, e, ?_, h.of0⟩
  · show NInv _ _ (s.ts ++ [wokenF o (newF (k + 1) (wtF zs[k]))])
    rw [e]
    have := mkF_inv zs (k + 1) (by omega)
    simpa using this
  · intro i hi
    simp only [updM]
    by_cases h1 : i = k
    · subst h1; simp
    · rw [if_neg (by omega)]; exact hI.cl i (by omega)
  · intro i hi
    simp only [updM]
    rw [if_neg (by omega)]
    exact hI.co i (by omega)
  · simp only [updM]
    rw [if_neg (by omega)]
    exact hI.c0
  · intro i x hx
    show s.of _ = _
    have hx2 : (mkF zs (k + 1))[i]? = some x := by rw [← e]; exact hx
    have hi : i < k + 1 := by have := (List.getElem?_eq_some_iff.1 hx2).1; rwa [mkF_len] at this
    rw [mkF_get zs (k + 1) i hi] at hx2
    injection hx2 with hx2
    rw [← hx2]
    simp only [if_true]
    exact h.of0 _
  · intro i hi
    simp only [updM]
    rw [if_neg (by omega)]
    exact h.va i (by omega)
end Go.Proofs.Ytipmjfpoglkiaaa
