/- Plain facts for the law PickAlone: what a block, a wake and a tick make of tasks of fair shares is one thing only; what the scheduler then holds. No program in sight; no condition. -/
import Derived.Test.YtipmjfpoglkiaaaPk7
namespace Go.Proofs.Ytipmjfpoglkiaaa
open Go.RowKit
set_option linter.unusedVariables false
section
variable {V n : Nat} {ts : List FT}
theorem ffirst_uniq (h : NInv V n ts) {b b' : Option Nat} (hb : FFirst ts ts.length b) (hb' : FFirst ts ts.length b') : b = b' := by
  cases b' with
  | none =>
    cases b with
    | none => rfl
    | some j =>
      obtain ⟨y, h1, h2, h3, _⟩ := hb
      have := hb' j y h1 h2
      rw [h3] at this; cases this
  | some j =>
    obtain ⟨y, h1, h2, h3, h4⟩ := hb'
    exact h.first hb h2 h3 (fun i x hx hr => h4 i x (List.getElem?_eq_some_iff.1 hx).1 hx hr)
theorem fleast_uniq {k : Nat} {o o' : Option Nat} (ho : FLeast ts k o) (ho' : FLeast ts k o') : o = o' := by
  cases o with
  | none =>
    cases o' with
    | none => rfl
    | some m =>
      obtain ⟨⟨i, x, h1, h2, h3, _⟩, _⟩ := ho'
      have := ho i x h1 h2
      rw [h3] at this; cases this
  | some m =>
    obtain ⟨⟨i, x, h1, h2, h3, h4⟩, h5⟩ := ho
    cases o' with
    | none =>
      have := ho' i x h1 h2
      rw [h3] at this; cases this
    | some m' =>
      obtain ⟨⟨j, y, k1, k2, k3, k4⟩, k5⟩ := ho'
      have a1 := h5 j y k1 k2 k3
      have a2 := k5 i x h1 h2 h3
      congr 1
      omega
theorem fleast_le (h : NInv V n ts) {m : Nat} (ho : FLeast ts ts.length (some m)) : m ≤ V := by
  obtain ⟨⟨i, x, h1, h2, h3, h4⟩, _⟩ := ho
  have := (h.ok x (List.mem_of_getElem? h2)).v2
  omega
theorem wokenF_ok (h : NInv V n ts) {o : Option Nat} (ho : FLeast ts ts.length o) {x : FT} (hx : FOk V x) : FOk V (wokenF o x) := by
  refine ⟨hx.t1, hx.t2, hx.w1, hx.w2, hx.g0, ?_⟩
  cases o with
  | none => exact hx.v2
  | some m =>
    have := fleast_le h ho
    have := hx.v2
    show max x.v m ≤ V
    omega
theorem NInv.at (h : NInv V n ts) {i : Nat} {x : FT} (hx : ts[i]? = some x) : NumF ts i x ((i + 1 : Nat) : Int) := by
  refine ⟨hx, by rw [h.num i x hx], fun j y hj hy => ?_⟩
  rw [h.num j y hy]
  omega
theorem NInv.no (h : NInv V n ts) {i : Nat} (hi : ts[i]? = none) : ∀ x ∈ ts, (x.t : Int) ≠ ((i + 1 : Nat) : Int) := by
  intro x hx
  have := h.absent (i + 1) (by have := h.len; have := List.getElem?_eq_none_iff.1 hi; omega) x hx
  omega
end
/-- What Block answers, and what it leaves; the i-th. -/
def blkR (ts : List FT) (i : Nat) : Int := match ts[i]? with | none => 4 | some x => if x.r then 0 else 8
def blkT (ts : List FT) (i : Nat) : List FT := match ts[i]? with | none => ts | some x => if x.r then ts.set i { x with r := false } else ts
def wakR (ts : List FT) (i : Nat) : Int := match ts[i]? with | none => 4 | some x => if x.r then 8 else 0
def WakT (ts : List FT) (i : Nat) (ts' : List FT) : Prop := match ts[i]? with | none => ts' = ts | some x => if x.r then ts' = ts else ∃ o, FLeast ts ts.length o ∧ ts' = ts.set i (wokenF o x)
def TikT (ts : List FT) (r : Int) (ts' : List FT) : Prop := ∃ b, FFirst ts ts.length b ∧ r = (numF ts b : Nat) ∧ ts' = tickF ts b
section
variable {V n : Nat} {ts ts1 ts2 : List FT} {i : Nat}
theorem wakT_uniq (h1 : WakT ts i ts1) (h2 : WakT ts i ts2) : ts1 = ts2 := by
  unfold WakT at h1 h2
  cases hx : ts[i]? with
  | none => rw [hx] at h1 h2; exact h1.trans h2.symm
  | some x =>
    rw [hx] at h1 h2
    cases hr : x.r with
    | true => simp only [hr, if_true] at h1 h2; exact h1.trans h2.symm
    | false =>
      simp only [hr, Bool.false_eq_true, if_false] at h1 h2
      obtain ⟨o, a1, a2⟩ := h1
      obtain ⟨o', b1, b2⟩ := h2
      rw [a2, b2, fleast_uniq a1 b1]
theorem tikT_uniq (h : NInv V n ts) {r1 r2 : Int} (h1 : TikT ts r1 ts1) (h2 : TikT ts r2 ts2) : r1 = r2 ∧ ts1 = ts2 := by
  obtain ⟨b, a1, a2, a3⟩ := h1
  obtain ⟨b', b1, b2, b3⟩ := h2
  have := ffirst_uniq h a1 b1
  subst this
  exact ⟨a2.trans b2.symm, a3.trans b3.symm⟩
theorem blkT_inv (h : NInv V n ts) : NInv V n (blkT ts i) := by
  unfold blkT
  cases hx : ts[i]? with
  | none => exact h
  | some x =>
    have hk := h.ok x (List.mem_of_getElem? hx)
    cases hr : x.r with
    | true =>
      simp only [hr, if_true]
      exact h.set hx rfl (Nat.le_refl _) ⟨hk.t1, hk.t2, hk.w1, hk.w2, hk.g0, hk.v2⟩
    | false =>
      simp only [hr, Bool.false_eq_true, if_false]
      exact h
theorem wakT_inv (h : NInv V n ts) (hw : WakT ts i ts1) : NInv V n ts1 := by
  unfold WakT at hw
  cases hx : ts[i]? with
  | none => rw [hx] at hw; rw [hw]; exact h
  | some x =>
    rw [hx] at hw
    cases hr : x.r with
    | true => simp only [hr, if_true] at hw; rw [hw]; exact h
    | false =>
      simp only [hr, Bool.false_eq_true, if_false] at hw
      obtain ⟨o, a1, a2⟩ := hw
      rw [a2]
      exact h.set hx rfl (Nat.le_refl _) (wokenF_ok h a1 (h.ok x (List.mem_of_getElem? hx)))
theorem tikT_inv (h : NInv V n ts) {r : Int} (ht : TikT ts r ts1) : NInv (V + 1048576) n ts1 := by
  obtain ⟨b, a1, a2, a3⟩ := ht
  rw [a3]
  exact h.tick b
end
/-- The scheduler after m plays, where just n tasks of fair shares are. -/
structure AlI (n m : Nat) (s : PKS) : Prop where
  b : s.b = 0
  ds : s.ds = []
  inv : NInv (m * 1048576) n s.ts
  n16 : n ≤ 16
  cl : ∀ i, i < n → s.cl ((i + 1 : Nat) : Int) = some (.int .i64 1)
  co : ∀ i, n ≤ i → s.cl ((i + 1 : Nat) : Int) = none
  c0 : s.cl 0 = none
  of : ∀ i x, s.ts[i]? = some x → s.of ((i + 1 : Nat) : Int) = if x.r then none else some (.bool true)
  u1 : 0 ≤ s.used
  u2 : s.used ≤ m
  nw : s.nw ≤ m
section
variable {n m : Nat} {s : PKS}
theorem NInv.up {V V' n : Nat} {ts : List FT} (h : NInv V n ts) (hV : V ≤ V') : NInv V' n ts := h.mono hV
/-- Nothing is done. -/
theorem AlI.stay (h : AlI n m s) : AlI n (m + 1) s := ⟨h.b, h.ds, h.inv.mono (by omega), h.n16, h.cl, h.co, h.c0, h.of, h.u1, by have := h.u2; omega, by have := h.nw; omega⟩
/-- One is blocked or woken. -/
theorem AlI.put (h : AlI n m s) {i : Nat} {x y : FT} (hx : s.ts[i]? = some x) (hi : NInv (m * 1048576) n (s.ts.set i y)) (v : Option Value) (hv : v = if y.r then none else some (.bool true)) : AlI n (m + 1) { s with ts := s.ts.set i y, of := updM s.of ((i + 1 : Nat) : Int) v } := by
  refine ⟨h.b, h.ds, hi.mono (by omega), h.n16, h.cl, h.co, h.c0, fun j z hz => ?_, h.u1, by have := h.u2; show s.used ≤ _; omega, by have := h.nw; show s.nw ≤ _; omega⟩
  have hi2 : i < s.ts.length := (List.getElem?_eq_some_iff.1 hx).1
  simp only [updM]
  simp only [List.getElem?_set] at hz
  by_cases hij : i = j
  · subst hij
    simp only [if_true, hi2] at hz
    injection hz with hz
    subst hz
    simp only [if_true]
    exact hv
  · simp only [hij, if_false] at hz
    rw [if_neg (by omega)]
    exact h.of j z hz
/-- A tick. -/
theorem AlI.tick (h : AlI n m s) {b : Option Nat} (t : Int) : AlI n (m + 1) (pkTickF s t b) := by
  refine ⟨h.b, rfl, ?_, h.n16, h.cl, h.co, h.c0, fun j z hz => ?_, ?_, ?_, ?_⟩
  · have := h.inv.tick b
    show NInv _ n (tickF s.ts b)
    rw [Nat.succ_mul]
    exact this
  · simp only [pkTickF] at hz ⊢
    rw [tickF_get] at hz
    cases hx : s.ts[j]? with
    | none => rw [hx] at hz; cases hz
    | some x =>
      rw [hx] at hz
      simp only [Option.map_some, Option.some.injEq] at hz
      have := h.of j x hx
      rw [this, ← hz, show (if b = some j then runF x else x).r = x.r by split <;> rfl]
  · have := h.u1; simp only [pkTickF, pkU]; split <;> omega
  · have := h.u1; have := h.u2; simp only [pkTickF, pkU]; push_cast; split <;> omega
  · have := h.nw; simp only [pkTickF]; omega
end
end Go.Proofs.Ytipmjfpoglkiaaa
