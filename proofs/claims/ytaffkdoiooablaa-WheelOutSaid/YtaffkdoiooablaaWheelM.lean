/- Two wheels side by side. -/
import Derived.Test.YtaffkdoiooablaaWheelC
import Derived.Test.YtaffkdoiooablaaPrioM
namespace Go.Proofs.Ytaffkdoiooablaa
open Go.ChangeShapes Go.WideShapes Go.ChangeAt Go.RowKit
set_option linter.unusedVariables false
/-- Two wheels, apart from each other and from whatever was there. -/
structure W2 (w0 : World) (F1 : Nat → Prop) (p1 : Nat) (a : Int) (e1 : Nat) (r1 : List RT) (F2 : Nat → Prop) (p2 : Nat) (b : Int) (e2 : Nat) (r2 : List RT) (w : World) : Prop where
  m1 : WR w F1 p1 a e1 r1
  m2 : WR w F2 p2 b e2 r2
  dj : Dj F1 F2
  n1 : ∀ k, F1 k → w0.heap.size ≤ k
  n2 : ∀ k, F2 k → w0.heap.size ≤ k
  bel : Below w0.heap.size w0 w
section
variable {w0 w w1 w2 w3 : World} {F1 F2 F1' F2' H : Nat → Prop} {p1 p2 e1 e2 e1' e2' : Nat} {a b : Int} {r1 r2 r1' r2' : List RT}
theorem W2.swap (h : W2 w0 F1 p1 a e1 r1 F2 p2 b e2 r2 w) : W2 w0 F2 p2 b e2 r2 F1 p1 a e1 r1 w := ⟨h.m2, h.m1, h.dj.symm, h.n2, h.n1, h.bel⟩
theorem W2.step1 (h : W2 w0 F1 p1 a e1 r1 F2 p2 b e2 r2 w) (hd : WR w1 F1' p1 a e1' r1') (hc : Chg F1 w w1) (hg : Grew w.heap.size F1 F1') : W2 w0 F1' p1 a e1' r1' F2 p2 b e2 r2 w1 :=
  ⟨hd, WhAt.chg h.m2 hc h.dj.symm, fun k k1 k2 => (hg k k1).elim (fun k3 => h.dj k k3 k2) (fun k3 => by have := WhAt.lt h.m2 k k2; omega), fun k hk => (hg k hk).elim (h.n1 k) (fun k3 => Nat.le_trans h.bel.size k3), h.n2, h.bel.trans (hc.below (fun i hi hf => by have := h.n1 i hf; omega) h.bel.size)⟩
theorem W2.step2 (h : W2 w0 F1 p1 a e1 r1 F2 p2 b e2 r2 w) (hd : WR w1 F2' p2 b e2' r2') (hc : Chg F2 w w1) (hg : Grew w.heap.size F2 F2') : W2 w0 F1 p1 a e1 r1 F2' p2 b e2' r2' w1 := (h.swap.step1 hd hc hg).swap
theorem W2.far (h : W2 w0 F1 p1 a e1 r1 F2 p2 b e2 r2 w) (hc : Chg H w w1) (d1 : Dj F1 H) (d2 : Dj F2 H) (hH : ∀ k, H k → w0.heap.size ≤ k) : W2 w0 F1 p1 a e1 r1 F2 p2 b e2 r2 w1 :=
  ⟨WhAt.chg h.m1 hc d1, WhAt.chg h.m2 hc d2, h.dj, h.n1, h.n2, h.bel.trans (hc.below (fun i hi hf => by have := hH i hf; omega) h.bel.size)⟩
theorem W2.nil (h : W2 w0 F1 p1 a e1 r1 F2 p2 b e2 r2 w) (hc : Chg Nil w w1) : W2 w0 F1 p1 a e1 r1 F2 p2 b e2 r2 w1 := h.far hc (fun _ _ h => h) (fun _ _ h => h) (fun _ h => h.elim)
theorem W2.start (hb : Below w0.heap.size w0 w) (q1 : WR w1 F1 p1 a e1 r1) (c1 : Chg Nil w w1) (g1 : Grew w.heap.size Nil F1) (q2 : WR w2 F2 p2 b e2 r2) (c2 : Chg Nil w1 w2) (g2 : Grew w1.heap.size Nil F2) : W2 w0 F1 p1 a e1 r1 F2 p2 b e2 r2 w2 :=
  ⟨WhAt.chg q1 c2 (fun _ _ h => h), q2, fun k k1 k2 => (g2 k k2).elim (fun h => h) (fun h => by have := WhAt.lt q1 k k1; omega),
   fun k hk => (g1 k hk).elim (fun h => h.elim) (fun h => Nat.le_trans hb.size h), fun k hk => (g2 k hk).elim (fun h => h.elim) (fun h => Nat.le_trans (Nat.le_trans hb.size c1.size) h),
   (hb.trans (c1.below (fun i hi h => h) hb.size)).trans (c2.below (fun i hi h => h) (Nat.le_trans hb.size c1.size))⟩
end
theorem now_add (b : Int) (e n : Nat) : (nowOf b e + (n : Int)) % 4294967296 = nowOf b (e + n) := by unfold nowOf; omega
theorem now_sub (a b : Int) (k e : Nat) : ((nowOf a k - nowOf a e) % 4294967296 != (nowOf b k - nowOf b e) % 4294967296) = false := by
  rw [bne_eq_false_iff_eq]; unfold nowOf; omega
theorem now_lt (b : Int) (e : Nat) : 0 ≤ nowOf b e ∧ nowOf b e < 4294967296 := by unfold nowOf; omega
theorem dw_sub (f : RT → Bool) (l : List RT) : (l.dropWhile f).length ≤ l.length ∧ ∀ x ∈ l.dropWhile f, x ∈ l :=
  ⟨(List.dropWhile_sublist f).length_le, fun x hx => (List.dropWhile_sublist f).subset hx⟩
theorem small_dw {l : List RT} (h : Small l) (f : RT → Bool) : Small (l.dropWhile f) := fun x hx => h x ((dw_sub f l).2 x hx)
end Go.Proofs.Ytaffkdoiooablaa
