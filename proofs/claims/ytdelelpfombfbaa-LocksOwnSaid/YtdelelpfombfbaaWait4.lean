/- Sleep that sleeps, and waitBegun. Conditions: at most 999 wait. -/
import Derived.Test.YtdelelpfombfbaaWait3
namespace Go.Proofs.Ytdelelpfombfbaa
open Go.ChangeShapes Go.WideShapes Go.ChangeAt Go.RowKit
set_option linter.unusedVariables false
/-- The queue, in blocks from B on; nothing below B has changed. -/
structure QMem (B : Nat) (w0 : World) (F : Nat → Prop) (p : Nat) (l : List WT) (n : Int) (nm : Nat) (f : Int → Option Value) (w : World) : Prop where
  q : QAt w F p l n nm f
  new : ∀ k, F k → B ≤ k
  bel : Below B w0 w
  sz : B ≤ w.heap.size
section
variable {B : Nat} {w0 w w' : World} {F : Nat → Prop} {p : Nat} {l : List WT} {n : Int} {nm : Nat} {f : Int → Option Value}
theorem QMem.step {F' : Nat → Prop} {l' : List WT} {n' : Int} {nm' : Nat} {f' : Int → Option Value} (h : QMem B w0 F p l n nm f w) (hd : QAt w' F' p l' n' nm' f') (hc : Chg F w w') (hg : Grew w.heap.size F F') : QMem B w0 F' p l' n' nm' f' w' :=
  ⟨hd, fun k hk => by
    rcases hg k hk with h1 | h1
    · exact h.new k h1
    · have := h.sz; omega, h.bel.trans (hc.below (fun i hi hf => by have := h.new i hf; omega) h.sz), Nat.le_trans h.sz hc.size⟩
theorem QMem.nil (h : QMem B w0 F p l n nm f w) (hc : Chg Nil w w') : QMem B w0 F p l n nm f w' :=
  h.step (h.q.chg hc (fun _ _ h => h)) (hc.mono (fun _ _ h => h.elim)) (Grew.refl _ _)
end
theorem Rd.below {B : Nat} {w0 w : World} {R : Nat → Prop} {s n c : Nat} {a : Option Addr} {xs : List Value} (h : Rd w0 R s a n c xs) (hb : Below B w0 w) (hR : ∀ g, R g → g < B) : Rd w R s a n c xs := by
  obtain ⟨h1, h2, h3, h4⟩ := h
  refine ⟨h1, h2, h3, fun hn => ?_⟩
  obtain ⟨g, off, r1, r2, r3, r4⟩ := h4 hn
  exact ⟨g, off, r1, Nat.lt_of_lt_of_le r2 hb.size, r3, fun j hj => (hb.cell (p := ⟨g, off + j, none⟩) (hR g r3)).trans (r4 j hj)⟩
theorem qnew_mem (w w1 : World) (F : Nat → Prop) (p : Nat) (w0 : World) (hb : Below w0.heap.size w0 w) (h : QAt w1 F p [] 0 0 (fun _ => none)) (hc : Chg Nil w w1) (hg : Grew w.heap.size Nil F) : QMem w0.heap.size w0 F p [] 0 0 (fun _ => none) w1 :=
  ⟨h, fun k hk => by
    rcases hg k hk with h1 | h1
    · exact h1.elim
    · exact Nat.le_trans hb.size h1, hb.trans (hc.below (fun i hi h => h) hb.size), Nat.le_trans hb.size hc.size⟩
theorem qbegun_ok (w : World) : Calls Try.prog 4 #[] w fun e w' => e = .returned (.bool true) ∧ Chg Nil w w' := by
  go_enter Try.func4, Try.ntmps4
  go_wp2_with fail
  refine (qnew_ok w).mono ?_
  rintro e w1 ⟨F, p, rfl, h1, c1, g1⟩
  have hM := hid (qnew_mem w w1 F p w (Below.refl _ w) h1 c1 g1)
  clear h1 c1 g1
  go_wp2_with fail
  refine (qadd_ok _ F p [] 0 0 _ 3 true hM.out.q (by simp) (by omega) (by omega) rfl).mono ?_
  rintro e w2 ⟨F2, rfl, h2, c2, g2⟩
  have hM2 := hid (hM.out.step h2 c2 g2)
  clear h2 c2 g2 hM
  go_wp2_with fail
  refine (qwake_all _ F2 p _ 0 0 _ 1 hM2.out.q (by simp) (by simp [alone]) (by omega) (by omega) (by omega)).mono ?_
  rintro e w3 ⟨a, c, G, rfl, s3, h3, c3, g3⟩
  have hM3 := hid (hM2.out.step h3 c3 (Grew.refl _ _))
  have S3 := hid (s3.rd.alloc (.cells #[.int .i64 3] 3))
  have N3 := hid (Rd.of_blk (n := 1) (s := 1) (Blk.new w3 3 (ints .i64 [3])) rfl (by decide))
  have heq : eqI ([WT.mk 3 true].map WT.t) [3] = true := eqI_true rfl
  clear s3 h3 c3 g3 hM2
  go_wp2_with fail
  refine (equal_int _ _ _ _ _ _ _ _ ([WT.mk 3 true].map WT.t) [3] _ S3.out N3.out (by simp) (by omega)).mono ?_
  rw [heq]
  rintro e w4 ⟨rfl, q, rfl⟩
  go_wp2
  go_ret
  have := (hM3.out.nil (((Chg.refl Nil w3).alloc (.cells #[.int .i64 3] 3)).drewN q)).bel
  exact ⟨rfl, Chg.of_below this Nil⟩
end Go.Proofs.Ytdelelpfombfbaa
