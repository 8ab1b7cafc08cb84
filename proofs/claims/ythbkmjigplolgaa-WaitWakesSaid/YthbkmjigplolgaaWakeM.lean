/- The memory of the law WaitWakes, and the beginning of the statements on waiting. -/
import Derived.Test.YthbkmjigplolgaaWake
import Derived.Test.YthbkmjigplolgaaSortI
namespace Go.Proofs.Ythbkmjigplolgaa
open Go.ChangeShapes Go.WideShapes Go.ChangeAt Go.RowKit
set_option linter.unusedVariables false
structure QMem (B : Nat) (w0 : World) (F : Nat → Prop) (p : Nat) (l : List WT) (n : Int) (nm : Nat) (f : Int → Option Value) (w : World) : Prop where
  q : QAt w F p l n nm f
  new : ∀ k, F k → B ≤ k
  bel : Below B w0 w
  sz : B ≤ w.heap.size
section
variable {B : Nat} {w0 w w' : World} {F : Nat → Prop} {p : Nat} {l : List WT} {n : Int} {nm : Nat} {f : Int → Option Value}
theorem QMem.step {F' : Nat → Prop} {l' : List WT} {n' : Int} {nm' : Nat} {f' : Int → Option Value} (h : QMem B w0 F p l n nm f w) (hd : QAt w' F' p l' n' nm' f') (hc : Chg F w w') (hg : Grew w.heap.size F F') : QMem B w0 F' p l' n' nm' f' w' :=
  ⟨hd, fun k hk => by
    rcases hg k hk with h1 | h1
    · exact h.new k h1
    · have := h.sz; omega, h.bel.trans (hc.below (fun i hi hf => by have := h.new i hf; omega) h.sz), Nat.le_trans h.sz hc.size⟩
theorem QMem.nil (h : QMem B w0 F p l n nm f w) (hc : Chg Nil w w') : QMem B w0 F p l n nm f w' :=
  h.step (h.q.chg hc (fun _ _ h => h)) (hc.mono (fun _ _ h => h.elim)) (Grew.refl _ _)
end
theorem Rd.below {B : Nat} {w0 w : World} {R : Nat → Prop} {s n c : Nat} {a : Option Addr} {xs : List Value} (h : Rd w0 R s a n c xs) (hb : Below B w0 w) (hR : ∀ g, R g → g < B) : Rd w R s a n c xs := by
  obtain ⟨h1, h2, h3, h4⟩ := h
  refine ⟨h1, h2, h3, fun hn => ?_⟩
  obtain ⟨g, off, r1, r2, r3, r4⟩ := h4 hn
  exact ⟨g, off, r1, Nat.lt_of_lt_of_le r2 hb.size, r3, fun j hj => (hb.cell (p := ⟨g, off + j, none⟩) (hR g r3)).trans (r4 j hj)⟩
theorem qnew_mem (w w1 : World) (F : Nat → Prop) (p : Nat) (w0 : World) (hb : Below w0.heap.size w0 w) (h : QAt w1 F p [] 0 0 (fun _ => none)) (hc : Chg Nil w w1) (hg : Grew w.heap.size Nil F) : QMem w0.heap.size w0 F p [] 0 0 (fun _ => none) w1 :=
  ⟨h, fun k hk => by
    rcases hg k hk with h1 | h1
    · exact h1.elim
    · exact Nat.le_trans hb.size h1, hb.trans (hc.below (fun i hi h => h) hb.size), Nat.le_trans hb.size hc.size⟩
theorem qbegun_ok (w : World) : Calls Try.prog 34 #[] w fun e w' => e = .returned (.bool true) ∧ Chg Nil w w' := by
  go_enter Try.func34, Try.ntmps34
  go_wp2_with fail
  refine (qnew_ok w).mono ?_
  rintro e w1 ⟨F, p, rfl, h1, c1, g1⟩
  have hM := hid (qnew_mem w w1 F p w (Below.refl _ w) h1 c1 g1)
  clear h1 c1 g1
  go_wp2_with fail
  refine (qadd_ok _ F p [] 0 0 _ 3 true hM.out.q (by simp) (by omega) (by omega) rfl).mono ?_
  rintro e w2 ⟨F2, rfl, h2, c2, g2⟩
  have hM2 := hid (hM.out.step h2 c2 g2)
  clear h2 c2 g2 hM
  go_wp2_with fail
  refine (qwake_ok _ F2 p _ 0 0 _ 1 hM2.out.q (by simp) (by omega) (by omega) (by omega)).mono ?_
  unfold PWake
  rw [show wkOut 1 ([] ++ [WT.mk 3 true]) = [3] by simp [wkOut]]
  rintro e w3 ⟨F3, a, c, G, rfl, s3, h3, c3, g3, _⟩
  have hM3 := hid (hM2.out.step h3 c3 g3)
  have S3 := hid (s3.rd.alloc (.cells #[.int .i64 3] 3))
  have N3 := hid (Rd.of_blk (n := 1) (s := 1) (Blk.new w3 3 (ints .i64 [3])) rfl (by decide))
  clear s3 h3 c3 g3 hM2
  go_wp2_with fail
  refine (equal_int _ _ _ _ _ _ _ _ [3] [3] _ S3.out N3.out (by simp) (by omega)).mono ?_
  rw [eqI_true rfl]
  rintro e w4 ⟨rfl, q, rfl⟩
  go_wp2
  go_ret
  have := (hM3.out.nil (((Chg.refl Nil w3).alloc (.cells #[.int .i64 3] 3)).drewN q)).bel
  exact ⟨rfl, Chg.of_below this Nil⟩
/-- The queue, the row of all and the row of those that are to be alone, apart from each other. -/
structure WW (w0 : World) (F : Nat → Prop) (p : Nat) (l : List WT) (f : Int → Option Value) (A : List Int) (aA : Option Addr) (cA : Nat) (GA : Option Nat) (B : List Int) (aB : Option Addr) (cB : Nat) (GB : Option Nat) (w : World) : Prop where
  q : QMem w0.heap.size w0 F p l 0 0 f w
  sa : Sl w 3 1 aA A.length cA (ints .i64 A) GA
  sb : Sl w 3 1 aB B.length cB (ints .i64 B) GB
  ga : ∀ g, GA = some g → ¬ F g ∧ w0.heap.size ≤ g
  gb : ∀ g, GB = some g → ¬ F g ∧ w0.heap.size ≤ g
  ne : ∀ g, GA = some g → GB ≠ some g
section
variable {w0 w w1 : World} {F F' : Nat → Prop} {p : Nat} {l l' : List WT} {f : Int → Option Value} {A B : List Int} {aA aB a' : Option Addr} {cA cB c' : Nat} {GA GB G' : Option Nat} {x : Int}
theorem WW.step (h : WW w0 F p l f A aA cA GA B aB cB GB w) (hd : QAt w1 F' p l' 0 0 f) (hc : Chg F w w1) (hg : Grew w.heap.size F F') : WW w0 F' p l' f A aA cA GA B aB cB GB w1 :=
  ⟨h.q.step hd hc hg, h.sa.chg hc (fun g hG => (h.ga g hG).1), h.sb.chg hc (fun g hG => (h.gb g hG).1),
   fun g hG => ⟨fun hh => (hg g hh).elim (h.ga g hG).1 (fun k3 => by have := h.sa.lt g hG; omega), (h.ga g hG).2⟩,
   fun g hG => ⟨fun hh => (hg g hh).elim (h.gb g hG).1 (fun k3 => by have := h.sb.lt g hG; omega), (h.gb g hG).2⟩, h.ne⟩
theorem WW.nil (h : WW w0 F p l f A aA cA GA B aB cB GB w) (hc : Chg Nil w w1) : WW w0 F p l f A aA cA GA B aB cB GB w1 :=
  h.step (h.q.q.chg hc (fun _ _ h => h)) (hc.mono (fun _ _ h => h.elim)) (Grew.refl _ _)
theorem QMem.far {Bd : Nat} {H : Nat → Prop} {n : Int} {nm : Nat} (h : QMem Bd w0 F p l n nm f w) (hc : Chg H w w1) (hd : Dj F H) (hH : ∀ k, H k → Bd ≤ k) : QMem Bd w0 F p l n nm f w1 :=
  ⟨h.q.chg hc hd, h.new, h.bel.trans (hc.below (fun i hi hf => by have := hH i hf; omega) h.sz), Nat.le_trans h.sz hc.size⟩
theorem WW.putA (h : WW w0 F p l f A aA cA GA B aB cB GB w) (hs : Sl w1 3 1 a' (A.length + 1) c' (ints .i64 A ++ ints .i64 [x]) G') (hc : Chg (Opt GA) w w1) (hG : G' = GA ∨ G' = some w.heap.size) : WW w0 F p l f (A ++ [x]) a' c' G' B aB cB GB w1 := by
  refine ⟨h.q.far hc (fun k k1 k2 => (h.ga k k2).1 k1) (fun k hk => (h.ga k hk).2), by rw [ints_append] at hs; simpa using hs, h.sb.chg hc (fun g hg hh => h.ne g hh hg), fun g hg => ?_, h.gb, fun g hg => ?_⟩
  · rcases hG with h1 | h1 <;> rw [h1] at hg
    · exact h.ga g hg
    · injection hg with hg
      subst hg
      exact ⟨fun hh => by have := h.q.q.lt _ hh; omega, h.q.sz⟩
  · rcases hG with h1 | h1 <;> rw [h1] at hg
    · exact h.ne g hg
    · injection hg with hg
      subst hg
      intro hh; have := h.sb.lt _ hh; omega
theorem WW.flip (h : WW w0 F p l f A aA cA GA B aB cB GB w) : WW w0 F p l f B aB cB GB A aA cA GA w := ⟨h.q, h.sb, h.sa, h.gb, h.ga, fun g h1 h2 => h.ne g h2 h1⟩
theorem WW.putB (h : WW w0 F p l f A aA cA GA B aB cB GB w) (hs : Sl w1 3 1 a' (B.length + 1) c' (ints .i64 B ++ ints .i64 [x]) G') (hc : Chg (Opt GB) w w1) (hG : G' = GB ∨ G' = some w.heap.size) : WW w0 F p l f A aA cA GA (B ++ [x]) a' c' G' w1 := (h.flip.putA hs hc hG).flip
end
end Go.Proofs.Ythbkmjigplolgaa
