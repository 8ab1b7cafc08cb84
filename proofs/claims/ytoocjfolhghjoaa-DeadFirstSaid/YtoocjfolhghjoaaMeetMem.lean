/- What stands in memory while the laws on deadlines run: the class of tasks, and a row of counts. No condition. -/
import Derived.Test.YtoocjfolhghjoaaDeadBegun
import Derived.Test.YtoocjfolhghjoaaSets
namespace Go.Proofs.Ytoocjfolhghjoaa
open Go.ChangeShapes Go.WideShapes Go.ChangeAt Go.RowKit
set_option linter.unusedVariables false
/-- The class, in blocks from B on; nothing below B has changed. -/
structure DMem (B : Nat) (w0 : World) (F : Nat → Prop) (p now : Nat) (ts : List DT) (w : World) : Prop where
  dead : DeadAt w F p now ts
  new : ∀ k, F k → B ≤ k
  bel : Below B w0 w
section
variable {B : Nat} {w0 w w' : World} {F H : Nat → Prop} {p now : Nat} {ts : List DT}
theorem DMem.alloc (h : DMem B w0 F p now ts w) (hB : B ≤ w.heap.size) (o : Obj) : DMem B w0 F p now ts (w.alloc o) := ⟨h.dead.chg ((Chg.refl Nil w).alloc o) (fun _ _ h => h), h.new, h.bel.alloc hB o⟩
theorem DMem.drewN (h : DMem B w0 F p now ts w) (n : Nat) : DMem B w0 F p now ts (w.drewN n) := by
  obtain ⟨⟨a, c, G, h1⟩, h2, h3⟩ := h
  exact ⟨⟨a, c, G, h1.drewN n⟩, h2, ⟨h3.os, h3.tape, h3.output, h3.size, h3.block⟩⟩
theorem DMem.size (h : DMem B w0 F p now ts w) : w0.heap.size ≤ w.heap.size := h.bel.size
theorem DMem.step {F' : Nat → Prop} {now' : Nat} {ts' : List DT} (h : DMem B w0 F p now ts w) (hd : DeadAt w' F' p now' ts') (hc : Chg F w w') (hg : Grew w.heap.size F F') (hB : B ≤ w.heap.size) : DMem B w0 F' p now' ts' w' :=
  ⟨hd, fun k hk => by
    rcases hg k hk with h1 | h1
    · exact h.new k h1
    · omega, h.bel.trans (hc.below (fun i hi hf => by have := h.new i hf; omega) hB)⟩
theorem DMem.chg (h : DMem B w0 F p now ts w) (hc : Chg H w w') (hd : Dj F H) (hB : B ≤ w.heap.size) (hH : ∀ k, H k → B ≤ k) : DMem B w0 F p now ts w' :=
  ⟨h.dead.chg hc hd, h.new, h.bel.trans (hc.below (fun i hi hf => by have := hH i hf; omega) hB)⟩
end
/-- .. and a row of counts beside it. -/
structure GMem (B : Nat) (w0 : World) (F : Nat → Prop) (p now : Nat) (ts : List DT) (gl n : Nat) (f : Nat → Nat) (w : World) : Prop where
  d : DMem B w0 F p now ts w
  row : Blk w gl 3 (cellsN n f)
  ge : B ≤ gl
  off : ¬ F gl
  sz : B ≤ w.heap.size
section
variable {B : Nat} {w0 w w' : World} {F : Nat → Prop} {p now : Nat} {ts : List DT} {gl n : Nat} {f g : Nat → Nat}
theorem GMem.alloc (h : GMem B w0 F p now ts gl n f w) (o : Obj) : GMem B w0 F p now ts gl n f (w.alloc o) := ⟨h.d.alloc h.sz o, h.row.alloc o, h.ge, h.off, by have := h.sz; simp; omega⟩
theorem GMem.drewN (h : GMem B w0 F p now ts gl n f w) (k : Nat) : GMem B w0 F p now ts gl n f (w.drewN k) := ⟨h.d.drewN k, h.row.drewN k, h.ge, h.off, h.sz⟩
theorem GMem.step {F' : Nat → Prop} {now' : Nat} {ts' : List DT} (h : GMem B w0 F p now ts gl n f w) (hd : DeadAt w' F' p now' ts') (hc : Chg F w w') (hg : Grew w.heap.size F F') : GMem B w0 F' p now' ts' gl n f w' :=
  ⟨h.d.step hd hc hg h.sz, h.row.chg hc h.off, h.ge, fun hh => by
    rcases hg gl hh with h1 | h1
    · exact h.off h1
    · have := h.row.lt; omega, Nat.le_trans h.sz hc.size⟩
theorem GMem.put (h : GMem B w0 F p now ts gl n f w) (k : Nat) (v : Int) (hv : v = (g k : Int)) (ho : ∀ i, i ≠ k → g i = f i) : GMem B w0 F p now ts gl n g (w.setCell ⟨gl, k, none⟩ (.int .i64 v)) := by
  refine ⟨h.d.chg ((Chg.refl (One gl) w).setCell (p := ⟨gl, k, none⟩) (.inl (show One gl gl from rfl)) _) (fun i h1 h2 => h.off ((show i = gl from h2) ▸ h1)) h.sz (fun i hi => by rw [show i = gl from hi]; exact h.ge), ?_, h.ge, h.off, by simpa [World.setCell] using h.sz⟩
  have := h.row.set k (.int .i64 v)
  rwa [cellsN_set n f g k v hv ho] at this
end
/-- Reading what lies below. -/
theorem Rd.below {B : Nat} {w0 w : World} {R : Nat → Prop} {s n c : Nat} {a : Option Addr} {xs : List Value} (h : Rd w0 R s a n c xs) (hb : Below B w0 w) (hR : ∀ g, R g → g < B) : Rd w R s a n c xs := by
  obtain ⟨h1, h2, h3, h4⟩ := h
  refine ⟨h1, h2, h3, fun hn => ?_⟩
  obtain ⟨g, off, r1, r2, r3, r4⟩ := h4 hn
  exact ⟨g, off, r1, Nat.lt_of_lt_of_le r2 hb.size, r3, fun j hj => (hb.cell (p := ⟨g, off + j, none⟩) (hR g r3)).trans (r4 j hj)⟩
theorem mul_quo (now p c : Nat) (h1 : now ≤ 3000) (h2 : 1 ≤ p) (h3 : c ≤ p) : wrap64 (wrap64 ((now : Int) / (p : Int)) * (c : Int)) = ((now / p * c : Nat) : Int) := by
  have hm : now / p * c ≤ now := Nat.le_trans (Nat.mul_le_mul_left _ h3) (Nat.div_mul_le_self now p)
  exact mulq_wrap now p c (by omega) (by omega)
end Go.Proofs.Ytoocjfolhghjoaa
