/- What stands in memory while the laws on shares run: the class of tasks, and a row of counts. No condition. -/
import Derived.Test.YtpafafleepcjdaaFairs
import Derived.Test.YtpafafleepcjdaaLateP
namespace Go.Proofs.Ytpafafleepcjdaa
open Go.ChangeShapes Go.WideShapes Go.ChangeAt Go.RowKit
set_option linter.unusedVariables false
theorem rest_nat (k n : Int) (w : World) (h1 : 1 ≤ n) (h2 : n ≤ 9223372036854775807) :
    Calls Try.prog 10 #[.int .i64 k, .int .i64 n] w fun e w' => ∃ q : Nat, (q : Int) < n ∧ e = .returned (.int .i64 q) ∧ w = w' := by
  refine (rest_any k n w h1 h2).mono ?_
  rintro e w' ⟨rfl, rfl⟩
  have hb1 := rest_nonneg k n h1
  have hb2 := rest_lt k n h1
  obtain ⟨q, hq⟩ := Int.eq_ofNat_of_zero_le hb1
  exact ⟨q, by omega, by rw [hq], rfl⟩
structure FRow (B : Nat) (w0 : World) (F : Nat → Prop) (p : Nat) (ts : List FT) (gl n : Nat) (f : Nat → Nat) (w : World) : Prop where
  d : FMem B w0 F p ts w
  row : Blk w gl 3 (cellsN n f)
  ge : B ≤ gl
  off : ¬ F gl
section
variable {B : Nat} {w0 w w' : World} {F : Nat → Prop} {p : Nat} {ts : List FT} {gl n : Nat} {f g : Nat → Nat}
theorem FRow.alloc (h : FRow B w0 F p ts gl n f w) (o : Obj) : FRow B w0 F p ts gl n f (w.alloc o) := ⟨h.d.alloc o, h.row.alloc o, h.ge, h.off⟩
theorem FRow.drewN (h : FRow B w0 F p ts gl n f w) (k : Nat) : FRow B w0 F p ts gl n f (w.drewN k) := ⟨h.d.drewN k, h.row.drewN k, h.ge, h.off⟩
theorem FRow.step {F' : Nat → Prop} {ts' : List FT} (h : FRow B w0 F p ts gl n f w) (hd : FairAt w' F' p ts') (hc : Chg F w w') (hg : Grew w.heap.size F F') : FRow B w0 F' p ts' gl n f w' :=
  ⟨h.d.step hd hc hg, h.row.chg hc h.off, h.ge, fun hh => by
    rcases hg gl hh with h1 | h1
    · exact h.off h1
    · have := h.row.lt; omega⟩
theorem FRow.put (h : FRow B w0 F p ts gl n f w) (k : Nat) (v : Int) (hv : v = (g k : Int)) (ho : ∀ i, i ≠ k → g i = f i) : FRow B w0 F p ts gl n g (w.setCell ⟨gl, k, none⟩ (.int .i64 v)) := by
  refine ⟨h.d.chg ((Chg.refl (One gl) w).setCell (p := ⟨gl, k, none⟩) (.inl (show One gl gl from rfl)) _) (fun i h1 h2 => h.off ((show i = gl from h2) ▸ h1)) (fun i hi => by rw [show i = gl from hi]; exact h.ge), ?_, h.ge, h.off⟩
  have := h.row.set k (.int .i64 v)
  rwa [cellsN_set n f g k v hv ho] at this
theorem FRow.made {w1 : World} (h : FMem B w0 F p ts w1) (n : Nat) : FRow B w0 F p ts w1.heap.size n (fun _ => 0) (w1.alloc (.cells (List.replicate n (.int .i64 0)).toArray 3)) := by
  refine ⟨h.alloc _, ?_, h.sz, fun hh => ?_⟩
  · rw [cellsN_zero]; exact Blk.new w1 _ _
  · have := h.fair.lt _ hh; omega
end
end Go.Proofs.Ytpafafleepcjdaa
