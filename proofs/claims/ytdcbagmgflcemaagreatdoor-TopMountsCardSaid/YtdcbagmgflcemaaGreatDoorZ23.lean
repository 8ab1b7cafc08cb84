/- The contract of slices.Insert of one timer. Conditions: at most 4294967295 timers · Contracts of package wheel: New, find, Next. Conditions: at most 1000 timers. -/
import Derived.Test.YtdcbagmgflcemaaGreatDoorZ04
import Derived.Test.YtdcbagmgflcemaaGreatDoorZ07
import Derived.RegionTactic
import Derived.BigRegion
import Derived.Deep.RegionLaw
import Derived.Deep.QuietTactic
import Derived.BigQuiet
namespace Go.Proofs.YtdcbagmgflcemaaGreatDoor
open Go.ChangeShapes Go.WideShapes Go.ChangeAt Go.RowKit
set_option linter.unusedVariables false
/-- A timer: when it is due, and whose it is. -/
structure Tm where
  at_ : Int
  id : Int
def tm (x : Tm) : List Value := [.int .u32 x.at_, .int .i64 x.id]
section
variable {P : Program}
end
end Go.Proofs.YtdcbagmgflcemaaGreatDoor
namespace Go.Proofs.YtdcbagmgflcemaaGreatDoor
open Go.ChangeShapes Go.WideShapes Go.ChangeAt Go.RowKit
set_option linter.unusedVariables false
/-- In block p lies a wheel: how late it is, and its timers. -/
structure WA (w : World) (F : Nat → Prop) (p : Nat) (now : Int) (l : List Tm) (a : Option Addr) (c : Nat) (G : Option Nat) : Prop where
  blk : Blk w p 157 [.int .u32 now, .slice a l.length c]
  sl : Sl w 271 2 a l.length c (l.flatMap tm) G
  fp : F p
  fg : ∀ g, G = some g → F g
  lt : ∀ k, F k → k < w.heap.size
def WhAt (w : World) (F : Nat → Prop) (p : Nat) (now : Int) (l : List Tm) : Prop := ∃ a c G, WA w F p now l a c G
section
variable {w w' : World} {F H : Nat → Prop} {p : Nat} {now : Int} {l : List Tm} {a : Option Addr} {c : Nat} {G : Option Nat}
theorem WA.chg (h : WA w F p now l a c G) (hc : Chg H w w') (hd : Dj F H) : WA w' F p now l a c G :=
  ⟨h.blk.chg hc (hd p h.fp), h.sl.chg hc (fun g hg => hd g (h.fg g hg)), h.fp, h.fg, fun k hk => Nat.lt_of_lt_of_le (h.lt k hk) hc.size⟩
theorem WA.nil (h : WA w F p now l a c G) (hc : Chg Nil w w') : WA w' F p now l a c G := h.chg hc (fun _ _ h => h)
theorem WhAt.chg (h : WhAt w F p now l) (hc : Chg H w w') (hd : Dj F H) : WhAt w' F p now l := by
  obtain ⟨a, c, G, h⟩ := h
  exact ⟨a, c, G, h.chg hc hd⟩
theorem WhAt.lt (h : WhAt w F p now l) : ∀ k, F k → k < w.heap.size := by
  obtain ⟨a, c, G, h⟩ := h
  exact h.lt
theorem WA.ne (h : WA w F p now l a c G) : G ≠ some p := h.sl.ne_blk h.blk (by decide)
theorem WA.c0 (h : WA w F p now l a c G) : w.cell? ⟨p, 0, none⟩ = some (.int .u32 now) := h.blk.cell 0
theorem WA.c1 (h : WA w F p now l a c G) : w.cell? ⟨p, 1, none⟩ = some (.slice a l.length c) := h.blk.cell 1
/-- Other timers are laid. -/
theorem WA.lay {w1 : World} {a' : Option Addr} {c' : Nat} {G' : Option Nat} {m : List Tm} (h : WA w F p now l a c G) (hc : Chg (Opt G) w w1) (hs : Sl w1 271 2 a' m.length c' (m.flatMap tm) G') :
    WA (w1.setCell ⟨p, 1, none⟩ (.slice a' m.length c')) (Or2 F (Opt G')) p now m a' c' G' := by
  have hb := h.blk.chg hc h.ne
  have hq1 := hs.ne_blk hb (by decide)
  refine ⟨hb.set 1 _, hs.set_far (p := ⟨p, 1, none⟩) hq1 _, .inl h.fp, fun g hg => .inr hg, ?_⟩
  rintro k (hF | hG')
  · have h1 := h.lt k hF; have := hc.size; simp [World.setCell]; omega
  · have := hs.lt k hG'; simpa [World.setCell] using this
theorem WA.late (h : WA w F p now l a c G) (n : Int) : WA (w.setCell ⟨p, 0, none⟩ (.int .u32 n)) F p n l a c G :=
  ⟨h.blk.set 0 _, h.sl.set_far (p := ⟨p, 0, none⟩) h.ne _, h.fp, h.fg, fun k hk => by simpa [World.setCell] using h.lt k hk⟩
end
theorem wnew_ok (now : Int) (w : World) : Calls Tryz.prog 28 #[.int .u32 now] w fun e w' => ∃ F p, e = .returned (.pointer (some ⟨p, 0, none⟩)) ∧ WhAt w' F p now [] ∧ Chg Nil w w' ∧ Grew w.heap.size Nil F := by
  go_enter Tryz.func28, Tryz.ntmps28
  go_wp2
  go_ret
  refine ⟨One w.heap.size, w.heap.size, rfl, ⟨none, 0, none, Blk.new w 157 [.int .u32 now, .slice none 0 0], Sl.empty _ _ _ _, rfl, (fun g h => by cases h), ?_⟩, (Chg.refl _ _).alloc _, ?_⟩
  · intro k hk; rw [show k = w.heap.size from hk]; simp
  · intro k hk; exact .inr (Nat.le_of_eq (show k = w.heap.size from hk).symm)
end Go.Proofs.YtdcbagmgflcemaaGreatDoor
