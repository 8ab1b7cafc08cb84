/- The kernel reads of the pipe. Conditions: a descriptor that takes of it · The kernel's calls about descriptors: a pipe is made. Conditions: the first one · The kernel writes into the pipe. Conditions: a descriptor that gives to it · The kernel's answers: what a call leaves. No program is walked here; no condition · The kernel's do: which kind of call it is. Conditions: a call about descriptors, an end, a fork, a wait. -/
import Derived.Test.YtdcbagmgflcemaaGreatDoorZ24
namespace Go.Proofs.YtdcbagmgflcemaaGreatDoor
open Go.ChangeShapes Go.WideShapes Go.ChangeAt Go.RowKit
set_option linter.unusedVariables false
/-- A call. -/
def clC (num a b c : Int) (d : Value) : List Value := [.int .i64 num, .int .i64 a, .int .i64 b, .int .i64 c, .string ⟨#[]⟩, .string ⟨#[]⟩, d]
end Go.Proofs.YtdcbagmgflcemaaGreatDoor
namespace Go.Proofs.YtdcbagmgflcemaaGreatDoor
open Go.ChangeShapes Go.WideShapes Go.ChangeAt Go.RowKit
set_option linter.unusedVariables false
theorem boxes2 (w : World) (cc : List Value) :
    Blk ((w.alloc (.cells cc.toArray 36)).alloc (.cells anZ.toArray 33)) w.heap.size 36 cc ∧
    Blk ((w.alloc (.cells cc.toArray 36)).alloc (.cells anZ.toArray 33)) (w.heap.size + 1) 33 anZ := by
  refine ⟨(Blk.new w _ cc).alloc _, ?_⟩
  have := Blk.new (w.alloc (.cells cc.toArray 36)) 33 anZ
  rwa [alloc_size] at this
/-- The answer is laid in a block of its own: the kernel stays. -/
theorem KPost.laid {w V w2 W : World} {B pk b : Nat} {U : Nat → Prop} {X : KX} (hV : Chg Nil w V) (h : KPost V B U pk X w2) (hb : ¬ U b) (hb1 : w.heap.size ≤ b) (hb2 : b < V.heap.size) (hc : Chg (One b) w2 W) : KPost w B U pk X W := by
  obtain ⟨U2, a1, a2, a3⟩ := h
  have hU2 : ¬ U2 b := fun hh => by
    rcases a3 b hh with h1 | h1
    · exact hb h1
    · omega
  refine ⟨U2, a1.chg hc (fun k hk hh => hU2 (by rw [← show k = b from hh]; exact hk)), ((hV.mono (fun _ _ h => h.elim)).trans a2 (fun _ _ h => h)).one (.inr hb1) hc, fun k hk => ?_⟩
  rcases a3 k hk with h1 | h1
  · exact .inl h1
  · exact .inr (Nat.le_trans hV.size h1)
end Go.Proofs.YtdcbagmgflcemaaGreatDoor
namespace Go.Proofs.YtdcbagmgflcemaaGreatDoor
open Go.ChangeShapes Go.WideShapes Go.ChangeAt Go.RowKit
set_option linter.unusedVariables false
end Go.Proofs.YtdcbagmgflcemaaGreatDoor
namespace Go.Proofs.YtdcbagmgflcemaaGreatDoor
open Go.ChangeShapes Go.WideShapes Go.ChangeAt Go.RowKit
set_option linter.unusedVariables false
/-- An answer with some bytes, and the kernel behind it. -/
def AnPost (w : World) (B : Nat) (U : Nat → Prop) (pk : Nat) (XP : KX → Prop) (n a b : Int) (ds : List Int) (vs : List Value) (w' : World) : Prop :=
  ∃ X sa sc G, XP X ∧ vs = anC n a b (.slice sa ds.length sc) ∧ Sl w' 5 1 sa ds.length sc (bys ds) G ∧ KPost w B U pk X w'
section
variable {w w' V W : World} {B pk b0 : Nat} {U : Nat → Prop} {X : KX} {XP : KX → Prop} {n a b : Int} {ds : List Int} {vs cs : List Value}
theorem AnPost.len (h : AnPost w B U pk XP n a b ds vs w') : vs.length = 11 := by
  obtain ⟨X, sa, sc, G, hX, rfl, _⟩ := h
  rfl
theorem AnPost.one (h : AnPost w B U pk XP n a b ds vs w') : ∀ u ∈ vs, u.oneCell' = true := by
  obtain ⟨X, sa, sc, G, hX, rfl, _⟩ := h
  exact anC_one _ _ _ _ rfl
theorem AnPost.size (h : AnPost w B U pk XP n a b ds vs w') : w.heap.size ≤ w'.heap.size := by
  obtain ⟨X, sa, sc, G, hX, rfl, _, U2, _, h2, _⟩ := h
  exact h2.size
theorem AnPost.keeps {t : TypeId} (h : AnPost w B U pk XP n a b ds vs w') (hB : Blk w b0 t cs) (hb : ¬ U b0) : Blk w' b0 t cs := by
  obtain ⟨X, sa, sc, G, hX, rfl, _, U2, _, h2, _⟩ := h
  exact hB.chg h2 hb
theorem AnPost.laid (hV : Chg Nil w V) (h : AnPost V B U pk XP n a b ds vs w') (hb : ¬ U b0) (h1 : w.heap.size ≤ b0) (h2 : b0 < V.heap.size) (hB : Blk w' b0 33 cs) (hc : Chg (One b0) w' W) : AnPost w B U pk XP n a b ds vs W := by
  obtain ⟨X, sa, sc, G, hX, rfl, hs, hk⟩ := h
  exact ⟨X, sa, sc, G, hX, rfl, hs.chg hc (fun g hg hh => hs.ne_blk hB (by decide) (by rw [hg, show g = b0 from hh])), hk.laid hV hb h1 h2 hc⟩
theorem AnPost.of (hX : XP X) (h : KPost w B U pk X w') : AnPost w B U pk XP n a b [] (anC n a b (.slice none 0 0)) w' := ⟨X, none, 0, none, hX, rfl, Sl.empty _ _ _ _, h⟩
theorem AnPost.same (hX : XP X) (h : KAt w B U pk X) (hc : Chg Nil w w') : AnPost w B U pk XP n a b [] (anC n a b (.slice none 0 0)) w' := .of hX ⟨U, h.nil hc, hc.mono (fun _ _ h => h.elim), Grew.refl _ _⟩
theorem AnPost.pre (hV : Chg Nil w V) (h : AnPost V B U pk XP n a b ds vs w') : AnPost w B U pk XP n a b ds vs w' := by
  obtain ⟨X, sa, sc, G, hX, rfl, hs, hk⟩ := h
  exact ⟨X, sa, sc, G, hX, rfl, hs, hk.pre hV⟩
theorem AnPost.nil (h : AnPost w B U pk XP n a b ds vs w') (hc : Chg Nil w' W) : AnPost w B U pk XP n a b ds vs W := by
  obtain ⟨X, sa, sc, G, hX, rfl, hs, hk⟩ := h
  exact ⟨X, sa, sc, G, hX, rfl, hs.chg hc (fun _ _ h => h), hk.nil hc⟩
end
end Go.Proofs.YtdcbagmgflcemaaGreatDoor
namespace Go.Proofs.YtdcbagmgflcemaaGreatDoor
open Go.ChangeShapes Go.WideShapes Go.ChangeAt Go.RowKit
set_option linter.unusedVariables false
end Go.Proofs.YtdcbagmgflcemaaGreatDoor
