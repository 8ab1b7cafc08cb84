/- Several things in memory, apart from each other: what a call to one of them keeps. No program in sight; no condition. -/
import Derived.Test.YtdelelpfombfbaaSlices
import Derived.Test.YtdelelpfombfbaaMem2
namespace Go.Proofs.Ytdelelpfombfbaa
open Go.ChangeShapes Go.WideShapes Go.ChangeAt Go.RowKit
set_option linter.unusedVariables false
/-- A thing in memory: what is so of it, its blocks given. -/
structure Thing where
  is : (Nat → Prop) → World → Prop
  keep : ∀ {F H : Nat → Prop} {w w' : World}, is F w → Chg H w w' → Dj F H → is F w'
  lt : ∀ {F : Nat → Prop} {w : World}, is F w → ∀ k, F k → k < w.heap.size
/-- All these things are there, apart; what was there at first is as it was. -/
def Things (Ts : List Thing) (w0 w : World) : Prop := Below w0.heap.size w0 w ∧ ∃ Fs : List (Nat → Prop), Fs.length = Ts.length ∧ Sep w0.heap.size w.heap.size Fs ∧ ∀ (i : Nat) T F, Ts[i]? = some T → Fs[i]? = some F → T.is F w
section
variable {Ts : List Thing} {T T' : Thing} {w0 w w' : World} {F F' : Nat → Prop} {i : Nat}
theorem Things.empty (w : World) : Things [] w w := ⟨Below.refl _ _, [], rfl, Sep.empty _ _, fun i T F h => by simp at h⟩
theorem Things.size (h : Things Ts w0 w) : w0.heap.size ≤ w.heap.size := h.1.size
theorem Things.get (h : Things Ts w0 w) (hi : Ts[i]? = some T) : ∃ F, T.is F w ∧ (∀ k, F k → w0.heap.size ≤ k) := by
  obtain ⟨_, Fs, h1, h2, h3⟩ := h
  have hlt : i < Fs.length := by rw [h1]; exact (List.getElem?_eq_some_iff.1 hi).1
  exact ⟨Fs[i], h3 i T _ hi (List.getElem?_eq_getElem hlt), h2.ge i (List.getElem?_eq_getElem hlt)⟩
theorem Things.nil (h : Things Ts w0 w) (hc : Chg Nil w w') : Things Ts w0 w' := by
  obtain ⟨h0, Fs, h1, h2, h3⟩ := h
  exact ⟨below_nil h0 hc, Fs, h1, h2.grow hc.size, fun i T F hT hF => T.keep (h3 i T F hT hF) hc (fun _ _ h => h)⟩
theorem Things.push (h : Things Ts w0 w) (hc : Chg Nil w w') (hT : T.is F w') (hg : ∀ k, F k → w.heap.size ≤ k) : Things (T :: Ts) w0 w' := by
  obtain ⟨h0, Fs, h1, h2, h3⟩ := h.nil hc
  obtain ⟨g0, Gs, g1, g2, g3⟩ := h
  refine ⟨h0, F :: Gs, by simp [g1], g2.cons (fun k hk => ⟨hg k hk, T.lt hT k hk⟩) hc.size g0.size, fun i U H hU hH => ?_⟩
  cases i with
  | zero => simp at hU hH; subst hU; subst hH; exact hT
  | succ i => simp only [List.getElem?_cons_succ] at hU hH; exact U.keep (g3 i U H hU hH) hc (fun _ _ h => h)
theorem Things.pop (h : Things (T :: Ts) w0 w) : Things Ts w0 w := by
  obtain ⟨h0, Fs, h1, h2, h3⟩ := h
  cases Fs with
  | nil => simp at h1
  | cons F Fs =>
    refine ⟨h0, Fs, by simpa using h1, ⟨fun i H k hi hk => h2.1 (i + 1) H k (by simpa using hi) hk, fun i j H K hne hi hj => h2.2 (i + 1) (j + 1) H K (by omega) (by simpa using hi) (by simpa using hj)⟩, fun i U H hU hH => h3 (i + 1) U H (by simpa using hU) (by simpa using hH)⟩
theorem Things.put (h : Things Ts w0 w) (hi : Ts[i]? = some T) : ∃ F, T.is F w ∧ (∀ k, F k → w0.heap.size ≤ k) ∧ ∀ (T' : Thing) (F' : Nat → Prop) (w' : World), T'.is F' w' → Chg F w w' → Grew w.heap.size F F' → Things (Ts.set i T') w0 w' := by
  obtain ⟨h0, Fs, h1, h2, h3⟩ := h
  have hlt : i < Fs.length := by rw [h1]; exact (List.getElem?_eq_some_iff.1 hi).1
  have hF := List.getElem?_eq_getElem hlt
  refine ⟨Fs[i], h3 i T _ hi hF, h2.ge i hF, fun T' F' w' hT hc hg => ?_⟩
  refine ⟨below_chg h0 hc (h2.ge i hF), Fs.set i F', by simp [h1], h2.upd i hF hg (T'.lt hT) hc.size h0.size, fun j U H hU hH => ?_⟩
  rw [List.getElem?_set] at hU hH
  by_cases hij : i = j
  · subst hij
    rw [if_pos rfl, if_pos hlt] at hH
    rw [if_pos rfl, if_pos (by rw [← h1]; exact hlt)] at hU
    injection hU with hU
    injection hH with hH
    subst hU; subst hH
    exact hT
  · rw [if_neg hij] at hU hH
    exact U.keep (h3 j U H hU hH) hc (h2.dj j i hH hF (fun h => hij h.symm))
/-- A call to one of them. -/
theorem Things.call {P : Program} {f : FuncId} {args : Array Value} {R : Ending → Prop} (h : Things Ts w0 w) (hi : Ts[i]? = some T) (T' : Thing)
    (hc : ∀ F, T.is F w → Calls P f args w fun e w' => R e ∧ ∃ F', T'.is F' w' ∧ Chg F w w' ∧ Grew w.heap.size F F') : Calls P f args w fun e w' => R e ∧ Things (Ts.set i T') w0 w' := by
  obtain ⟨F, k1, _, k3⟩ := h.put hi
  refine (hc F k1).mono ?_
  rintro e w' ⟨hr, F', x1, x2, x3⟩
  exact ⟨hr, k3 T' F' w' x1 x2 x3⟩
theorem Things.head (h : Things (T :: Ts) w0 w) (hT : ∀ F w, T.is F w → T'.is F w) : Things (T' :: Ts) w0 w := by
  obtain ⟨F, k1, _, k3⟩ := h.put (i := 0) rfl
  have := k3 T' F w (hT F w k1) (Chg.refl _ _) (Grew.refl _ _)
  exact this
end
/-- A row of small numbers, no longer than N. -/
def ThI (N : Nat) (a : Option Addr) (n c : Nat) : Thing where
  is F w := ∃ G zs, F = Opt G ∧ Sl w 3 1 a n c (ints .i64 zs) G ∧ n ≤ N ∧ ∀ z ∈ zs, z ≤ 16
  keep := by
    rintro F H w w' ⟨G, zs, rfl, h1, h2, h3⟩ hc hd
    exact ⟨G, zs, rfl, h1.chg hc (fun g hg hh => hd g hg hh), h2, h3⟩
  lt := by
    rintro F w ⟨G, zs, rfl, h1, h2, h3⟩ k hk
    exact h1.lt k hk
/-- A row, whatever is in it. -/
def ThS (a : Option Addr) (n c : Nat) : Thing where
  is F w := ∃ G xs, F = Opt G ∧ Sl w 3 1 a n c xs G
  keep := by
    rintro F H w w' ⟨G, zs, rfl, h1⟩ hc hd
    exact ⟨G, zs, rfl, h1.chg hc (fun g hg hh => hd g hg hh)⟩
  lt := by
    rintro F w ⟨G, zs, rfl, h1⟩ k hk
    exact h1.lt k hk
theorem thI_thS {N : Nat} {a : Option Addr} {n c : Nat} (F : Nat → Prop) (w : World) (h : (ThI N a n c).is F w) : (ThS a n c).is F w := by
  obtain ⟨G, zs, h1, h2, _⟩ := h
  exact ⟨G, _, h1, h2⟩
/-- A block of cells. -/
def ThB (g : Nat) (t : TypeId) (cs : List Value) : Thing where
  is F w := F = One g ∧ Blk w g t cs
  keep := by
    rintro F H w w' ⟨rfl, h1⟩ hc hd
    exact ⟨rfl, h1.chg hc (hd g rfl)⟩
  lt := by
    rintro F w ⟨rfl, h1⟩ k hk
    rw [show k = g from hk]; exact h1.lt
/-- A row that is told. -/
theorem Things.told {Ts : List Thing} {w0 w w' : World} {a : Option Addr} {n c : Nat} {G : Option Nat} {zs : List Int} (N : Nat) (h : Things Ts w0 w) (h1 : Sl w' 3 1 a n c (ints .i64 zs) G) (h2 : Chg Nil w w') (h3 : ∀ g, G = some g → w.heap.size ≤ g) (hn : n ≤ N) (hz : ∀ z ∈ zs, z ≤ 16) : Things (ThI N a n c :: Ts) w0 w' :=
  h.push h2 (T := ThI N a n c) (F := Opt G) ⟨G, zs, rfl, h1, hn, hz⟩ (fun k hk => h3 k hk)
/-- All cells of a row, up to its capacity. -/
theorem Sl.full {w : World} {e : TypeId} {a : Option Addr} {n c : Nat} {xs : List Value} {G : Option Nat} (h : Sl w e 1 a n c xs G) : ∃ ys, Sl w e 1 a c c ys G := by
  obtain ⟨h1, h2, h3, ⟨h0, h4⟩ | ⟨g, off, cur, r1, r2, r3, r4, r5⟩⟩ := h
  · exact ⟨[], Nat.le_refl _, h2, by simp [h0], .inl ⟨h0, h4⟩⟩
  · refine ⟨(List.range c).map (fun j => cur.getD (off + j) (.int .i64 0)), Nat.le_refl _, h2, by simp, .inr ⟨g, off, cur, r1, r2, r3, r4, fun j hj => ?_⟩⟩
    rw [List.getElem?_map, List.getElem?_range (by omega), Array.getElem?_eq_getElem (by omega)]
    simp only [Option.map_some, Option.some.injEq]
    rw [Array.getD_eq_getD_getElem?, Array.getElem?_eq_getElem (by omega)]
    rfl
end Go.Proofs.Ytdelelpfombfbaa
