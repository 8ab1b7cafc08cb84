/- Words for memory: what a call may change (Chg), a block known whole (Blk), a slice that is read (Rd), a slice with a block of its own (Sl), and append onto such a slice. No program in sight; no condition. -/
import Derived.Below
import Derived.WalkKit
import Derived.Deep.Upon
import Derived.Deep.Draws
import Derived.Laws.Rows
import Derived.Laws.MakeOwn
import Derived.Laws.OwnMore
import Derived.Lib.AppendZeros
namespace Go.Proofs.YtdcbagmgflcemaaGreatDoor
open Go.RowKit
theorem hid {p : Prop} (h : p) : Hid p := h
/-- Nothing but the blocks of F, and new ones, may differ. -/
structure Chg (F : Nat → Prop) (w w' : World) : Prop where
  os : w'.os = w.os
  tape : w'.tape = w.tape
  output : w'.output = w.output
  size : w.heap.size ≤ w'.heap.size
  block : ∀ k, k < w.heap.size → ¬ F k → w'.heap[k]? = w.heap[k]?
/-- No block. -/
def Nil : Nat → Prop := fun _ => False
/-- Just this block. -/
def One (g : Nat) : Nat → Prop := fun k => k = g
/-- The block of an option. -/
def Opt (G : Option Nat) : Nat → Prop := fun k => G = some k
/-- One or the other. -/
def Or2 (F G : Nat → Prop) : Nat → Prop := fun k => F k ∨ G k
/-- Blocks up to here. -/
def Upto (b : Nat) : Nat → Prop := fun k => k < b

section
variable {F G : Nat → Prop} {w w1 w2 w' : World}
theorem Chg.refl (F : Nat → Prop) (w : World) : Chg F w w := ⟨rfl, rfl, rfl, Nat.le_refl _, fun _ _ _ => rfl⟩
theorem Chg.trans (h : Chg F w w1) (k : Chg G w1 w2) (hG : ∀ i, i < w.heap.size → G i → F i) : Chg F w w2 :=
  ⟨k.os.trans h.os, k.tape.trans h.tape, k.output.trans h.output, Nat.le_trans h.size k.size,
    fun i hi hF => (k.block i (Nat.lt_of_lt_of_le hi h.size) (fun hg => hF (hG i hi hg))).trans (h.block i hi hF)⟩
theorem Chg.mono (h : Chg F w w') (hG : ∀ i, i < w.heap.size → F i → G i) : Chg G w w' :=
  ⟨h.os, h.tape, h.output, h.size, fun i hi hF => h.block i hi (fun hf => hF (hG i hi hf))⟩
theorem Chg.drew (h : Chg F w w1) : Chg F w w1.drew := ⟨h.os, h.tape, h.output, h.size, h.block⟩
theorem Chg.drewN (h : Chg F w w1) (n : Nat) : Chg F w (w1.drewN n) := ⟨h.os, h.tape, h.output, h.size, h.block⟩
theorem Chg.alloc (h : Chg F w w1) (o : Obj) : Chg F w (w1.alloc o) :=
  ⟨h.os, h.tape, h.output, Nat.le_trans h.size (by simp), fun i hi hF => (Below.heap_alloc w1 o i (Nat.lt_of_lt_of_le hi h.size)).trans (h.block i hi hF)⟩
theorem Chg.setCell (h : Chg F w w1) {p : Addr} (hp : F p.block ∨ w.heap.size ≤ p.block) (u : Value) : Chg F w (w1.setCell p u) :=
  ⟨h.os, h.tape, h.output, by simpa [World.setCell] using h.size, fun i hi hF => (Below.heap_setCell w1 p u i (by
    rintro rfl
    rcases hp with hp | hp
    · exact hF hp
    · omega)).trans (h.block i hi hF)⟩
theorem Chg.below {B : Nat} (h : Chg F w w') (hF : ∀ i, i < B → ¬ F i) (hB : B ≤ w.heap.size) : Below B w w' :=
  ⟨h.os, h.tape, h.output, h.size, fun i hi => h.block i (by omega) (hF i hi)⟩
theorem Chg.cell (h : Chg F w w') {a : Addr} (hlt : a.block < w.heap.size) (hF : ¬ F a.block) : w'.cell? a = w.cell? a := World.cell?_of_block (h.block _ hlt hF)
end

/-- Block g is just these cells, of this type, none of them frozen. -/
def Blk (w : World) (g : Nat) (t : TypeId) (cs : List Value) : Prop := w.heap[g]? = some (.cells cs.toArray t (0, 0))
section
variable {F : Nat → Prop} {w w1 w' : World} {g : Nat} {t : TypeId} {cs : List Value}
theorem Blk.lt (h : Blk w g t cs) : g < w.heap.size := (Array.getElem?_eq_some_iff.1 h).1
theorem Blk.cell (h : Blk w g t cs) (i : Nat) : w.cell? ⟨g, i, none⟩ = cs[i]? := by
  have := cell_of_row w g i cs.toArray t (0, 0) h
  simpa using this
theorem Blk.frozen (h : Blk w g t cs) (i : Nat) : w.frozen? ⟨g, i, none⟩ = false := by
  unfold Blk at h
  simp [World.frozen?, h]
theorem Blk.new (w : World) (t : TypeId) (cs : List Value) : Blk (w.alloc (.cells cs.toArray t)) w.heap.size t cs := by
  unfold Blk World.alloc
  simp
theorem Blk.drew (h : Blk w g t cs) : Blk w.drew g t cs := h
theorem Blk.drewN (h : Blk w g t cs) (n : Nat) : Blk (w.drewN n) g t cs := h
theorem Blk.alloc (h : Blk w g t cs) (o : Obj) : Blk (w.alloc o) g t cs := (Below.heap_alloc w o g h.lt).trans h
theorem Blk.set (h : Blk w g t cs) (i : Nat) (u : Value) : Blk (w.setCell ⟨g, i, none⟩ u) g t (cs.set i u) := by
  unfold Blk at h ⊢
  simp [World.setCell, Array.getElem?_modify, h]
theorem Blk.far (h : Blk w g t cs) {p : Addr} (hp : g ≠ p.block) (u : Value) : Blk (w.setCell p u) g t cs := (Below.heap_setCell w p u g hp).trans h
theorem Blk.chg (h : Blk w g t cs) (hc : Chg F w w') (hF : ¬ F g) : Blk w' g t cs := (hc.block g h.lt hF).trans h
theorem Blk.below {B : Nat} (h : Blk w g t cs) (hc : Below B w w') (hF : g < B) : Blk w' g t cs := (hc.block g hF).trans h
theorem Blk.ne {g' : Nat} {t' : TypeId} {cs' : List Value} (h : Blk w g t cs) (h' : Blk w g' t' cs') (hne : t ≠ t') : g ≠ g' := by
  rintro rfl
  unfold Blk at h h'
  rw [h] at h'
  injection h' with h'
  injection h' with _ ht
  exact hne ht
end

/-- The slice '.slice a n c', of elements of s cells, reads as the cells xs; they lie in a block of R. -/
def Rd (w : World) (R : Nat → Prop) (s : Nat) (a : Option Addr) (n c : Nat) (xs : List Value) : Prop :=
  n ≤ c ∧ c ≤ maxLen ∧ xs.length = n * s ∧
    (0 < n → ∃ g off, a = some ⟨g, off, none⟩ ∧ g < w.heap.size ∧ R g ∧ ∀ j, j < n * s → w.cell? ⟨g, off + j, none⟩ = xs[j]?)
/-- The slice '.slice a n c', of elements of s cells and of type e, reads as the cells xs; G is the block in which it lies, its spare room with it (none: it has no room at all). -/
def Sl (w : World) (e : TypeId) (s : Nat) (a : Option Addr) (n c : Nat) (xs : List Value) (G : Option Nat) : Prop :=
  n ≤ c ∧ c ≤ maxLen ∧ xs.length = n * s ∧
    ((c = 0 ∧ G = none) ∨ ∃ g off cur, a = some ⟨g, off, none⟩ ∧ G = some g ∧ w.heap[g]? = some (.cells cur e (0, 0)) ∧ off + c * s ≤ cur.size ∧ ∀ j, j < n * s → cur[off + j]? = xs[j]?)
section
variable {F R : Nat → Prop} {w w1 w' : World} {e : TypeId} {s n c : Nat} {a : Option Addr} {xs : List Value} {G : Option Nat}
theorem cell_in (w : World) {g off : Nat} {cur : Array Value} {e : TypeId} {fr : Nat × Nat} (h : w.heap[g]? = some (.cells cur e fr)) : w.cell? ⟨g, off, none⟩ = cur[off]? := cell_of_row w g off cur e fr h
theorem Rd.len (h : Rd w R s a n c xs) : xs.length = n * s := h.2.2.1
theorem Rd.mono {R' : Nat → Prop} (h : Rd w R s a n c xs) (hR : ∀ g, R g → R' g) : Rd w R' s a n c xs := by
  obtain ⟨h1, h2, h3, h4⟩ := h
  refine ⟨h1, h2, h3, fun hn => ?_⟩
  obtain ⟨g, off, r1, r2, r3, r4⟩ := h4 hn
  exact ⟨g, off, r1, r2, hR g r3, r4⟩
theorem Rd.chg (h : Rd w R s a n c xs) (hc : Chg F w w') (hF : ∀ g, g < w.heap.size → R g → ¬ F g) : Rd w' R s a n c xs := by
  obtain ⟨h1, h2, h3, h4⟩ := h
  refine ⟨h1, h2, h3, fun hn => ?_⟩
  obtain ⟨g, off, r1, r2, r3, r4⟩ := h4 hn
  exact ⟨g, off, r1, Nat.lt_of_lt_of_le r2 hc.size, r3, fun j hj => (hc.cell (a := ⟨g, off + j, none⟩) r2 (hF g r2 r3)).trans (r4 j hj)⟩
theorem Rd.drewN (h : Rd w R s a n c xs) (k : Nat) : Rd (w.drewN k) R s a n c xs := h
theorem Rd.alloc (h : Rd w R s a n c xs) (o : Obj) : Rd (w.alloc o) R s a n c xs := h.chg ((Chg.refl Nil w).alloc o) (fun _ _ _ h => h)
theorem Rd.of_none (w : World) (R : Nat → Prop) (s : Nat) (a : Option Addr) (c : Nat) (hc : c ≤ maxLen) : Rd w R s a 0 c [] := ⟨Nat.zero_le _, hc, by simp, fun h => absurd h (by omega)⟩
theorem Rd.of_blk {g : Nat} {cs : List Value} (h : Blk w g e cs) (hl : cs.length = n * s) (hm : n ≤ maxLen) : Rd w (One g) s (some ⟨g, 0, none⟩) n n cs :=
  ⟨Nat.le_refl _, hm, hl, fun _ => ⟨g, 0, rfl, h.lt, rfl, fun j _ => by rw [Nat.zero_add, h.cell]⟩⟩
theorem Sl.len (h : Sl w e s a n c xs G) : xs.length = n * s := h.2.2.1
theorem Sl.rd (h : Sl w e s a n c xs G) : Rd w (Opt G) s a n c xs := by
  obtain ⟨h1, h2, h3, h4⟩ := h
  refine ⟨h1, h2, h3, fun hn => ?_⟩
  rcases h4 with ⟨hc, _⟩ | ⟨g, off, cur, r1, r2, r3, r4, r5⟩
  · omega
  · refine ⟨g, off, r1, (Array.getElem?_eq_some_iff.1 r3).1, r2, fun j hj => ?_⟩
    rw [cell_in w r3, r5 j hj]
theorem Sl.lt (h : Sl w e s a n c xs G) : ∀ g, G = some g → g < w.heap.size := by
  intro g hg
  obtain ⟨_, _, _, ⟨_, h4⟩ | ⟨g', off, cur, _, r2, r3, _⟩⟩ := h
  · rw [h4] at hg; cases hg
  · rw [r2] at hg; injection hg with hg; subst hg
    exact (Array.getElem?_eq_some_iff.1 r3).1
theorem Sl.chg (h : Sl w e s a n c xs G) (hc : Chg F w w') (hF : ∀ g, G = some g → ¬ F g) : Sl w' e s a n c xs G := by
  have hlt := h.lt
  obtain ⟨h1, h2, h3, h4⟩ := h
  refine ⟨h1, h2, h3, ?_⟩
  rcases h4 with h4 | ⟨g, off, cur, r1, r2, r3, r4, r5⟩
  · exact .inl h4
  · exact .inr ⟨g, off, cur, r1, r2, (hc.block g (hlt g r2) (hF g r2)).trans r3, r4, r5⟩
theorem Sl.drewN (h : Sl w e s a n c xs G) (k : Nat) : Sl (w.drewN k) e s a n c xs G := h
theorem Sl.alloc (h : Sl w e s a n c xs G) (o : Obj) : Sl (w.alloc o) e s a n c xs G := h.chg ((Chg.refl Nil w).alloc o) (fun _ _ h => h)
theorem Sl.empty (w : World) (e : TypeId) (s : Nat) (a : Option Addr) : Sl w e s a 0 0 [] none := ⟨Nat.le_refl _, Nat.zero_le _, by simp, .inl ⟨rfl, rfl⟩⟩
theorem Sl.ne_blk {g : Nat} {t : TypeId} {cs : List Value} (h : Sl w e s a n c xs G) (hb : Blk w g t cs) (hne : e ≠ t) : G ≠ some g := by
  intro hg
  obtain ⟨_, _, _, ⟨_, h4⟩ | ⟨g', off, cur, _, r2, r3, _⟩⟩ := h
  · rw [h4] at hg; cases hg
  · rw [r2] at hg; injection hg with hg; subst hg
    unfold Blk at hb
    rw [r3] at hb
    injection hb with hb
    injection hb with _ ht
    exact hne ht
theorem Sl.set_far (h : Sl w e s a n c xs G) {p : Addr} (hp : G ≠ some p.block) (u : Value) : Sl (w.setCell p u) e s a n c xs G :=
  h.chg (F := One p.block) ((Chg.refl (One p.block) w).setCell (p := p) (.inl (show One p.block p.block from rfl)) u) (fun g hg h => hp (by rw [hg, show g = p.block from h]))
end

/-- What a footprint may have become: some of it, and new blocks. -/
def Grew (N : Nat) (F F' : Nat → Prop) : Prop := ∀ k, F' k → F k ∨ N ≤ k
/-- No block lies in both. -/
def Dj (F G : Nat → Prop) : Prop := ∀ k, F k → G k → False
theorem Grew.refl (N : Nat) (F : Nat → Prop) : Grew N F F := fun _ h => .inl h
theorem Grew.trans {N M : Nat} {F F' F'' : Nat → Prop} (h : Grew N F F') (h' : Grew M F' F'') (hN : N ≤ M) : Grew N F F'' := fun k hk => by
  rcases h' k hk with h1 | h1
  · exact h k h1
  · exact .inr (Nat.le_trans hN h1)
theorem Dj.symm {F G : Nat → Prop} (h : Dj F G) : Dj G F := fun k hf hg => h k hg hf
theorem Dj.grew {N : Nat} {F F' G : Nat → Prop} (h : Dj F G) (hg : Grew N F F') (hl : ∀ k, G k → k < N) : Dj F' G := fun k hf hG => by
  rcases hg k hf with h1 | h1
  · exact h k h1 hG
  · have := hl k hG; omega
theorem Dj.mono {F F' G : Nat → Prop} (h : Dj F G) (hs : ∀ k, F' k → F k) : Dj F' G := fun k hf hg => h k (hs k hf) hg
/-- Numbers as cells. -/
def ints (k : IntKind) (l : List Int) : List Value := l.map (Value.int k)
theorem ints_length (k : IntKind) (l : List Int) : (ints k l).length = l.length := by simp [ints]
theorem ints_one (k : IntKind) (l : List Int) : ∀ u ∈ ints k l, u.oneCell' = true := by
  intro u hu
  obtain ⟨_, _, rfl⟩ := List.mem_map.1 hu
  rfl
theorem ints_get (k : IntKind) (l : List Int) {i : Nat} (h : i < l.length) : (ints k l)[i]? = some (.int k l[i]) := by simp [ints, List.getElem?_eq_getElem h]
theorem ints_append (k : IntKind) (l m : List Int) : ints k l ++ ints k m = ints k (l ++ m) := by simp [ints]
/-- Of a list of things laid one behind the other, s cells each: the i-th cell of the k-th. -/
theorem flat_get {α : Type} (f : α → List Value) (s : Nat) (hs : ∀ x, (f x).length = s) : ∀ (l : List α) (k i : Nat) (hk : k < l.length), i < s → (l.flatMap f)[k * s + i]? = (f l[k])[i]? := by
  intro l
  induction l with
  | nil => intro k i hk; simp at hk
  | cons x l ih =>
    intro k i hk hi
    rw [List.flatMap_cons]
    cases k with
    | zero =>
      rw [Nat.zero_mul, Nat.zero_add, List.getElem?_append_left (by rw [hs]; exact hi)]
      rfl
    | succ k =>
      have h1 := ih k i (by simpa using hk) hi
      rw [List.getElem?_append_right (by rw [hs, Nat.succ_mul]; omega), hs, show (k + 1) * s + i - s = k * s + i by rw [Nat.succ_mul]; omega, h1]
      rfl
theorem flat_len {α : Type} (f : α → List Value) (s : Nat) (hs : ∀ x, (f x).length = s) : ∀ (l : List α), (l.flatMap f).length = l.length * s := by
  intro l
  induction l with
  | nil => simp
  | cons x l ih => rw [List.flatMap_cons, List.length_append, ih, hs, List.length_cons, Nat.succ_mul]; omega
/-- Footprints that lie apart, each from B on, and within the heap. -/
def Sep (B N : Nat) (Fs : List (Nat → Prop)) : Prop :=
  (∀ (i : Nat) F k, Fs[i]? = some F → F k → B ≤ k ∧ k < N) ∧ ∀ (i j : Nat) F G, i ≠ j → Fs[i]? = some F → Fs[j]? = some G → Dj F G
section
variable {B N N' : Nat} {Fs : List (Nat → Prop)} {F F' G : Nat → Prop}
theorem Sep.empty (B N : Nat) : Sep B N [] := ⟨fun i F k h => by simp at h, fun i j F G _ h => by simp at h⟩
theorem Sep.dj (h : Sep B N Fs) (i j : Nat) (hi : Fs[i]? = some F) (hj : Fs[j]? = some G) (hne : i ≠ j) : Dj F G := h.2 i j F G hne hi hj
theorem Sep.ge (h : Sep B N Fs) (i : Nat) (hi : Fs[i]? = some F) : ∀ k, F k → B ≤ k := fun k hk => (h.1 i F k hi hk).1
theorem Sep.lt (h : Sep B N Fs) (i : Nat) (hi : Fs[i]? = some F) : ∀ k, F k → k < N := fun k hk => (h.1 i F k hi hk).2
theorem Sep.grow (h : Sep B N Fs) (hN : N ≤ N') : Sep B N' Fs := ⟨fun i F k hi hk => ⟨(h.1 i F k hi hk).1, Nat.lt_of_lt_of_le (h.1 i F k hi hk).2 hN⟩, h.2⟩
theorem Sep.upd (h : Sep B N Fs) (i : Nat) (hi : Fs[i]? = some F) (hg : Grew N F F') (hl : ∀ k, F' k → k < N') (hN : N ≤ N') (hB : B ≤ N) : Sep B N' (Fs.set i F') := by
  have hlen : i < Fs.length := (List.getElem?_eq_some_iff.1 hi).1
  refine ⟨fun j F1 k hj hk => ?_, fun j m F1 G1 hne hj hm => ?_⟩
  · rw [List.getElem?_set] at hj
    split at hj
    · rename_i hij
      first | rw [if_pos (by omega)] at hj | skip
      injection hj with hj
      subst hj
      refine ⟨?_, hl k hk⟩
      rcases hg k hk with h1 | h1
      · exact (h.1 i F k hi h1).1
      · omega
    · have := h.1 j F1 k hj hk
      omega
  · rw [List.getElem?_set] at hj hm
    have key : ∀ (j' : Nat) (G1 : Nat → Prop), i ≠ j' → Fs[j']? = some G1 → Dj F' G1 := fun j' G1 hne' hj' => (h.2 i j' F G1 hne' hi hj').grew hg (fun k hk => (h.1 j' G1 k hj' hk).2)
    split at hj <;> split at hm
    · omega
    · rename_i h1 h2
      first | rw [if_pos (by omega)] at hj | skip
      injection hj with hj
      subst hj
      exact key m G1 h2 hm
    · rename_i h1 h2
      first | rw [if_pos (by omega)] at hm | skip
      injection hm with hm
      subst hm
      exact (key j F1 h1 hj).symm
    · exact h.2 j m F1 G1 hne hj hm
theorem Sep.cons (h : Sep B N Fs) (hg : ∀ k, F k → N ≤ k ∧ k < N') (hN : N ≤ N') (hB : B ≤ N) : Sep B N' (F :: Fs) := by
  refine ⟨fun i F1 k hi hk => ?_, fun i j F1 G1 hne hi hj => ?_⟩
  · cases i with
    | zero =>
      simp only [List.getElem?_cons_zero, Option.some.injEq] at hi
      subst hi
      have := hg k hk
      omega
    | succ i =>
      have := h.1 i F1 k (by simpa using hi) hk
      omega
  · have key : ∀ (j' : Nat) (G1 : Nat → Prop), Fs[j']? = some G1 → Dj F G1 := fun j' G1 hj' k h1 h2 => by
      have := hg k h1
      have := h.1 j' G1 k hj' h2
      omega
    cases i with
    | zero =>
      cases j with
      | zero => omega
      | succ j =>
        simp only [List.getElem?_cons_zero, Option.some.injEq] at hi
        subst hi
        exact key j G1 (by simpa using hj)
    | succ i =>
      cases j with
      | zero =>
        simp only [List.getElem?_cons_zero, Option.some.injEq] at hj
        subst hj
        exact (key i F1 (by simpa using hi)).symm
      | succ j => exact h.2 i j F1 G1 (by omega) (by simpa using hi) (by simpa using hj)
end
theorem below_chg {w0 w w1 : World} {F : Nat → Prop} (h : Below w0.heap.size w0 w) (hc : Chg F w w1) (hF : ∀ k, F k → w0.heap.size ≤ k) : Below w0.heap.size w0 w1 :=
  h.trans (hc.below (fun i hi hf => by have := hF i hf; omega) h.size)
theorem below_nil {w0 w w1 : World} (h : Below w0.heap.size w0 w) (hc : Chg Nil w w1) : Below w0.heap.size w0 w1 := below_chg h hc (fun _ h => h.elim)
theorem push_chg {F : Nat → Prop} {w w1 : World} {o : Obj} (h : Chg F (w.alloc o) w1) : Chg F w w1 := ((Chg.refl F w).alloc o).trans h (fun _ _ h => h)
/-- What is to be known of a slice's type. -/
structure ETy (P : Program) (t e : TypeId) (s bytes : Nat) : Prop where
  under : P.underlying t = some (.slice e)
  info : ∃ i z, P.info? e = some i ∧ i.zero = some z ∧ i.size = s ∧ i.bytes = bytes ∧ z.cells.size = s
  pos : 0 < s
theorem info_of {P : Program} {e : TypeId} {z : Value} {s bytes : Nat} (h : (P.info? e).map (fun i => (i.zero, i.size, i.bytes)) = some (some z, s, bytes)) (hz : z.cells.size = s) :
    ∃ i z, P.info? e = some i ∧ i.zero = some z ∧ i.size = s ∧ i.bytes = bytes ∧ z.cells.size = s := by
  cases hi : P.info? e with
  | none => rw [hi] at h; cases h
  | some i =>
    rw [hi] at h
    simp only [Option.map_some, Option.some.injEq, Prod.mk.injEq] at h
    exact ⟨i, z, rfl, h.1, h.2.1, h.2.2, hz⟩

theorem setCells_size (w : World) (g o : Nat) (vs : List Value) : (w.setCells g o vs).heap.size = w.heap.size := by
  induction vs generalizing w o with
  | nil => rfl
  | cons v vs ih =>
    rw [World.setCells, ih]
    simp [World.setCell]

theorem setCells_tape (w : World) (g o : Nat) (vs : List Value) : (w.setCells g o vs).tape = w.tape := by
  induction vs generalizing w o with
  | nil => rfl
  | cons v vs ih => rw [World.setCells, ih]; rfl

section
variable {P : Program} {w : World} {t ty e : TypeId} {s bytes n m c d : Nat} {a b : Option Addr} {xs news : List Value} {G : Option Nat} {R : Nat → Prop}
theorem Rd.src (hk : P.underlying t = some (.slice e)) (h : Rd w R s b m d news) (h1 : ∀ u ∈ news, u.oneCell' = true) : Src P s t (.slice b m d) m news w := by
  obtain ⟨r1, r2, r3, r4⟩ := h
  rcases Nat.eq_zero_or_pos m with rfl | hm
  · have hn : news = [] := List.eq_nil_of_length_eq_zero (by simpa using r3)
    subst hn
    refine ⟨.inl ⟨e, hk⟩, fun _ => rfl, ?_, ?_, by simp, fun _ h => by cases h⟩ <;> cases b <;> simp [Builtin.firstCells, loadCells, loadCellsFrom]
  · obtain ⟨g, off, rfl, _, _, hc⟩ := r4 hm
    refine Src.ofSlice w hk ⟨g, off, none⟩ m d news r3 (fun j u hu => ?_) h1
    have hj : j < m * s := by rw [← r3]; exact (List.getElem?_eq_some_iff.1 hu).1
    have := hc j hj
    rw [hu] at this
    unfold Addr.add
    split
    · rename_i h0; subst h0; simpa using this
    · exact this
theorem set_row (w : World) {g : Nat} {cur : Array Value} {e : TypeId} (hg : w.heap[g]? = some (.cells cur e (0, 0))) :
    ∀ (vs : List Value) (o : Nat), o + vs.length ≤ cur.size → ∃ cur', (w.setCells g o vs).heap[g]? = some (.cells cur' e (0, 0)) ∧ cur'.size = cur.size ∧
      (∀ j, j < o → cur'[j]? = cur[j]?) ∧ ∀ j, j < vs.length → cur'[o + j]? = vs[j]? := by
  intro vs
  induction vs generalizing w cur with
  | nil => intro o _; exact ⟨cur, hg, rfl, fun _ _ => rfl, fun j hj => absurd hj (by simp)⟩
  | cons v vs ih =>
    intro o ho
    simp only [List.length_cons] at ho
    have h1 : (w.setCell ⟨g, o, Option.none⟩ v).heap[g]? = some (.cells (cur.setIfInBounds o v) e (0, 0)) := by
      simp [World.setCell, Array.getElem?_modify, hg]
    obtain ⟨cur', c1, c2, c3, c4⟩ := ih (w.setCell ⟨g, o, Option.none⟩ v) h1 (o + 1) (by simp; omega)
    refine ⟨cur', c1, by simpa using c2, fun j hj => ?_, fun j hj => ?_⟩
    · rw [c3 j (by omega), Array.getElem?_setIfInBounds_ne (by omega)]
    · cases j with
      | zero =>
        rw [Nat.add_zero, c3 o (by omega), Array.getElem?_setIfInBounds_self_of_lt (by omega)]; rfl
      | succ j =>
        have := c4 j (by simpa using hj)
        rw [show o + (j + 1) = o + 1 + j by omega, this]; rfl
/-- append onto a slice with a block of its own, out of whatever slice. -/
theorem run_append_sl (T : ETy P t e s bytes) (h : Sl w e s a n c xs G) (hs : Rd w R s b m d news) (h1 : ∀ u ∈ news, u.oneCell' = true)
    (h63 : n + m ≤ 4294967296) (hb : bytes ≤ 4096) :
    ∃ a' c' w' G', (Builtin.append_ #[t, t] ty #[.slice a n c, .slice b m d]).run P w = .ok (.slice a' (n + m) c') w' ∧ Sl w' e s a' (n + m) c' (xs ++ news) G' ∧
      Chg (Opt G) w w' ∧ (G' = G ∨ G' = some w.heap.size) := by
  obtain ⟨i, z, hi, hz, hsz, hby, hzs⟩ := T.info
  have hsrc := hs.src T.under h1
  subst hsz
  have hbytes : (n + m) * i.bytes ≤ 140737488355328 := by
    have : (n + m) * i.bytes ≤ 4294967296 * 4096 := Nat.mul_le_mul h63 (by omega)
    omega
  have hlen : (xs ++ news).length = (n + m) * i.size := by rw [List.length_append, h.len, hs.len, Nat.add_mul]
  have hold : (Builtin.firstCells i.size n (.slice a n c)).run P w.drew = .ok xs.toArray w.drew := by
    have hr := h.rd
    have hw : Rd w.drew (Opt G) i.size a n c xs := hr
    obtain ⟨r1, r2, r3, r4⟩ := hw
    rcases Nat.eq_zero_or_pos n with rfl | hn
    · have hx : xs = [] := List.eq_nil_of_length_eq_zero (by simpa using r3)
      subst hx
      cases a <;> simp [Builtin.firstCells, loadCells, loadCellsFrom]
    · obtain ⟨g, off, rfl, _, _, hc⟩ := r4 hn
      refine run_firstCells_some _ _ _ _ _ _ _ r3 (fun j u hu => ?_)
      have hj : j < n * i.size := by rw [← r3]; exact (List.getElem?_eq_some_iff.1 hu).1
      have := hc j hj
      rw [hu] at this
      unfold Addr.add
      split
      · rename_i h0; subst h0; simpa using this
      · exact this
  by_cases hroom : n + m ≤ c
  · rcases h.2.2.2 with ⟨hc0, rfl⟩ | ⟨g, off, cur, rfl, rfl, hg, hfit, hcur⟩
    · have hn : n = 0 := by omega
      have hm : m = 0 := by omega
      subst hn; subst hm; subst hc0
      have hnew : news = [] := List.eq_nil_of_length_eq_zero (by simpa using hs.len)
      have hx : xs = [] := List.eq_nil_of_length_eq_zero (by simpa using h.len)
      subst hnew; subst hx
      refine ⟨a, 0, w, none, run_append_nothing w t t ty e i T.under hi a 0 0 (Nat.le_refl _) _ hsrc, ?_, Chg.refl _ _, .inl rfl⟩
      exact Sl.empty _ _ _ _
    · have hnl : news.length = m * i.size := hs.len
      have hsum : (n + m) * i.size = n * i.size + m * i.size := Nat.add_mul _ _ _
      have hle : (n + m) * i.size ≤ c * i.size := Nat.mul_le_mul_right _ hroom
      have hcell : ∀ j, j < news.length → (w.cell? ⟨g, off + n * i.size + j, Option.none⟩).isSome = true := by
        intro j hj
        rw [cell_in w hg, Array.getElem?_eq_getElem (by omega)]
        rfl
      have hfr : ∀ j, j < news.length → w.frozen? ⟨g, off + n * i.size + j, Option.none⟩ = false := by
        intro j hj
        simp [World.frozen?, hg]
      have hr := run_append_room_src (P := P) w t t ty e i T.under hi g off n c (.slice b m d) m news hsrc hroom hcell hfr
      obtain ⟨cur', c1, c2, c3, c4⟩ := set_row w hg news (off + n * i.size) (by omega)
      refine ⟨_, _, _, some g, hr, ⟨hroom, h.2.1, hlen, .inr ⟨g, off, cur', rfl, rfl, c1, by omega, fun j hj => ?_⟩⟩, ⟨World.os_setCells _ _ _ _, ?_, World.output_setCells _ _ _ _, by rw [setCells_size]; exact Nat.le_refl _, fun k hk hF => World.heap_setCells_other _ _ _ _ hk (fun hh => hF (by rw [hh]; rfl))⟩, .inl rfl⟩
      · by_cases hjn : j < n * i.size
        · rw [c3 _ (by omega), hcur j hjn, List.getElem?_append_left (by rw [h.len]; exact hjn)]
        · have := c4 (j - n * i.size) (by omega)
          rw [List.getElem?_append_right (by rw [h.len]; omega), h.len, ← this]
          congr 1; omega
      · exact setCells_tape _ _ _ _
  · have hge := grownCap_ge w (n + m) c e
    have hcm : grownCap w (n + m) c e ≤ maxLen := grownCap_le_maxLen w (n + m) c e (by unfold maxLen; omega)
    have hr := run_append_grow_src (P := P) w t t ty e i z T.under hi hz a n c xs hold (.slice b m d) m news hsrc (by omega) (by omega) (growslice_fits (by omega) hbytes)
    refine ⟨_, _, _, some w.heap.size, hr, ⟨hge, hcm, hlen, .inr ⟨w.heap.size, 0, _, rfl, rfl, heap_alloc_new w.drew _, ?_, fun j hj => ?_⟩⟩, ?_, .inr rfl⟩
    · simp only [Array.size_append, List.size_toArray, size_zeroCells, hzs, hlen, ← Nat.add_mul]
      rw [show n + m + (grownCap w (n + m) c e - (n + m)) = grownCap w (n + m) c e by omega]
      omega
    · rw [Nat.zero_add, Array.getElem?_append_left (by simp only [List.size_toArray, hlen]; exact hj)]
      simp
    · exact ((Chg.refl _ w).drew).alloc _
/-- append at an operation of a plain region. -/
theorem wp_append_sl {o : Oper} {act : Act} {K : Act → World → Prop} {Q : Exit → Act → World → Prop} (x y : Operand) (T : ETy P t e s bytes)
    (ho : o.op = .call { callee := .builtin .append, args := #[x, y], argTypes := #[t, t] })
    (hx : act.eval x = .slice a n c) (hy : act.eval y = .slice b m d) (h : Sl w e s a n c xs G) (hs : Rd w R s b m d news) (h1 : ∀ u ∈ news, u.oneCell' = true)
    (h63 : n + m ≤ 4294967296) (hb : bytes ≤ 4096)
    (hk : ∀ a' c' w' G', Sl w' e s a' (n + m) c' (xs ++ news) G' → Chg (Opt G) w w' → (G' = G ∨ G' = some w.heap.size) → K (act.put o.dst (.slice a' (n + m) c')) w') : o.wp P act w K Q := by
  obtain ⟨a', c', w', G', hr, h2, h3, h4⟩ := run_append_sl (P := P) (ty := o.type) T h hs h1 h63 hb
  unfold Oper.wp execOp
  simp only [ho, resolve, invoke, builtin, Sem.run_bind, Sem.run_pure, Result.andThen_ok, List.map_toArray, List.map_cons, List.map_nil, hx, hy, hr]
  exact hk a' c' w' G' h2 h3 h4
theorem wpList_append_sl {ops : Array Oper} {rest : List Oper} {o : Oper} {act : Act} {Q : Exit → Act → World → Prop} (hgd : o.guard = none) (x y : Operand) (T : ETy P t e s bytes)
    (ho : o.op = .call { callee := .builtin .append, args := #[x, y], argTypes := #[t, t] })
    (hx : act.eval x = .slice a n c) (hy : act.eval y = .slice b m d) (h : Sl w e s a n c xs G) (hs : Rd w R s b m d news) (h1 : ∀ u ∈ news, u.oneCell' = true)
    (h63 : n + m ≤ 4294967296) (hb : bytes ≤ 4096)
    (hk : ∀ a' c' w' G', Sl w' e s a' (n + m) c' (xs ++ news) G' → Chg (Opt G) w w' → (G' = G ∨ G' = some w.heap.size) → wpList P ops Q rest (act.put o.dst (.slice a' (n + m) c')) w') : wpList P ops Q (o :: rest) act w :=
  wpList_plain hgd fun _ hK => wp_append_sl x y T ho hx hy h hs h1 h63 hb fun a' c' w' G' h2 h3 h4 => hK _ _ (hk a' c' w' G' h2 h3 h4)
theorem step_append_sl {ops : Array Oper} {o : Oper} {act : Act} {K : Act → World → Prop} {Q : Exit → Act → World → Prop} {E : Prop} (hgd : o.guard = none) (x y : Operand) (T : ETy P t e s bytes)
    (ho : o.op = .call { callee := .builtin .append, args := #[x, y], argTypes := #[t, t] })
    (hx : act.eval x = .slice a n c) (hy : act.eval y = .slice b m d) (h : Sl w e s a n c xs G) (hs : Rd w R s b m d news) (h1 : ∀ u ∈ news, u.oneCell' = true)
    (h63 : n + m ≤ 4294967296) (hb : bytes ≤ 4096)
    (hk : ∀ a' c' w' G', Sl w' e s a' (n + m) c' (xs ++ news) G' → Chg (Opt G) w w' → (G' = G ∨ G' = some w.heap.size) → K (act.put o.dst (.slice a' (n + m) c')) w') :
    if Region.wanted o (yielded ops act.tmps) = true then Oper.wp P o act w K Q else E := by
  have hw : Region.wanted o (yielded ops act.tmps) = true := by simp [Region.wanted, hgd]
  rw [if_pos hw]
  exact wp_append_sl x y T ho hx hy h hs h1 h63 hb hk
end

section
variable {w : World} {R : Nat → Prop} {a : Option Addr} {n c : Nat} {k : IntKind} {l : List Int}
/-- The cell of an element that is read. -/
theorem Rd.at (h : Rd w R 1 a n c (ints k l)) {i : Nat} (hi : i < l.length) : ∃ g off, a = some ⟨g, off, none⟩ ∧ g < w.heap.size ∧ R g ∧ ∀ j (hj : j < l.length), w.cell? ⟨g, off + j, none⟩ = some (.int k l[j]) := by
  obtain ⟨_, _, h3, h4⟩ := h
  rw [ints_length, Nat.mul_one] at h3
  obtain ⟨g, off, r1, r2, r3, r4⟩ := h4 (by omega)
  exact ⟨g, off, r1, r2, r3, fun j hj => by rw [r4 j (by omega), ints_get k l hj]⟩
theorem Rd.ilen (h : Rd w R 1 a n c (ints k l)) : l.length = n := by
  have := h.len
  rw [ints_length, Nat.mul_one] at this
  exact this
end

/-- A cell of a slice that is read. -/
theorem Rd.cellAt {w : World} {R : Nat → Prop} {a : Option Addr} {n c : Nat} {xs : List Value} (h : Rd w R 1 a n c xs) (hn : 0 < n) : ∃ g off, a = some ⟨g, off, none⟩ ∧ g < w.heap.size ∧ R g ∧ ∀ j, j < n → w.cell? ⟨g, off + j, none⟩ = xs[j]? := by
  obtain ⟨g, off, r1, r2, r3, r4⟩ := h.2.2.2 hn
  exact ⟨g, off, r1, r2, r3, fun j hj => r4 j (by omega)⟩
/-- The cells of an element of s cells. -/
theorem Rd.elem {α : Type} {w : World} {R : Nat → Prop} {s n c : Nat} {a : Option Addr} {f : α → List Value} {l : List α} (hs : ∀ x, (f x).length = s) (h : Rd w R s a n c (l.flatMap f)) (hn : n = l.length) (h0 : 0 < n) :
    ∃ g off, a = some ⟨g, off, none⟩ ∧ g < w.heap.size ∧ R g ∧ ∀ k (hk : k < l.length) i, i < s → w.cell? ⟨g, off + k * s + i, none⟩ = (f l[k])[i]? := by
  obtain ⟨g, off, r1, r2, r3, r4⟩ := h.2.2.2 h0
  refine ⟨g, off, r1, r2, r3, fun k hk i hi => ?_⟩
  rw [Nat.add_assoc, r4 _ ?_, flat_get f s hs l k i hk hi]
  have : (k + 1) * s ≤ n * s := Nat.mul_le_mul_right _ (by omega)
  rw [Nat.succ_mul] at this
  omega
/-- s[:n]. -/
theorem Sl.init {w : World} {e : TypeId} {s n m c : Nat} {a : Option Addr} {xs : List Value} {G : Option Nat} (h : Sl w e s a n c xs G) (hm : m ≤ n) : Sl w e s a m c (xs.take (m * s)) G := by
  obtain ⟨h1, h2, h3, h4⟩ := h
  have hms : m * s ≤ n * s := Nat.mul_le_mul_right _ hm
  refine ⟨by omega, h2, by rw [List.length_take]; omega, ?_⟩
  rcases h4 with h4 | ⟨g, off, cur, r1, r2, r3, r4, r5⟩
  · exact .inl h4
  · exact .inr ⟨g, off, cur, r1, r2, r3, r4, fun j hj => by rw [r5 j (by omega), List.getElem?_take_of_lt hj]⟩
/-- A block that is known whole, as a slice. -/
theorem Sl.of_blk {w : World} {e : TypeId} {s n g : Nat} {xs : List Value} (h : Blk w g e xs) (hl : xs.length = n * s) (hm : n ≤ maxLen) : Sl w e s (some ⟨g, 0, Option.none⟩) n n xs (some g) :=
  ⟨Nat.le_refl _, hm, hl, .inr ⟨g, 0, xs.toArray, rfl, rfl, h, by simp [hl], fun j _ => by simp⟩⟩
/-- A store into an element of one cell. -/
theorem Sl.put {w : World} {e : TypeId} {n c g off i : Nat} {xs : List Value} {G : Option Nat} (h : Sl w e 1 (some ⟨g, off, Option.none⟩) n c xs G) (hi : i < n) (u : Value) : Sl (w.setCell ⟨g, off + i, Option.none⟩ u) e 1 (some ⟨g, off, Option.none⟩) n c (xs.set i u) G := by
  obtain ⟨h1, h2, h3, ⟨h4, _⟩ | ⟨g', off', cur, r1, r2, r3, r4, r5⟩⟩ := h
  · omega
  · injection r1 with r1
    injection r1 with r1 r1'
    subst r1; subst r1'
    refine ⟨h1, h2, by rw [List.length_set]; exact h3, .inr ⟨g, off, cur.setIfInBounds (off + i) u, rfl, r2, ?_, by simpa using r4, fun j hj => ?_⟩⟩
    · simp [World.setCell, Array.getElem?_modify, r3]
    · by_cases hji : j = i
      · subst hji
        rw [Array.getElem?_setIfInBounds_self_of_lt (by omega), List.getElem?_set_self (by omega)]
      · rw [Array.getElem?_setIfInBounds_ne (by omega), r5 j hj, List.getElem?_set_ne (by omega)]
theorem Sl.unfrozen {w : World} {e : TypeId} {s n c g off i : Nat} {xs : List Value} {G : Option Nat} (h : Sl w e s (some ⟨g, off, Option.none⟩) n c xs G) (hi : i < n) : w.frozen? ⟨g, off + i, Option.none⟩ = false := by
  obtain ⟨h1, h2, h3, ⟨h4, _⟩ | ⟨g', off', cur, r1, r2, r3, r4, r5⟩⟩ := h
  · omega
  · injection r1 with r1
    injection r1 with r1 r1'
    subst r1; subst r1'
    simp [World.frozen?, r3]
/-- make([]T, n), T of one cell. -/
theorem run_make1 {P : Program} {t e : TypeId} {z : Value} {bytes : Nat} (ht : P.underlying t = some (.slice e)) (hinfo : (P.info? e).map (fun i => (i.zero, i.size, i.bytes)) = some (some z, 1, bytes)) (hz : z.cells = #[z]) (hb : bytes ≤ 4096)
    (n : Nat) (hn : n ≤ 4294967296) (w : World) : (Instr.makeSlice t (.int .i64 (n : Int)) (.int .i64 (n : Int))).run P w = .ok (.slice (some ⟨w.heap.size, 0, Option.none⟩) n n) (w.alloc (.cells (List.replicate n z).toArray e)) := by
  cases hi : P.info? e with
  | none => rw [hi] at hinfo; cases hinfo
  | some i =>
    rw [hi] at hinfo
    simp only [Option.map_some, Option.some.injEq, Prod.mk.injEq] at hinfo
    obtain ⟨h1, h2, h3⟩ := hinfo
    have hbn : (i.bytes : Int) * (n : Int) ≤ 281474976710656 := by
      have : i.bytes * n ≤ 4096 * 4294967296 := Nat.mul_le_mul (by omega) hn
      have h' : ((i.bytes * n : Nat) : Int) ≤ 281474976710656 := by omega
      rwa [Int.natCast_mul] at h'
    have hr := run_make (P := P) w t e i z ht hi h1 .i64 .i64 (n : Int) (n : Int) (by omega) (by omega) hbn (by omega)
    rw [hr]
    simp only [Int.toNat_natCast, h2, Nat.mul_one, hz]
    congr 3
    apply Array.ext'
    rw [toList_madeCells_one]
/-- A slice among others, that are put together: where it lies, and what it holds. -/
structure Part where
  a : Option Addr
  n : Nat
  c : Nat
  xs : List Value
def Part.val (p : Part) : Value := .slice p.a p.n p.c
/-- What the walk is told of a slice of integers that came in. -/
def IsRow (k : IntKind) (w : World) (a : Option Addr) (len cap : Nat) (zs : List Int) : Prop :=
  Rd w (Upto w.heap.size) 1 a len cap (ints k zs) ∧ ∀ n ∈ zs, (Lit.int k n).wf = true
theorem isRow_nil (k : IntKind) (w : World) : ∃ zs, IsRow k w none 0 0 zs := ⟨[], Rd.of_none _ _ _ _ _ (Nat.zero_le _), by simp⟩
theorem lt_of_cell {w : World} {x : Addr} {v : Value} (h : w.cell? x = some v) : x.block < w.heap.size ∧ x.spot = none := by
  unfold World.cell? at h
  split at h
  · rename_i hh
    refine ⟨(Array.getElem?_eq_some_iff.1 hh).1, ?_⟩
    split at h
    · cases h
    · rename_i hs; simpa using hs
  · cases h
theorem addr_off {w : World} {x : Addr} {v : Value} (h : w.cell? x = some v) : x = ⟨x.block, x.off, none⟩ := by
  have := (lt_of_cell h).2
  cases x; simp_all
theorem add_off (g off j : Nat) : (⟨g, off, none⟩ : Addr).add j = ⟨g, off + j, none⟩ := by unfold Addr.add; split <;> simp_all
theorem rd_of_cells {w : World} {x : Addr} {l c : Nat} {xs : List Value} (hl : l ≤ c) (hm : c ≤ maxLen) (hx : xs.length = l) (hcell : ∀ i, i < l → w.cell? (x.add i) = xs[i]?) :
    Rd w (Upto w.heap.size) 1 (some x) l c xs := by
  refine ⟨hl, hm, by omega, fun hn => ?_⟩
  have h0 := hcell 0 hn
  have hadd : x.add 0 = x := by simp [Addr.add]
  rw [hadd, List.getElem?_eq_getElem (by omega)] at h0
  have hx0 := addr_off h0
  refine ⟨x.block, x.off, by rw [← hx0], (lt_of_cell h0).1, (lt_of_cell h0).1, fun j hj => ?_⟩
  rw [← hcell j (by omega), ← add_off, ← hx0]
theorem isRow_mk {k : IntKind} {w : World} {x : Addr} {l c : Nat} {zs : List Int} (hl : l ≤ c) (hm : c ≤ maxLen) (hz : zs.length = c) (hcell : ∀ i, i < zs.length → w.cell? (x.add i) = some (.int k (zs.getD i 0)))
    (hw : ∀ n ∈ zs, (Lit.int k n).wf = true) : ∃ zs, IsRow k w (some x) l c zs := by
  refine ⟨zs.take l, rd_of_cells hl hm (by rw [ints_length, List.length_take]; omega) (fun i hi => ?_), fun n hn => hw n (List.mem_of_mem_take hn)⟩
  rw [hcell i (by omega), ints_get k _ (by rw [List.length_take]; omega), List.getElem_take, List.getD_eq_getElem?_getD, List.getElem?_eq_getElem (by omega)]
  rfl
end Go.Proofs.YtdcbagmgflcemaaGreatDoor
