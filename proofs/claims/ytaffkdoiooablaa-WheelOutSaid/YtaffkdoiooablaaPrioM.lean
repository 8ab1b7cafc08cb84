/- Memory of the walks of package prio: a class and what lay there before it; the lists that were read, in an array. -/
import Derived.Test.YtaffkdoiooablaaPrio4
namespace Go.Proofs.Ytaffkdoiooablaa
open Go.ChangeShapes Go.WideShapes Go.ChangeAt Go.RowKit
set_option linter.unusedVariables false
theorem prest_nat (k n : Int) (w : World) (h1 : 1 ≤ n) (h2 : n ≤ 9223372036854775807) :
    Calls Try.prog 15 #[.int .i64 k, .int .i64 n] w fun e w' => ∃ q : Nat, (q : Int) < n ∧ e = .returned (.int .i64 q) ∧ w = w' := by
  refine (rest_any k n w h1 h2).mono ?_
  rintro e w' ⟨rfl, rfl⟩
  have hb1 := rest_nonneg k n h1
  have hb2 := rest_lt k n h1
  obtain ⟨q, hq⟩ := Int.eq_ofNat_of_zero_le hb1
  exact ⟨q, by omega, by rw [hq], rfl⟩
theorem Rd.belowP {B : Nat} {w0 w : World} {R : Nat → Prop} {s n c : Nat} {a : Option Addr} {xs : List Value} (h : Rd w0 R s a n c xs) (hb : Below B w0 w) (hR : ∀ g, R g → g < B) : Rd w R s a n c xs := by
  obtain ⟨h1, h2, h3, h4⟩ := h
  refine ⟨h1, h2, h3, fun hn => ?_⟩
  obtain ⟨g, off, r1, r2, r3, r4⟩ := h4 hn
  exact ⟨g, off, r1, Nat.lt_of_lt_of_le r2 hb.size, r3, fun j hj => (hb.cell (p := ⟨g, off + j, none⟩) (hR g r3)).trans (r4 j hj)⟩
/-- A class, all of it newer than B; what is older is as it was in w0. -/
structure PMem (B : Nat) (w0 : World) (F : Nat → Prop) (p b : Nat) (q : Nat → List Int) (w : World) : Prop where
  q : PrAt w F p b q
  new : ∀ k, F k → B ≤ k
  bel : Below B w0 w
  sz : B ≤ w.heap.size
section
variable {B : Nat} {w0 w w' : World} {F : Nat → Prop} {p b : Nat} {q : Nat → List Int}
theorem PMem.step {F' : Nat → Prop} {b' : Nat} {q' : Nat → List Int} (h : PMem B w0 F p b q w) (hd : PrAt w' F' p b' q') (hc : Chg F w w') (hg : Grew w.heap.size F F') : PMem B w0 F' p b' q' w' :=
  ⟨hd, fun k hk => by
    rcases hg k hk with h1 | h1
    · exact h.new k h1
    · have := h.sz; omega, h.bel.trans (hc.below (fun i hi hf => by have := h.new i hf; omega) h.sz), Nat.le_trans h.sz hc.size⟩
theorem PMem.far {H : Nat → Prop} (h : PMem B w0 F p b q w) (hc : Chg H w w') (hd : Dj F H) (hH : ∀ k, H k → B ≤ k) : PMem B w0 F p b q w' :=
  ⟨h.q.chg hc hd, h.new, h.bel.trans (hc.below (fun i hi hf => by have := hH i hf; omega) h.sz), Nat.le_trans h.sz hc.size⟩
theorem PMem.nil (h : PMem B w0 F p b q w) (hc : Chg Nil w w') : PMem B w0 F p b q w' := h.far hc (fun _ _ h => h) (fun _ h => h.elim)
end
theorem pnew_mem (w w1 : World) (F : Nat → Prop) (p : Nat) (w0 : World) (hb : Below w0.heap.size w0 w) (h : PrAt w1 F p 0 (fun _ => [])) (hc : Chg Nil w w1) (hg : Grew w.heap.size Nil F) : PMem w0.heap.size w0 F p 0 (fun _ => []) w1 :=
  ⟨h, fun k hk => by
    rcases hg k hk with h1 | h1
    · exact h1.elim
    · exact Nat.le_trans hb.size h1, hb.trans (hc.below (fun i hi h => h) hb.size), Nat.le_trans hb.size hc.size⟩
/-- The array of lists: the first k of them are laid. -/
def wasL (A : Nat → Option Addr) (C : Nat → Nat) (q : Nat → List Int) (k : Nat) : List Value := (List.range 8).map fun i => if i < k then .slice (A i) (q i).length (C i) else .slice none 0 0
theorem was_get (A : Nat → Option Addr) (C : Nat → Nat) (q : Nat → List Int) (k i : Nat) (h : i < 8) (hk : i < k) : (wasL A C q k)[i]? = some (.slice (A i) (q i).length (C i)) := by
  simp [wasL, List.getElem?_range h, hk]
theorem was_len (A : Nat → Option Addr) (C : Nat → Nat) (q : Nat → List Int) (k : Nat) : (wasL A C q k).length = 8 := by simp [wasL]
theorem was_set (A : Nat → Option Addr) (C : Nat → Nat) (q : Nat → List Int) (k : Nat) (h : k < 8) (a : Option Addr) (c : Nat) : (wasL A C q k).set k (.slice a (q k).length c) = wasL (upF A k a) (upF C k c) q (k + 1) := by
  apply List.ext_getElem?
  intro j
  rw [List.getElem?_set, was_len]
  by_cases hj : j < 8
  · by_cases hjk : k = j
    · subst hjk
      rw [if_pos rfl, if_pos hj, was_get _ _ _ _ _ hj (by omega), upF_same, upF_same]
    · rw [if_neg hjk]
      simp only [wasL, List.getElem?_map, List.getElem?_range hj, Option.map_some, upF_ne _ _ (fun h => hjk h.symm)]
      by_cases h2 : j < k
      · rw [if_pos h2, if_pos (by omega)]
      · rw [if_neg h2, if_neg (by omega)]
  · rw [if_neg (by omega), List.getElem?_eq_none (by rw [was_len]; omega), List.getElem?_eq_none (by rw [was_len]; omega)]
structure WasA (w : World) (H : Nat → Prop) (g : Nat) (q : Nat → List Int) (k : Nat) (A : Nat → Option Addr) (C : Nat → Nat) : Prop where
  blk : Blk w g 29 (wasL A C q k)
  rd : ∀ i, i < k → Rd w H 1 (A i) (q i).length (C i) (ints .i64 (q i))
  far : ¬ H g
  lt : ∀ i, H i → i < w.heap.size
def Was (w : World) (H : Nat → Prop) (g : Nat) (q : Nat → List Int) (k : Nat) : Prop := ∃ A C, WasA w H g q k A C
section
variable {w w' : World} {H F : Nat → Prop} {g k : Nat} {q : Nat → List Int} {A : Nat → Option Addr} {C : Nat → Nat}
theorem WasA.chg (h : WasA w H g q k A C) (hc : Chg F w w') (hd : Dj H F) (hg : ¬ F g) : WasA w' H g q k A C :=
  ⟨h.blk.chg hc hg, fun i hi => (h.rd i hi).chg hc (fun j _ hj => hd j hj), h.far, fun i hi => Nat.lt_of_lt_of_le (h.lt i hi) hc.size⟩
theorem Was.chg (h : Was w H g q k) (hc : Chg F w w') (hd : Dj H F) (hg : ¬ F g) : Was w' H g q k := by
  obtain ⟨A, C, h⟩ := h
  exact ⟨A, C, h.chg hc hd hg⟩
theorem Was.nil (h : Was w H g q k) (hc : Chg Nil w w') : Was w' H g q k := h.chg hc (fun _ _ h => h) (fun h => h)
theorem WasA.put {w1 : World} {c : Nat} {a : Option Addr} {G : Option Nat} (h : WasA w H g q k A C) (hk : k < 8) (hc : Chg Nil w w1) (hs : Sl w1 3 1 a (q k).length c (ints .i64 (q k)) G) : WasA (w1.setCell ⟨g, k, none⟩ (.slice a (q k).length c)) (Or2 H (Opt G)) g q (k + 1) (upF A k a) (upF C k c) := by
  have h1 := h.chg hc (fun _ _ h => h) (fun h => h)
  have hne := hs.ne_blk h1.blk (by decide)
  have hset : Chg (One g) w1 (w1.setCell ⟨g, k, none⟩ (.slice a (q k).length c)) := (Chg.refl (One g) w1).setCell (p := ⟨g, k, none⟩) (.inl rfl) _
  refine ⟨?_, fun i hi => ?_, ?_, ?_⟩
  · have := h1.blk.set k (.slice a (q k).length c)
    rwa [was_set A C q k hk] at this
  · by_cases hik : i = k
    · subst hik
      rw [upF_same, upF_same]
      exact ((hs.rd).chg hset (fun j _ hj hh => hne (by rw [← show j = g from hh]; exact hj))).mono (fun _ h => .inr h)
    · rw [upF_ne _ _ hik, upF_ne _ _ hik]
      exact ((h1.rd i (by omega)).chg hset (fun j _ hj hh => h1.far (by rw [← show j = g from hh]; exact hj))).mono (fun _ h => .inl h)
  · rintro (h2 | h2)
    · exact h.far h2
    · exact hne h2
  · rintro i (h2 | h2)
    · have := h1.lt i h2; simpa [World.setCell] using this
    · have := hs.lt i h2; simpa [World.setCell] using this
end
theorem was_new (w : World) (q : Nat → List Int) : Was (w.alloc (.cells #[.slice none 0 0, .slice none 0 0, .slice none 0 0, .slice none 0 0, .slice none 0 0, .slice none 0 0, .slice none 0 0, .slice none 0 0] 29)) Nil w.heap.size q 0 :=
  ⟨fun _ => none, fun _ => 0, Blk.new w 29 [.slice none 0 0, .slice none 0 0, .slice none 0 0, .slice none 0 0, .slice none 0 0, .slice none 0 0, .slice none 0 0, .slice none 0 0], (fun i hi => by omega), (fun h => h), (fun _ h => h.elim)⟩
/-- A class, and the array of the lists that were read. -/
structure Both (B : Nat) (w0 : World) (F : Nat → Prop) (p b : Nat) (q : Nat → List Int) (H : Nat → Prop) (g : Nat) (qs : Nat → List Int) (k : Nat) (w : World) : Prop where
  m : PMem B w0 F p b q w
  was : Was w H g qs k
  dj : Dj F H
  ng : ¬ F g
  new : ∀ i, H i → B ≤ i
  newg : B ≤ g
section
variable {B : Nat} {w0 w w' : World} {F H : Nat → Prop} {p b g k : Nat} {q qs : Nat → List Int}
theorem Was.ltg (h : Was w H g qs k) : g < w.heap.size := by
  obtain ⟨A, C, h⟩ := h
  exact h.blk.lt
theorem Was.lt (h : Was w H g qs k) : ∀ i, H i → i < w.heap.size := by
  obtain ⟨A, C, h⟩ := h
  exact h.lt
theorem Both.nil (h : Both B w0 F p b q H g qs k w) (hc : Chg Nil w w') : Both B w0 F p b q H g qs k w' := ⟨h.m.nil hc, h.was.nil hc, h.dj, h.ng, h.new, h.newg⟩
theorem Both.start (h : PMem B w0 F p b q w) (qs : Nat → List Int) : Both B w0 F p b q Nil w.heap.size qs 0 (w.alloc (.cells #[.slice none 0 0, .slice none 0 0, .slice none 0 0, .slice none 0 0, .slice none 0 0, .slice none 0 0, .slice none 0 0, .slice none 0 0] 29)) :=
  ⟨h.nil ((Chg.refl Nil w).alloc _), was_new w qs, (fun _ _ h => h), (fun hF => by have := h.q.lt _ hF; omega), (fun _ h => h.elim), h.sz⟩
theorem Both.put {w1 : World} {c : Nat} {a : Option Addr} {G : Option Nat} (h : Both B w0 F p b q H g qs k w) (hk : k < 8) (hc : Chg Nil w w1) (hs : Sl w1 3 1 a (qs k).length c (ints .i64 (qs k)) G) (hG : ∀ g, G = some g → w.heap.size ≤ g) : Both B w0 F p b q (Or2 H (Opt G)) g qs (k + 1) (w1.setCell ⟨g, k, none⟩ (.slice a (qs k).length c)) := by
  obtain ⟨A, C, hw⟩ := h.was
  have h1 := h.m.nil hc
  refine ⟨h1.far (H := One g) ((Chg.refl (One g) w1).setCell (p := ⟨g, k, none⟩) (.inl rfl) _) (fun i hi hh => h.ng (by rw [← show i = g from hh]; exact hi)) (fun i hi => by rw [show i = g from hi]; exact h.newg), ⟨_, _, hw.put hk hc hs⟩, ?_, h.ng, ?_, h.newg⟩
  · rintro i hi (h2 | h2)
    · exact h.dj i hi h2
    · have h3 := hG i h2
      have h4 := h.m.q.lt i hi
      omega
  · rintro i (h2 | h2)
    · exact h.new i h2
    · exact Nat.le_trans h.m.sz (hG i h2)
theorem Both.step {F' : Nat → Prop} {b' : Nat} {q' : Nat → List Int} (h : Both B w0 F p b q H g qs k w) (hd : PrAt w' F' p b' q') (hc : Chg F w w') (hg : Grew w.heap.size F F') : Both B w0 F' p b' q' H g qs k w' :=
  ⟨h.m.step hd hc hg, h.was.chg hc (fun i h1 h2 => h.dj i h2 h1) h.ng, fun i h1 h2 => by
    rcases hg i h1 with h3 | h3
    · exact h.dj i h3 h2
    · have := h.was.lt i h2; omega, fun h1 => by
    rcases hg g h1 with h3 | h3
    · exact h.ng h3
    · have := h.was.ltg; omega, h.new, h.newg⟩
theorem Both.look (h : Both B w0 F p b q H g qs k w) : ∃ (A : Nat → Option Addr) (C : Nat → Nat), (∀ i, i < 8 → i < k → w.cell? ⟨g, i, none⟩ = some (.slice (A i) (qs i).length (C i))) ∧ (∀ i, i < k → Rd w H 1 (A i) (qs i).length (C i) (ints .i64 (qs i))) ∧ (∀ i, w.frozen? ⟨g, i, none⟩ = false) ∧ ∀ w', Chg Nil w w' → (∀ i, i < 8 → i < k → w'.cell? ⟨g, i, none⟩ = some (.slice (A i) (qs i).length (C i))) := by
  obtain ⟨A, C, hw⟩ := h.was
  refine ⟨A, C, fun i hi hk => ?_, hw.rd, fun i => hw.blk.frozen i, fun w' hc i hi hk => ?_⟩
  · rw [hw.blk.cell, was_get _ _ _ _ _ hi hk]
  · rw [(hw.blk.chg hc (fun h => h)).cell, was_get _ _ _ _ _ hi hk]
end
/-- A queue that was turned j times. -/
def tq (q : Nat → List Int) (v j : Nat) : Nat → List Int := upF q v ((q v).drop j ++ (q v).take j)
theorem tq_zero (q : Nat → List Int) (v : Nat) : tq q v 0 = q := by
  funext i
  unfold tq upF
  split
  · rename_i h; subst h; simp
  · rfl
theorem tq_full (q : Nat → List Int) (v : Nat) : tq q v (q v).length = q := by
  funext i
  unfold tq upF
  split
  · rename_i h; subst h; simp
  · rfl
theorem tq_len (q : Nat → List Int) (v j : Nat) (h : j ≤ (q v).length) (i : Nat) : (tq q v j i).length = (q i).length := by
  unfold tq upF
  split
  · rename_i hi; subst hi; simp; omega
  · rfl
theorem tq_v (q : Nat → List Int) (v j : Nat) (h : j < (q v).length) : tq q v j v = (q v)[j] :: ((q v).drop (j + 1) ++ (q v).take j) := by
  unfold tq
  rw [upF_same, List.drop_eq_getElem_cons h]; rfl
theorem tq_next (q : Nat → List Int) (v j : Nat) (h : j < (q v).length) : upF (tq q v j) v (((q v).drop (j + 1) ++ (q v).take j) ++ [(q v)[j]]) = tq q v (j + 1) := by
  funext i
  unfold tq upF
  split
  · rw [List.append_assoc, List.take_succ_eq_append_getElem h]
  · rfl
/-- The class turned j times, the lists, and the row of those that were first. -/
structure Trd (B : Nat) (w0 : World) (F : Nat → Prop) (p b : Nat) (q : Nat → List Int) (v : Nat) (H : Nat → Prop) (g j : Nat) (a : Option Addr) (c : Nat) (G : Option Nat) (w : World) : Prop where
  b : Both B w0 F p b (tq q v j) H g q 8 w
  sl : Sl w 3 1 a j c (ints .i64 ((q v).take j)) G
  ap : ∀ x, G = some x → ¬ F x ∧ ¬ H x ∧ x ≠ g ∧ B ≤ x
section
variable {B : Nat} {w0 w w' : World} {F H : Nat → Prop} {p b g v j c : Nat} {q : Nat → List Int} {a : Option Addr} {G : Option Nat}
theorem Trd.start (h : Both B w0 F p b q H g q 8 w) (v : Nat) : Trd B w0 F p b q v H g 0 none 0 none w := ⟨by rw [tq_zero]; exact h, by simpa [ints] using Sl.empty w 3 1 none, fun x hx => by cases hx⟩
theorem Trd.nil (h : Trd B w0 F p b q v H g j a c G w) (hc : Chg Nil w w') : Trd B w0 F p b q v H g j a c G w' := ⟨h.b.nil hc, h.sl.chg hc (fun _ _ h => h), h.ap⟩
/-- One more was first (appended), and the class is turned. -/
theorem Trd.next {w1 w2 : World} {a' : Option Addr} {c' : Nat} {G' : Option Nat} {F' : Nat → Prop} {b' : Nat} (h : Trd B w0 F p b q v H g j a c G w) (hj : j < (q v).length) (hs : Sl w1 3 1 a' (j + 1) c' (ints .i64 ((q v).take j) ++ ints .i64 [(q v)[j]]) G') (hc : Chg (Opt G) w w1) (hG : G' = G ∨ ∀ x, G' = some x → w.heap.size ≤ x) :
    Both B w0 F p b (tq q v j) H g q 8 w1 ∧ Sl w1 3 1 a' (j + 1) c' (ints .i64 ((q v).take (j + 1))) G' ∧ (∀ x, G' = some x → ¬ F x ∧ ¬ H x ∧ x ≠ g ∧ B ≤ x) := by
  refine ⟨⟨h.b.m.far hc (fun i h1 h2 => (h.ap i h2).1 h1) (fun i h1 => (h.ap i h1).2.2.2), h.b.was.chg hc (fun i h1 h2 => (h.ap i h2).2.1 h1) (fun h1 => (h.ap g h1).2.2.1 rfl), h.b.dj, h.b.ng, h.b.new, h.b.newg⟩, ?_, fun x hx => ?_⟩
  · have e : ints .i64 ((q v).take (j + 1)) = ints .i64 ((q v).take j) ++ ints .i64 [(q v)[j]] := by
      rw [List.take_succ_eq_append_getElem hj]; exact List.map_append
    rw [e]; exact hs
  · rcases hG with h1 | h1
    · exact h.ap x (by rw [← h1]; exact hx)
    · have h2 := h1 x hx
      refine ⟨fun h3 => ?_, fun h3 => ?_, fun h3 => ?_, Nat.le_trans h.b.m.sz h2⟩
      · have := h.b.m.q.lt x h3; omega
      · have := h.b.was.lt x h3; omega
      · have := h.b.was.ltg; omega
theorem Trd.turn {w1 w2 : World} {F' : Nat → Prop} {b' : Nat} (hb : Both B w0 F p b (tq q v j) H g q 8 w1) (hs : Sl w1 3 1 a (j + 1) c (ints .i64 ((q v).take (j + 1))) G) (ha : ∀ x, G = some x → ¬ F x ∧ ¬ H x ∧ x ≠ g ∧ B ≤ x) (hd : PrAt w2 F' p b' (tq q v (j + 1))) (hc : Chg F w1 w2) (hg : Grew w1.heap.size F F') : Trd B w0 F' p b' q v H g (j + 1) a c G w2 :=
  ⟨hb.step hd hc hg, hs.chg hc (fun x hx => (ha x hx).1), fun x hx => ⟨fun h1 => by
    rcases hg x h1 with h2 | h2
    · exact (ha x hx).1 h2
    · have := hs.lt x hx; omega, (ha x hx).2⟩⟩
end
end Go.Proofs.Ytaffkdoiooablaa
