/- What the law SemAll carries: the lock, the row of who came, the map of who had it. Conditions: at most 900 hold it or wait. -/
import Derived.Test.YteiljmjfhafmfaaManyM
namespace Go.Proofs.Yteiljmjfhafmfaa
open Go.ChangeShapes Go.WideShapes Go.ChangeAt Go.RowKit
set_option linter.unusedVariables false
theorem rest_to (z n : Int) (h1 : 1 ≤ n) (h2 : n ≤ 9223372036854775807) : ∃ t : Nat, (t : Int) < n ∧ ∀ w, Calls Try.prog 7 #[.int .i64 z, .int .i64 n] w fun e w' => e = .returned (.int .i64 (t : Int)) ∧ w = w' := by
  obtain ⟨t, h3, h4⟩ := rest_in z n h1 h2
  exact ⟨t, h3, fun w => (h4 w).mono fun e w' ⟨a, b⟩ => ⟨a, b.symm⟩⟩
theorem take_ret (s : MS) (t : Int) (w : Bool) : ((s.take t w).2 = 8 ∧ (s.take t w).1 = s) ∨ (s.take t w).2 = 0 ∨ (s.take t w).2 = 9 := by
  unfold MS.take
  split
  · exact .inl ⟨rfl, rfl⟩
  · refine .inr ?_
    show (if hasI (goM s.rd s.wr (s.row ++ [⟨t, w⟩])).2 t = true then (0 : Int) else 9) = 0 ∨ _
    split
    · exact .inl rfl
    · exact .inr rfl
/-- The lock and the row of who came. -/
def AlM (w0 : World) (p : Nat) (s : MS) (ord : List Int) (a : Option Addr) (c : Nat) (w : World) : Prop := ∃ gs G, MnX w0 gs p s w ∧ Sl w 3 1 a ord.length c (ints .i64 ord) G ∧ ∀ g, G = some g → g ∈ gs
theorem MnX.more {w0 w w' : World} {gs : List Nat} {p : Nat} {s : MS} {K : Nat → Prop} (h : MnX w0 gs p s w) (hc : Chg K w w') (hK : ∀ k, K k → k ∈ gs) (g : Nat) (h1 : w.heap.size ≤ g) (h2 : g < w'.heap.size) : MnX w0 (g :: gs) p s w' := by
  obtain ⟨F, k1, k2, k3, k4⟩ := h
  refine ⟨F, k1.chg hc (fun k hF hk => (k4 k (hK k hk)).1 hF), k2, below_chg k3 hc (fun k hk => (k4 k (hK k hk)).2.2), fun g' hg' => ?_⟩
  rcases List.mem_cons.1 hg' with rfl | hg'
  · exact ⟨fun hF => by have := k1.lt _ hF; omega, h2, Nat.le_trans k3.size h1⟩
  · obtain ⟨a1, a2, a3⟩ := k4 g' hg'
    exact ⟨a1, Nat.lt_of_lt_of_le a2 hc.size, a3⟩
theorem MnX.same {w0 w w' : World} {gs : List Nat} {p : Nat} {s : MS} {K : Nat → Prop} (h : MnX w0 gs p s w) (hc : Chg K w w') (hK : ∀ k, K k → k ∈ gs) : MnX w0 gs p s w' := by
  obtain ⟨F, k1, k2, k3, k4⟩ := h
  refine ⟨F, k1.chg hc (fun k hF hk => (k4 k (hK k hk)).1 hF), k2, below_chg k3 hc (fun k hk => (k4 k (hK k hk)).2.2), fun g' hg' => ?_⟩
  obtain ⟨a1, a2, a3⟩ := k4 g' hg'
  exact ⟨a1, Nat.lt_of_lt_of_le a2 hc.size, a3⟩
theorem KeepB.sl {gs : List Nat} {w w' : World} {e : TypeId} {s n c : Nat} {a : Option Addr} {xs : List Value} {G : Option Nat} (h : KeepB gs w w') (hs : Sl w e s a n c xs G) (hG : ∀ g, G = some g → g ∈ gs) : Sl w' e s a n c xs G := by
  obtain ⟨F, h1, h2⟩ := h
  exact hs.chg h1 (fun g hg => (h2 g (hG g hg)).1)
section
variable {w0 w w' : World} {p : Nat} {s : MS} {ord : List Int} {a : Option Addr} {c : Nat}
theorem AlM.bel (h : AlM w0 p s ord a c w) : Below w0.heap.size w0 w := by
  obtain ⟨gs, G, h1, _⟩ := h
  exact h1.bel
theorem AlM.take (h : AlM w0 p s ord a c w) (hl : s.tot ≤ 900) (t : Int) (t1 : 1 ≤ t) (t2 : t ≤ 16) (wt : Bool) :
    Calls Try.prog 8 #[.pointer (some ⟨p, 0, none⟩), .int .i64 t, .bool wt] w fun e w' => e = .returned (.int .i64 (s.take t wt).2) ∧ AlM w0 p (s.take t wt).1 ord a c w' := by
  obtain ⟨gs, G, h1, h2, h3⟩ := h
  refine (mx_take h1 hl t t1 t2 wt).mono ?_
  rintro e w' ⟨rfl, k1, k2⟩
  exact ⟨rfl, gs, G, k1, k2.sl h2 h3, h3⟩
theorem AlM.push {ord' : List Int} {a' : Option Addr} {c' : Nat} {G G' : Option Nat} {gs : List Nat} (h1 : MnX w0 gs p s w) (h3 : ∀ g, G = some g → g ∈ gs) (hc : Chg (Opt G) w w') (hs : Sl w' 3 1 a' ord'.length c' (ints .i64 ord') G') (hn : G' = G ∨ ∀ g, G' = some g → w.heap.size ≤ g) : AlM w0 p s ord' a' c' w' := by
  rcases hn with rfl | hn
  · exact ⟨gs, _, h1.same hc h3, hs, h3⟩
  · cases G' with
    | none => exact ⟨gs, none, h1.same hc h3, hs, fun g h => by cases h⟩
    | some g => exact ⟨g :: gs, some g, h1.more hc h3 g (hn g rfl) (hs.lt g rfl), hs, fun g' h => by injection h with h; subst h; simp⟩
end
/-- The lock, the row of who came, and who had it. -/
def AlX (w0 : World) (p mb n : Nat) (s : MS) (H : Int → Bool) (ord : List Int) (a : Option Addr) (c : Nat) (w : World) : Prop := ∃ gs G, MnX w0 gs p s w ∧ mb ∈ gs ∧ WrAt w mb n H ∧ Sl w 3 1 a ord.length c (ints .i64 ord) G ∧ ∀ g, G = some g → g ∈ gs ∧ g ≠ mb
section
variable {w0 w w' : World} {p mb n : Nat} {s : MS} {H : Int → Bool} {ord : List Int} {a : Option Addr} {c : Nat}
theorem AlM.map (h : AlM w0 p s ord a c w) : AlX w0 p w.heap.size 0 s (fun _ => false) ord a c (w.alloc (.map #[] 0)) := by
  obtain ⟨gs, G, h1, h2, h3⟩ := h
  exact ⟨w.heap.size :: gs, G, h1.alloc _, by simp, ⟨_, MpAt.made w _ _, fun i => .inl ⟨rfl, rfl⟩⟩, h2.alloc _, fun g hg => ⟨List.mem_cons_of_mem _ (h3 g hg), by have := h2.lt g hg; omega⟩⟩
theorem AlX.bel (h : AlX w0 p mb n s H ord a c w) : Below w0.heap.size w0 w := by
  obtain ⟨gs, G, h1, _⟩ := h
  exact h1.bel
theorem AlX.lt (h : AlX w0 p mb n s H ord a c w) : mb < w.heap.size := by
  obtain ⟨gs, G, ⟨F, _, _, _, h⟩, h2, _⟩ := h
  exact (h mb h2).2.1
theorem AlX.nil (h : AlX w0 p mb n s H ord a c w) (hc : Chg Nil w w') : AlX w0 p mb n s H ord a c w' := by
  obtain ⟨gs, G, h1, h2, h3, h4, h5⟩ := h
  exact ⟨gs, G, h1.chgNil hc, h2, h3.chgNil hc, h4.chg hc (fun _ _ h => h), h5⟩
theorem AlX.row (h : AlX w0 p mb n s H ord a c w) : ∃ R, Rd w R 1 a ord.length c (ints .i64 ord) := by
  obtain ⟨gs, G, h1, h2, h3, h4, h5⟩ := h
  exact ⟨_, h4.rd⟩
theorem AlX.look (h : AlX w0 p mb n s H ord a c w) (i : Int) (h1 : 0 ≤ i) (h2 : i ≤ 1000) : (Instr.lookup 26 (.map (some mb)) (.int .i64 i) false).run Try.prog w = .ok (.bool (H i)) w := by
  obtain ⟨gs, G, _, _, h3, _⟩ := h
  exact h3.look i h1 h2 0
theorem AlX.mp (h : AlX w0 p mb n s H ord a c w) : ∃ f, MpAt w Try.prog 3 mb n f ∧ ∀ (t : Int) (w' : World), MpAt w' Try.prog 3 mb (n + 1) (updM f t (some (.bool true))) → Chg (One mb) w w' → AlX w0 p mb (n + 1) s (fun x => if x = t then true else H x) ord a c w' := by
  obtain ⟨gs, G, h1, h2, ⟨f, h3, h3'⟩, h4, h5⟩ := h
  refine ⟨f, h3, fun t w' hm hc => ⟨gs, G, h1.chgG h2 hc, h2, ⟨_, hm, wr_upd h3' t true⟩, h4.chg hc (fun g hg hk => (h5 g hg).2 hk), h5⟩⟩
theorem AlX.holds (h : AlX w0 p mb n s H ord a c w) (hl : s.tot ≤ 900) : Calls Try.prog 10 #[.pointer (some ⟨p, 0, none⟩)] w (PHolds s w) := by
  obtain ⟨gs, G, h1, _⟩ := h
  exact mx_holds h1 hl
/-- One who has it frees it, behind Holds: who waited (the row told) stands as it did. -/
theorem AlX.free {wb : World} {b : Option Addr} {m d : Nat} {xs : List Value} {Gr : Option Nat} (h : AlX w0 p mb n s H ord a c wb) (hc : Chg Nil wb w) (hs : Sl w 3 1 b m d xs Gr) (hr : ∀ g, Gr = some g → wb.heap.size ≤ g) (hl : s.tot ≤ 900) (t : Int) (t1 : 1 ≤ t) (ht : t ∈ s.rd ∨ t = s.wr) :
    Calls Try.prog 9 #[.pointer (some ⟨p, 0, none⟩), .int .i64 t] w fun e w' => ∃ b' d' G, e = .returned (.tuple #[.slice b' (s.free t).2.length d', .int .i64 0]) ∧ AlX w0 p mb n (s.free t).1 H ord a c w' ∧ Sl w' 3 1 b' (s.free t).2.length d' (ints .i64 (s.free t).2) G ∧ (∀ g, G = some g → wb.heap.size ≤ g) ∧ Sl w' 3 1 b m d xs Gr := by
  obtain ⟨gs, G, h1, h2, h3, h4, h5⟩ := h
  have e : s.freeR t = ((s.free t).1, (s.free t).2, 0) := by unfold MS.freeR; rw [if_pos (by rcases ht with ht | ht; exact .inr ht; exact .inl ht.symm)]
  have hg : ∃ gs', MnX w0 gs' p s w ∧ (∀ g ∈ gs, g ∈ gs') ∧ ∀ g, Gr = some g → g ∈ gs' := by
    cases Gr with
    | none => exact ⟨gs, h1.chgNil hc, fun g h => h, fun g h => by cases h⟩
    | some g => exact ⟨g :: gs, h1.more (K := Nil) hc (fun _ h => h.elim) g (hr g rfl) (hs.lt g rfl), fun g' h => List.mem_cons_of_mem _ h, fun g' h => by injection h with h; subst h; simp⟩
  obtain ⟨gs', m1, m2, m3⟩ := hg
  have A := mx_free m1 hl t t1
  rw [e] at A
  refine A.mono ?_
  rintro e w' ⟨b', d', G', rfl, k1, k2, k3, k4⟩
  refine ⟨b', d', G', rfl, ⟨gs', G, k1, m2 mb h2, (h3.chgNil hc).keep (m2 mb h2) k2, k2.sl (h4.chg hc (fun _ _ h => h)) (fun g hg => m2 g (h5 g hg).1), fun g hg => ⟨m2 g (h5 g hg).1, (h5 g hg).2⟩⟩, k3, fun g hg => Nat.le_trans hc.size (k4 g hg), k2.sl hs m3⟩
end
end Go.Proofs.Yteiljmjfhafmfaa
