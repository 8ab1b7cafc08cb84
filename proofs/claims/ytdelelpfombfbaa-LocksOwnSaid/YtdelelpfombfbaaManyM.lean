/- The lock apart from whatever else is there; the map of who writes; the beginning of the laws. Conditions: at most 900 hold it or wait. -/
import Derived.Test.YtdelelpfombfbaaMany6
import Derived.Test.YtdelelpfombfbaaMaps
namespace Go.Proofs.Ytdelelpfombfbaa
open Go.ChangeShapes Go.WideShapes Go.ChangeAt Go.RowKit
set_option linter.unusedVariables false
theorem rest_inM (z n : Int) (h1 : 1 ≤ n) (h2 : n ≤ 9223372036854775807) : ∃ t : Nat, (t : Int) < n ∧ ∀ w, Calls Try.prog 17 #[.int .i64 z, .int .i64 n] w fun e w' => e = .returned (.int .i64 (t : Int)) ∧ w' = w := by
  have h3 := rest_nonneg z n h1
  have h4 := rest_lt z n h1
  obtain ⟨t, ht⟩ := Int.eq_ofNat_of_zero_le h3
  refine ⟨t, by omega, fun w => ?_⟩
  rw [← ht]
  exact (rest_any z n w h1 h2).mono fun e w' ⟨a, b⟩ => ⟨a, b.symm⟩
/-- A lock, apart from what was there at first and from some blocks. -/
def MnX (w0 : World) (gs : List Nat) (p : Nat) (s : MS) (w : World) : Prop := ∃ F, MnAt w F p s ∧ (∀ k, F k → w0.heap.size ≤ k) ∧ Below w0.heap.size w0 w ∧ ∀ g ∈ gs, ¬ F g ∧ g < w.heap.size ∧ w0.heap.size ≤ g
theorem MnX.swap {w0 w : World} {a b p : Nat} {s : MS} (h : MnX w0 [a, b] p s w) : MnX w0 [b, a] p s w := by
  obtain ⟨F, h1, h2, h3, h4⟩ := h
  exact ⟨F, h1, h2, h3, fun g hg => h4 g (by simp at hg ⊢; exact hg.symm)⟩
def KeepBM (gs : List Nat) (w w' : World) : Prop := ∃ F, Chg F w w' ∧ ∀ g ∈ gs, ¬ F g ∧ g < w.heap.size
section
variable {w0 w w' : World} {gs : List Nat} {p : Nat} {s s' : MS}
theorem MnX.bel (h : MnX w0 gs p s w) : Below w0.heap.size w0 w := by
  obtain ⟨F, _, _, h, _⟩ := h
  exact h
theorem MnX.step {F F' : Nat → Prop} (h2 : ∀ k, F k → w0.heap.size ≤ k) (h3 : Below w0.heap.size w0 w) (h4 : ∀ g ∈ gs, ¬ F g ∧ g < w.heap.size ∧ w0.heap.size ≤ g) (k1 : MnAt w' F' p s') (k2 : Chg F w w') (k3 : Grew w.heap.size F F') : MnX w0 gs p s' w' ∧ KeepBM gs w w' := by
  refine ⟨⟨F', k1, fun k hk => (k3 k hk).elim (h2 k) (fun h => Nat.le_trans h3.size h), below_chg h3 k2 h2, fun g hg => ?_⟩, F, k2, fun g hg => ⟨(h4 g hg).1, (h4 g hg).2.1⟩⟩
  obtain ⟨a1, a2, a3⟩ := h4 g hg
  exact ⟨fun hF => (k3 g hF).elim a1 (fun h => by omega), Nat.lt_of_lt_of_le a2 k2.size, a3⟩
theorem MnX.chgNil (h : MnX w0 gs p s w) (hc : Chg Nil w w') : MnX w0 gs p s w' := by
  obtain ⟨F, h1, h2, h3, h4⟩ := h
  exact ⟨F, h1.chg hc (fun _ _ h => h), h2, below_nil h3 hc, fun g hg => by obtain ⟨a1, a2, a3⟩ := h4 g hg; exact ⟨a1, Nat.lt_of_lt_of_le a2 hc.size, a3⟩⟩
theorem MnX.drewN (h : MnX w0 gs p s w) (q : Nat) : MnX w0 gs p s (w.drewN q) := h.chgNil ((Chg.refl _ _).drewN q)
theorem MnX.alloc (h : MnX w0 gs p s w) (o : Obj) : MnX w0 (w.heap.size :: gs) p s (w.alloc o) := by
  obtain ⟨F, h1, h2, h3, h4⟩ := h
  refine ⟨F, h1.chg (K := Nil) ((Chg.refl _ _).alloc o) (fun _ _ h => h), h2, below_nil h3 ((Chg.refl _ _).alloc o), fun g hg => ?_⟩
  rcases List.mem_cons.1 hg with rfl | hg
  · exact ⟨fun hF => by have := h1.lt _ hF; omega, by simp, h3.size⟩
  · obtain ⟨a1, a2, a3⟩ := h4 g hg
    exact ⟨a1, by simp; omega, a3⟩
theorem MnX.chgG (h : MnX w0 gs p s w) {g : Nat} (hg : g ∈ gs) (hc : Chg (One g) w w') : MnX w0 gs p s w' := by
  obtain ⟨F, h1, h2, h3, h4⟩ := h
  obtain ⟨a1, a2, a3⟩ := h4 g hg
  refine ⟨F, h1.chg hc (fun k hF hk => a1 (by rw [← show k = g from hk]; exact hF)), h2, below_chg h3 hc (fun k hk => by rw [show k = g from hk]; exact a3), fun g' hg' => ?_⟩
  obtain ⟨b1, b2, b3⟩ := h4 g' hg'
  exact ⟨b1, Nat.lt_of_lt_of_le b2 hc.size, b3⟩
theorem KeepBM.blk {t : TypeId} {cs : List Value} {g : Nat} (h : KeepBM gs w w') (hg : g ∈ gs) (hb : Blk w g t cs) : Blk w' g t cs := by
  obtain ⟨F, h1, h2⟩ := h
  exact hb.chg h1 (h2 g hg).1
theorem KeepBM.mp {P : Program} {k : TypeId} {g n : Nat} {f : Int → Option Value} (h : KeepBM gs w w') (hg : g ∈ gs) (hb : MpAt w P k g n f) : MpAt w' P k g n f := by
  obtain ⟨F, h1, h2⟩ := h
  exact hb.chg h1 (h2 g hg).1
theorem KeepBM.nil (hc : Chg Nil w w') (hg : ∀ g ∈ gs, g < w.heap.size) : KeepBM gs w w' := ⟨Nil, hc, fun g h => ⟨fun h => h, hg g h⟩⟩
theorem mx_take (h : MnX w0 gs p s w) (hl : s.tot ≤ 900) (t : Int) (t1 : 1 ≤ t) (t2 : t ≤ 16) (wt : Bool) :
    Calls Try.prog 22 #[.pointer (some ⟨p, 0, none⟩), .int .i64 t, .bool wt] w fun e w' => e = .returned (.int .i64 (s.take t wt).2) ∧ MnX w0 gs p (s.take t wt).1 w' ∧ KeepBM gs w w' := by
  obtain ⟨F, h1, h2, h3, h4⟩ := h
  refine (mtake_ok w F p s h1 (by unfold MS.tot at hl; omega) t t1 t2 wt).mono ?_
  rintro e w' ⟨F', rfl, k1, k2, k3⟩
  obtain ⟨a, b⟩ := MnX.step h2 h3 h4 k1 k2 k3
  exact ⟨rfl, a, b⟩
/-- What Free makes of it: who goes on, or nobody has it. -/
def MS.freeR (s : MS) (t : Int) : MS × List Int × Int := if s.wr = t ∨ t ∈ s.rd then ((s.free t).1, (s.free t).2, 0) else (s, [], 8)
theorem mx_holds (h : MnX w0 gs p s w) (hl : s.tot ≤ 900) :
    Calls Try.prog 29 #[.pointer (some ⟨p, 0, none⟩)] w (PHolds s w) := by
  obtain ⟨F, h1, _⟩ := h
  exact mholds_ok w F p s h1 (by unfold MS.tot at hl; omega)
theorem mx_new (hb : Below w0.heap.size w0 w) : Calls Try.prog 13 #[] w fun e w' => ∃ p, e = .returned (.pointer (some ⟨p, 0, none⟩)) ∧ MnX w0 [] p ⟨[], 0, []⟩ w' := by
  refine (mnew_ok w).mono ?_
  rintro e w' ⟨F, p, rfl, k1, k2, k3⟩
  exact ⟨p, rfl, F, k1, fun k hk => (k3 k hk).elim (fun h => h.elim) (fun h => Nat.le_trans hb.size h), below_nil hb k2, fun g hg => by cases hg⟩
end
theorem manyBegun_ok (w : World) : Calls Try.prog 7 #[] w fun e w' => e = .returned (.bool true) ∧ Chg Nil w w' := by
  have E1 : Hid ((⟨[], 0, []⟩ : MS).take 1 false = (⟨[1], 0, []⟩, 0)) := hid rfl
  have E2 : Hid ((⟨[1], 0, []⟩ : MS).take 2 false = (⟨[1, 2], 0, []⟩, 0)) := hid rfl
  have E3 : Hid ((⟨[1, 2], 0, []⟩ : MS).take 3 true = (⟨[1, 2], 0, [⟨3, true⟩]⟩, 9)) := hid rfl
  have NW := hid (mx_new (Below.refl w.heap.size w))
  go_enter Try.func7, Try.ntmps7
  go_wp2_with fail
  refine NW.out.mono ?_
  rintro e w1 ⟨p, rfl, h1⟩
  have A1 := mx_take h1 (by decide) 1 (by omega) (by omega) false
  rw [E1.out] at A1
  replace A1 := hid A1
  clear h1
  go_wp2_with fail
  refine A1.out.mono ?_
  rintro e w2 ⟨rfl, h2, _⟩
  have A2 := mx_take h2 (by decide) 2 (by omega) (by omega) false
  rw [E2.out] at A2
  replace A2 := hid A2
  clear h2 A1
  go_wp2_with fail
  refine A2.out.mono ?_
  rintro e w3 ⟨rfl, h3, _⟩
  have A3 := mx_take h3 (by decide) 3 (by omega) (by omega) true
  rw [E3.out] at A3
  replace A3 := hid A3
  clear h3 A2
  go_wp2_with fail
  refine A3.out.mono ?_
  rintro e w4 ⟨rfl, h4, _⟩
  replace h4 := hid h4
  go_wp2
  go_ret
  exact ⟨rfl, Chg.of_below h4.out.bel _⟩
theorem zeroBool (w : World) : (zeroValue 4).run Try.prog w = .ok (.bool false) w := by kernel_rfl
/-- A map of bools, by its function. -/
def WrAt (w : World) (mb n : Nat) (W : Int → Bool) : Prop := ∃ f, MpAt w Try.prog 3 mb n f ∧ ∀ i, (f i = none ∧ W i = false) ∨ f i = some (.bool (W i))
theorem WrAt.keep {w w' : World} {gs : List Nat} {mb n : Nat} {W : Int → Bool} (h : WrAt w mb n W) (hg : mb ∈ gs) (hk : KeepBM gs w w') : WrAt w' mb n W := by
  obtain ⟨f, h, hf⟩ := h
  exact ⟨f, hk.mp hg h, hf⟩
theorem WrAt.chgNil {w w' : World} {mb n : Nat} {W : Int → Bool} (h : WrAt w mb n W) (hc : Chg Nil w w') : WrAt w' mb n W := by
  obtain ⟨f, h, hf⟩ := h
  exact ⟨f, h.chg hc (fun h => h), hf⟩
theorem wr_upd {f : Int → Option Value} {W : Int → Bool} (hf : ∀ i, (f i = none ∧ W i = false) ∨ f i = some (.bool (W i))) (t : Int) (b : Bool) : ∀ i, (updM f t (some (.bool b)) i = none ∧ (if i = t then b else W i) = false) ∨ updM f t (some (.bool b)) i = some (.bool (if i = t then b else W i)) := fun i => by
  unfold updM
  by_cases hi : i = t
  · rw [if_pos hi, if_pos hi]; exact .inr rfl
  · rw [if_neg hi, if_neg hi]; exact hf i
theorem IsRows.row {k : IntKind} {w w' : World} {a : Option Addr} {len cap : Nat} {zs : List (List Int)} (h : IsRows k w a len cap zs) (hb : Below w.heap.size w w') (i : Nat) (hi : i < len) :
    ∃ g off a' n' c', a = some ⟨g, off, none⟩ ∧ w'.cell? ⟨g, off + i, none⟩ = some (.slice a' n' c') ∧ ∃ z, Rd w' (Upto w.heap.size) 1 a' n' c' (ints k z) ∧ n' ≤ c' ∧ c' ≤ 9223372036854775807 ∧ z.length = n' := by
  obtain ⟨xs, h1, h2, h3⟩ := h
  obtain ⟨g, off, r1, r2, r3, r4⟩ := h1.cellAt (by omega)
  obtain ⟨a', n', c', e1, e2⟩ := h3 i (by omega)
  refine ⟨g, off, a', n', c', r1, ?_, _, e2.1.chg (Chg.of_below hb Nil) (fun _ _ _ h => h), e2.1.1, e2.1.2.1, e2.1.ilen⟩
  rw [hb.cell (p := ⟨g, off + i, none⟩) r2, r4 i hi, e1]
theorem IsRows.bd {k : IntKind} {w : World} {a : Option Addr} {len cap : Nat} {zs : List (List Int)} (h : IsRows k w a len cap zs) : len ≤ 9223372036854775807 ∧ len ≤ cap ∧ cap ≤ 9223372036854775807 := by
  obtain ⟨xs, h1, _⟩ := h
  have h2 := h1.1
  have h3 := h1.2.1
  unfold maxLen at h3
  omega
end Go.Proofs.Ytdelelpfombfbaa
