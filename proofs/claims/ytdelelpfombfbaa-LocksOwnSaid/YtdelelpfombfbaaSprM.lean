/- A run apart from whatever else is there, and what each call does to it; the beginning of the laws. Conditions: a run as it may be. -/
import Derived.Test.YtdelelpfombfbaaSprP3
namespace Go.Proofs.Ytdelelpfombfbaa
open Go.ChangeShapes Go.WideShapes Go.ChangeAt Go.RowKit
set_option linter.unusedVariables false
/-- A run, apart from what was there at first and from some blocks. -/
def RunX (w0 : World) (gs : List Nat) (p : Nat) (s : SR) (w : World) : Prop := ∃ F, RunAt w F p s ∧ (∀ k, F k → w0.heap.size ≤ k) ∧ Below w0.heap.size w0 w ∧ ∀ g ∈ gs, ¬ F g ∧ g < w.heap.size ∧ w0.heap.size ≤ g
/-- These blocks are as they were. -/
def KeepB (gs : List Nat) (w w' : World) : Prop := ∀ g ∈ gs, ∀ t cs, Blk w g t cs → Blk w' g t cs
theorem RunX.bel {w0 w : World} {gs : List Nat} {p : Nat} {s : SR} (h : RunX w0 gs p s w) : Below w0.heap.size w0 w := by
  obtain ⟨F, _, _, h, _⟩ := h
  exact h
theorem RunX.step {w0 w w' : World} {gs : List Nat} {F F' : Nat → Prop} {p : Nat} {s' : SR} (h2 : ∀ k, F k → w0.heap.size ≤ k) (h3 : Below w0.heap.size w0 w) (h4 : ∀ g ∈ gs, ¬ F g ∧ g < w.heap.size ∧ w0.heap.size ≤ g) (k1 : RunAt w' F' p s') (k2 : Chg F w w') (k3 : Grew w.heap.size F F') : RunX w0 gs p s' w' ∧ KeepB gs w w' := by
  refine ⟨⟨F', k1, fun k hk => (k3 k hk).elim (h2 k) (fun h => Nat.le_trans h3.size h), below_chg h3 k2 h2, fun g hg => ?_⟩, fun g hg t cs hb => hb.chg k2 (h4 g hg).1⟩
  obtain ⟨a1, a2, a3⟩ := h4 g hg
  exact ⟨fun hF => (k3 g hF).elim a1 (fun h => by omega), Nat.lt_of_lt_of_le a2 k2.size, a3⟩
theorem RunX.drewN {w0 w : World} {gs : List Nat} {p : Nat} {s : SR} (h : RunX w0 gs p s w) (q : Nat) : RunX w0 gs p s (w.drewN q) := by
  obtain ⟨F, h1, h2, h3, h4⟩ := h
  exact ⟨F, h1.drewN q, h2, below_nil h3 ((Chg.refl _ _).drewN q), h4⟩
theorem RunX.alloc {w0 w : World} {gs : List Nat} {p : Nat} {s : SR} (h : RunX w0 gs p s w) (o : Obj) : RunX w0 (w.heap.size :: gs) p s (w.alloc o) := by
  obtain ⟨F, h1, h2, h3, h4⟩ := h
  refine ⟨F, h1.chg (H := Nil) ((Chg.refl _ _).alloc o) (fun _ _ h => h), h2, below_nil h3 ((Chg.refl _ _).alloc o), fun g hg => ?_⟩
  rcases List.mem_cons.1 hg with rfl | hg
  · exact ⟨fun hF => by have := h1.lt _ hF; omega, by simp, h3.size⟩
  · obtain ⟨a1, a2, a3⟩ := h4 g hg
    exact ⟨a1, by simp; omega, a3⟩
theorem RunX.less {w0 w : World} {gs hs : List Nat} {p : Nat} {s : SR} (h : RunX w0 gs p s w) (hh : ∀ g ∈ hs, g ∈ gs) : RunX w0 hs p s w := by
  obtain ⟨F, h1, h2, h3, h4⟩ := h
  exact ⟨F, h1, h2, h3, fun g hg => h4 g (hh g hg)⟩
theorem RunX.put {w0 w : World} {gs : List Nat} {p : Nat} {s : SR} (h : RunX w0 gs p s w) {g i : Nat} (hg : g ∈ gs) (v : Value) : RunX w0 gs p s (w.setCell ⟨g, i, none⟩ v) := by
  obtain ⟨F, h1, h2, h3, h4⟩ := h
  obtain ⟨a1, a2, a3⟩ := h4 g hg
  have hc : Chg (One g) w (w.setCell ⟨g, i, none⟩ v) := (Chg.refl (One g) w).setCell (p := ⟨g, i, none⟩) (.inl (show One g g from rfl)) v
  refine ⟨F, h1.chg hc (fun k hF hk => a1 (by rw [← show k = g from hk]; exact hF)), h2, below_chg h3 hc (fun k hk => by rw [show k = g from hk]; exact a3), fun g' hg' => ?_⟩
  obtain ⟨b1, b2, b3⟩ := h4 g' hg'
  exact ⟨b1, Nat.lt_of_lt_of_le b2 hc.size, b3⟩
theorem RunX.chgNil {w0 w w' : World} {gs : List Nat} {p : Nat} {s : SR} (h : RunX w0 gs p s w) (hc : Chg Nil w w') : RunX w0 gs p s w' := by
  obtain ⟨F, h1, h2, h3, h4⟩ := h
  exact ⟨F, h1.chg hc (fun _ _ h => h), h2, below_nil h3 hc, fun g hg => by obtain ⟨a1, a2, a3⟩ := h4 g hg; exact ⟨a1, Nat.lt_of_lt_of_le a2 hc.size, a3⟩⟩
theorem KeepB.nil {gs : List Nat} {w w' : World} (hc : Chg Nil w w') : KeepB gs w w' := fun g hg t cs hb => hb.chg hc (fun h => h)
/-- What a call makes of a run, apart. -/
def PX (w0 : World) (gs : List Nat) (p : Nat) (s' : SR) (r : Int) (w : World) (e : Ending) (w' : World) : Prop := e = .returned (.int .i64 r) ∧ RunX w0 gs p s' w' ∧ KeepB gs w w'
theorem px_of {w0 w : World} {gs : List Nat} {p : Nat} {s s' : SR} {r : Int} {f : Nat} {args : Array Value} (h : RunX w0 gs p s w) (hc : ∀ F, RunAt w F p s → Calls Try.prog f args w (PS F p s' r w)) : Calls Try.prog f args w (PX w0 gs p s' r w) := by
  obtain ⟨F, h1, h2, h3, h4⟩ := h
  refine (hc F h1).mono ?_
  rintro e w' ⟨rfl, F', k1, k2, k3⟩
  obtain ⟨a, b⟩ := RunX.step h2 h3 h4 k1 k2 k3
  exact ⟨rfl, a, b⟩
section
variable {w0 w : World} {gs : List Nat} {p : Nat} {s : SR} {M : Int}
theorem rx_add (h : RunX w0 gs p s w) (hok : SOk M s) (hM : M ≤ 1000000) (hl : s.ts.length < 1000) (t cl va : Int) (t1 : 1 ≤ t) (t2 : t ≤ 16) (hv : valB cl va = true) :
    Calls Try.prog 24 #[.pointer (some ⟨p, 0, none⟩), .int .i64 t, .int .i64 cl, .int .i64 va] w (PX w0 gs p (s.doAdd t cl va).1 (s.doAdd t cl va).2 w) := px_of h fun F h => sadd_any w F p s h M hok hM hl t cl va t1 t2 hv
theorem rx_pick (h : RunX w0 gs p s w) (hok : SOk M s) (cpu : Nat) (hc : cpu < s.n) :
    Calls Try.prog 40 #[.pointer (some ⟨p, 0, none⟩), .int .i64 cpu] w fun e w' => e = .returned (pickV s cpu) ∧ w' = w := by
  obtain ⟨F, h1, _⟩ := h
  exact spick_ok w F p s h1 M hok cpu hc
end
theorem new_ok (n : Nat) (h1 : 1 ≤ n) (h4 : n ≤ 4) : SOk 0 ⟨n, 0, 0, []⟩ := ⟨h1, h4, by simp, by simp, by simp, by simp, by simp, fun x hx => by cases hx⟩
theorem rx_new {w0 w : World} (hb : Below w0.heap.size w0 w) (n : Nat) (h1 : 1 ≤ n) (h4 : n ≤ 4) :
    Calls Try.prog 15 #[.int .i64 n] w fun e w' => ∃ p, e = .returned (.tuple #[.pointer (some ⟨p, 0, none⟩), .int .i64 0]) ∧ RunX w0 [] p ⟨n, 0, 0, []⟩ w' ∧ Chg Nil w w' := by
  refine (snew_ok w n h1 h4).mono ?_
  rintro e w' ⟨F, p, rfl, k1, k2, k3⟩
  exact ⟨p, rfl, ⟨F, k1, fun k hk => (k3 k hk).elim (fun h => h.elim) (fun h => Nat.le_trans hb.size h), below_nil hb k2, fun g hg => by cases hg⟩, k2⟩
theorem SOk.add {m : Int} {s : SR} (h : SOk m s) (hl : s.ts.length < 1000) {t cl va : Int} (t1 : 1 ≤ t) (t2 : t ≤ 16) (hv : valB cl va = true) : SOk (m + 1) (s.doAdd t cl va).1 := by
  have h0 : 0 ≤ m := Int.le_trans h.tk1 h.tk2
  unfold SR.doAdd
  split
  · exact h.enter (newS_ok h0 t1 t2 hv) rfl hl
  · exact h.more (by omega)
theorem RunX.chg0 {w0 w : World} {gs : List Nat} {p : Nat} {s : SR} (h : RunX w0 gs p s w) : Chg Nil w0 w := Chg.of_below h.bel _
theorem sbegun_ok (w : World) : Calls Try.prog 9 #[] w fun e w' => e = .returned (.bool true) ∧ Chg Nil w w' := by
  have E1 : Hid (((⟨2, 0, 0, []⟩ : SR).doAdd 3 1 5).2 = 0) := hid (by kernel_rfl)
  have E2 : Hid ((((⟨2, 0, 0, []⟩ : SR).doAdd 3 1 5).1.doAdd 4 1 5).2 = 0) := hid (by kernel_rfl)
  have E3 : Hid (pickV (((⟨2, 0, 0, []⟩ : SR).doAdd 3 1 5).1.doAdd 4 1 5).1 ((0 : Nat) : Int) = .tuple #[.int .i64 3, .int .i64 0]) := hid (by kernel_rfl)
  have E4 : Hid (pickV (((⟨2, 0, 0, []⟩ : SR).doAdd 3 1 5).1.doAdd 4 1 5).1 ((1 : Nat) : Int) = .tuple #[.int .i64 4, .int .i64 0]) := hid (by kernel_rfl)
  have L1 : Hid (((⟨2, 0, 0, []⟩ : SR).doAdd 3 1 5).1.ts.length = 1) := hid (by kernel_rfl)
  have N2 : Hid ((((⟨2, 0, 0, []⟩ : SR).doAdd 3 1 5).1.doAdd 4 1 5).1.n = 2) := hid (by kernel_rfl)
  have OK0 := new_ok 2 (by omega) (by omega)
  have OK1 := hid (OK0.add (by simp) (t := 3) (cl := 1) (va := 5) (by omega) (by omega) rfl)
  have OK2 := hid (OK1.out.add (by rw [L1.out]; omega) (t := 4) (cl := 1) (va := 5) (by omega) (by omega) rfl)
  replace OK0 := hid OK0
  obtain ⟨s1, hs1⟩ : ∃ s1, s1 = ((⟨2, 0, 0, []⟩ : SR).doAdd 3 1 5).1 := ⟨_, rfl⟩
  rw [← hs1] at E2 E3 E4 L1 OK1 OK2 N2
  obtain ⟨s2, hs2⟩ : ∃ s2, s2 = (s1.doAdd 4 1 5).1 := ⟨_, rfl⟩
  rw [← hs2] at E3 E4 OK2 N2
  have HS1 := hid hs1
  have HS2 := hid hs2
  clear hs1 hs2
  have NW := hid (rx_new (Below.refl w.heap.size w) 2 (by omega) (by omega))
  go_enter Try.func9, Try.ntmps9
  go_wp2_with fail
  refine NW.out.mono ?_
  rintro e w1 ⟨p, rfl, h1, _⟩
  have A1 := rx_add h1 OK0.out (by omega) (by simp) 3 1 5 (by omega) (by omega) rfl
  rw [E1.out, ← HS1.out] at A1
  replace A1 := hid A1
  clear h1
  go_wp2_with fail
  refine A1.out.mono ?_
  rintro e w2 ⟨rfl, h2, _⟩
  have A2 := rx_add h2 OK1.out (by omega) (by rw [L1.out]; omega) 4 1 5 (by omega) (by omega) rfl
  rw [E2.out, ← HS2.out] at A2
  replace A2 := hid A2
  clear h2 A1
  go_wp2_with fail
  refine A2.out.mono ?_
  rintro e w3 ⟨rfl, h3, _⟩
  have P0 := rx_pick h3 OK2.out 0 (by rw [N2.out]; omega)
  have P1 := rx_pick h3 OK2.out 1 (by rw [N2.out]; omega)
  rw [E3.out] at P0
  rw [E4.out] at P1
  replace P0 := hid P0
  replace P1 := hid P1
  replace h3 := hid h3
  clear A2
  go_wp2_with fail
  refine P0.out.mono ?_
  rintro e w4 ⟨rfl, hw⟩
  subst hw
  go_wp2_with fail
  refine P1.out.mono ?_
  rintro e w5 ⟨rfl, hw⟩
  subst hw
  go_wp2
  go_ret
  exact ⟨by simp, h3.out.chg0⟩
end Go.Proofs.Ytdelelpfombfbaa
