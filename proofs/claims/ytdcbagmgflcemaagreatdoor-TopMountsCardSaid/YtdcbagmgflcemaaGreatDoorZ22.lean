/- Contracts of package spread: Leave, Add. Conditions: a run as it may be, with fewer than a thousand tasks · Plain model of package spread, on: who runs, who is best, what a tick and fill make of a run. No program in sight; no condition · A run apart from whatever else is there, and what each call does to it; the beginning of the laws. Conditions: a run as it may be. -/
import Derived.Test.YtdcbagmgflcemaaGreatDoorZ21
namespace Go.Proofs.YtdcbagmgflcemaaGreatDoor
open Go.ChangeShapes Go.WideShapes Go.ChangeAt Go.RowKit
set_option linter.unusedVariables false
theorem Sl.cut {w : World} {e : TypeId} {s n m c : Nat} {a : Option Addr} {xs : List Value} {G : Option Nat} (h : Sl w e s a n c xs G) (hm : m ≤ n) (h0 : 0 < n) : Sl w e s a m m (xs.take (m * s)) G := by
  obtain ⟨h1, h2, h3, h4⟩ := h
  have hms : m * s ≤ n * s := Nat.mul_le_mul_right _ hm
  rcases h4 with ⟨h4, h5⟩ | ⟨g, off, cur, r1, r2, r3, r4, r5⟩
  · omega
  · have hmc : m * s ≤ c * s := Nat.mul_le_mul_right _ (by omega)
    exact ⟨Nat.le_refl _, by omega, by rw [List.length_take]; omega, .inr ⟨g, off, cur, r1, r2, r3, by omega, fun j hj => by rw [r5 j (by omega), List.getElem?_take_of_lt hj]⟩⟩
theorem newS_ok {m : Int} {t cl va : Int} (hm : 0 ≤ m) (t1 : 1 ≤ t) (t2 : t ≤ 16) (hv : valB cl va = true) : TOk m (newS t cl va) := by
  obtain ⟨b1, b2, b3, b4, b5⟩ := valB_bd hv
  exact { t1 := t1, t2 := t2, c1 := b1, c2 := by show cl ≤ 3; omega, va1 := b3, va2 := b4, va3 := b5, mo1 := by simp [newS], mo2 := by simp [newS], wi1 := by simp [newS], wi2 := by simp [newS], b1 := by simp [newS], b2 := by simp [newS], b3 := (fun h => by have h' : cl = 3 := h; omega), p1 := by simp [newS], p2 := by simp [newS], l1 := by simp [newS], l2 := by simp [newS], l3 := (fun h => by have h' : cl = 3 := h; omega), d1 := by simp [newS], d2 := by show (0 : Int) ≤ m + 30; omega, v1 := by simp [newS], v2 := by show (0 : Int) ≤ m * 1048576; omega, s1 := by simp [newS], s2 := hm, pi := by simp [newS], q1 := by simp [newS], q2 := by simp [newS], o1 := fun _ => rfl }
set_option maxHeartbeats 1000000 in
theorem sadd_any (w : World) (F : Nat → Prop) (p : Nat) (s : SR) (h : RunAt w F p s) (M : Int) (hok : SOk M s) (hM : M ≤ 1000000) (hl : s.ts.length < 1000) (t cl va : Int) (t1 : 1 ≤ t) (t2 : t ≤ 16) (hv : valB cl va = true) :
    Calls Tryz.prog 34 #[.pointer (some ⟨p, 0, none⟩), .int .i64 t, .int .i64 cl, .int .i64 va] w (PS F p (s.doAdd t cl va).1 (s.doAdd t cl va).2 w) := by
  have HR := hid h
  have EN := hid (senter_ok w F p s h M hok hM (newS t cl va) (newS_ok (by have := hok.tk1; have := hok.tk2; omega) t1 t2 hv) rfl hl)
  obtain ⟨g, off, a, c, G, h⟩ := h
  have FN := hid (sfind_ok w F p s g off a c G h hok.len t)
  have VL : Hid (∀ w, Calls Tryz.prog 66 #[.int .i64 cl, .int .i64 va] w fun e w' => e = .returned (.bool true) ∧ w = w') := hid (fun w => by
    have := svalue_ok w cl va
    rwa [hv] at this)
  have H := hid h
  clear h hok hv
  simp only [newS] at EN
  cases hf : fndI s.ts t with
  | none =>
    have E : Hid (s.doAdd t cl va = (s.enter (newS t cl va), 0)) := hid (by unfold SR.doAdd; rw [who_none hf])
    rw [hf] at FN
    unfold elV at FN
    clear hf
    go_enter Tryz.func34, Tryz.ntmps34
    go_wp2_with fail
    refine (VL.out _).mono ?_
    rintro e w1 ⟨rfl, hw⟩
    subst hw
    go_wp2_with fail
    refine FN.out.mono ?_
    rintro e w1 ⟨rfl, hw⟩
    subst hw
    go_wp2_with fail
    refine EN.out.mono ?_
    rintro e w2 ⟨rfl, F', h1, h2, h3⟩
    replace h1 := hid h1
    replace h2 := hid h2
    replace h3 := hid h3
    go_wp2
    go_ret
    rw [E.out]
    exact ⟨rfl, F', h1.out, h2.out, h3.out⟩
  | some i =>
    rw [hf] at FN
    obtain ⟨x, hx, _⟩ := fnd_get hf
    have E : Hid (s.doAdd t cl va = (s, 5)) := hid (by unfold SR.doAdd; rw [who_some hf hx])
    unfold elV at FN
    clear hf hx
    go_enter Tryz.func34, Tryz.ntmps34
    go_wp2_with fail
    refine (VL.out _).mono ?_
    rintro e w1 ⟨rfl, hw⟩
    subst hw
    go_wp2_with fail
    refine FN.out.mono ?_
    rintro e w1 ⟨rfl, hw⟩
    subst hw
    go_wp2
    go_ret
    rw [E.out]
    exact ps_same (w' := w) HR.out 0
end Go.Proofs.YtdcbagmgflcemaaGreatDoor
namespace Go.Proofs.YtdcbagmgflcemaaGreatDoor
set_option linter.unusedVariables false
/-- What a tick makes of who ran. -/
def gone (st : Int) (x : ST) : ST := { runT x with cpu := -1, si := st + 1 }
end Go.Proofs.YtdcbagmgflcemaaGreatDoor
namespace Go.Proofs.YtdcbagmgflcemaaGreatDoor
open Go.ChangeShapes Go.WideShapes Go.ChangeAt Go.RowKit
set_option linter.unusedVariables false
/-- A run, apart from what was there at first and from some blocks. -/
def RunX (w0 : World) (gs : List Nat) (p : Nat) (s : SR) (w : World) : Prop := ∃ F, RunAt w F p s ∧ (∀ k, F k → w0.heap.size ≤ k) ∧ Below w0.heap.size w0 w ∧ ∀ g ∈ gs, ¬ F g ∧ g < w.heap.size ∧ w0.heap.size ≤ g
/-- These blocks are as they were. -/
def KeepB (gs : List Nat) (w w' : World) : Prop := ∀ g ∈ gs, ∀ t cs, Blk w g t cs → Blk w' g t cs
theorem RunX.bel {w0 w : World} {gs : List Nat} {p : Nat} {s : SR} (h : RunX w0 gs p s w) : Below w0.heap.size w0 w := by
  obtain ⟨F, _, _, h, _⟩ := h
  exact h
theorem RunX.step {w0 w w' : World} {gs : List Nat} {F F' : Nat → Prop} {p : Nat} {s' : SR} (h2 : ∀ k, F k → w0.heap.size ≤ k) (h3 : Below w0.heap.size w0 w) (h4 : ∀ g ∈ gs, ¬ F g ∧ g < w.heap.size ∧ w0.heap.size ≤ g) (k1 : RunAt w' F' p s') (k2 : Chg F w w') (k3 : Grew w.heap.size F F') : RunX w0 gs p s' w' ∧ KeepB gs w w' := by
  refine ⟨⟨F', k1, fun k hk => (k3 k hk).elim (h2 k) (fun h => Nat.le_trans h3.size h), below_chg h3 k2 h2, fun g hg => ?_⟩, fun g hg t cs hb => hb.chg k2 (h4 g hg).1⟩
  obtain ⟨a1, a2, a3⟩ := h4 g hg
  exact ⟨fun hF => (k3 g hF).elim a1 (fun h => by omega), Nat.lt_of_lt_of_le a2 k2.size, a3⟩
theorem RunX.drewN {w0 w : World} {gs : List Nat} {p : Nat} {s : SR} (h : RunX w0 gs p s w) (q : Nat) : RunX w0 gs p s (w.drewN q) := by
  obtain ⟨F, h1, h2, h3, h4⟩ := h
  exact ⟨F, h1.drewN q, h2, below_nil h3 ((Chg.refl _ _).drewN q), h4⟩
theorem RunX.alloc {w0 w : World} {gs : List Nat} {p : Nat} {s : SR} (h : RunX w0 gs p s w) (o : Obj) : RunX w0 (w.heap.size :: gs) p s (w.alloc o) := by
  obtain ⟨F, h1, h2, h3, h4⟩ := h
  refine ⟨F, h1.chg (H := Nil) ((Chg.refl _ _).alloc o) (fun _ _ h => h), h2, below_nil h3 ((Chg.refl _ _).alloc o), fun g hg => ?_⟩
  rcases List.mem_cons.1 hg with rfl | hg
  · exact ⟨fun hF => by have := h1.lt _ hF; omega, by simp, h3.size⟩
  · obtain ⟨a1, a2, a3⟩ := h4 g hg
    exact ⟨a1, by simp; omega, a3⟩
theorem RunX.less {w0 w : World} {gs hs : List Nat} {p : Nat} {s : SR} (h : RunX w0 gs p s w) (hh : ∀ g ∈ hs, g ∈ gs) : RunX w0 hs p s w := by
  obtain ⟨F, h1, h2, h3, h4⟩ := h
  exact ⟨F, h1, h2, h3, fun g hg => h4 g (hh g hg)⟩
theorem RunX.put {w0 w : World} {gs : List Nat} {p : Nat} {s : SR} (h : RunX w0 gs p s w) {g i : Nat} (hg : g ∈ gs) (v : Value) : RunX w0 gs p s (w.setCell ⟨g, i, none⟩ v) := by
  obtain ⟨F, h1, h2, h3, h4⟩ := h
  obtain ⟨a1, a2, a3⟩ := h4 g hg
  have hc : Chg (One g) w (w.setCell ⟨g, i, none⟩ v) := (Chg.refl (One g) w).setCell (p := ⟨g, i, none⟩) (.inl (show One g g from rfl)) v
  refine ⟨F, h1.chg hc (fun k hF hk => a1 (by rw [← show k = g from hk]; exact hF)), h2, below_chg h3 hc (fun k hk => by rw [show k = g from hk]; exact a3), fun g' hg' => ?_⟩
  obtain ⟨b1, b2, b3⟩ := h4 g' hg'
  exact ⟨b1, Nat.lt_of_lt_of_le b2 hc.size, b3⟩
theorem KeepB.nil {gs : List Nat} {w w' : World} (hc : Chg Nil w w') : KeepB gs w w' := fun g hg t cs hb => hb.chg hc (fun h => h)
section
variable {w0 w : World} {gs : List Nat} {p : Nat} {s : SR} {M : Int}
end
theorem SOk.add {m : Int} {s : SR} (h : SOk m s) (hl : s.ts.length < 1000) {t cl va : Int} (t1 : 1 ≤ t) (t2 : t ≤ 16) (hv : valB cl va = true) : SOk (m + 1) (s.doAdd t cl va).1 := by
  have h0 : 0 ≤ m := Int.le_trans h.tk1 h.tk2
  unfold SR.doAdd
  split
  · exact h.enter (newS_ok h0 t1 t2 hv) rfl hl
  · exact h.more (by omega)
end Go.Proofs.YtdcbagmgflcemaaGreatDoor
