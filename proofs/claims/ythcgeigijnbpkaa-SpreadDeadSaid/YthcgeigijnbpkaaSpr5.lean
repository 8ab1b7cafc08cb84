/- Contracts of package spread: New, Pick, Ready, Block, Boost, Calm. Conditions: a run as it may be. -/
import Derived.Test.YthcgeigijnbpkaaSpr4
import Derived.Test.YthcgeigijnbpkaaSprP2
namespace Go.Proofs.Ythcgeigijnbpkaa
open Go.ChangeShapes Go.WideShapes Go.ChangeAt Go.RowKit
set_option linter.unusedVariables false
/-- What a call makes of a run, and what it answers. -/
def PS (F : Nat → Prop) (p : Nat) (s' : SR) (r : Int) (w : World) (e : Ending) (w' : World) : Prop := e = .returned (.int .i64 r) ∧ ∃ F', RunAt w' F' p s' ∧ Chg F w w' ∧ Grew w.heap.size F F'
theorem ps_same {w w' : World} {F : Nat → Prop} {p : Nat} {s : SR} {r : Int} (h : RunAt w F p s) (q : Nat) : PS F p s r w (.returned (.int .i64 r)) (w.drewN q) := ⟨rfl, F, h.drewN q, (Chg.refl _ _).drewN q, Grew.refl _ _⟩
theorem ps_ra {w w' : World} {F : Nat → Prop} {p : Nat} {s : SR} {r : Int} {g off : Nat} {a : Option Addr} {c : Nat} {G : Option Nat} (h : RA w' F p s g off a c G) (hc : Chg F w w') : PS F p s r w (.returned (.int .i64 r)) w' := ⟨rfl, F, ⟨g, off, a, c, G, h⟩, hc, Grew.refl _ _⟩
theorem fnd_get {s : SR} {t : Int} {i : Nat} (h : fndI s.ts t = some i) : ∃ x, s.ts[i]? = some x ∧ x.t = t := by
  obtain ⟨x, h1, h2, _⟩ := idx_get h
  exact ⟨x, h1, of_decide_eq_true h2⟩
theorem on_get {s : SR} {t : Int} {i : Nat} (h : onI s.ts t = some i) : ∃ x, s.ts[i]? = some x ∧ x.cpu = t := by
  obtain ⟨x, h1, h2, _⟩ := idx_get h
  exact ⟨x, h1, of_decide_eq_true h2⟩
theorem snew_ok (w : World) (n : Nat) (h1 : 1 ≤ n) (h4 : n ≤ 4) : Calls Try.prog 13 #[.int .i64 n] w fun e w' => ∃ F p, e = .returned (.tuple #[.pointer (some ⟨p, 0, none⟩), .int .i64 0]) ∧ RunAt w' F p ⟨n, 0, 0, []⟩ ∧ Chg Nil w w' ∧ Grew w.heap.size Nil F := by
  go_enter Try.func13, Try.ntmps13
  go_wp2
  go_ret2
  refine ⟨One w.heap.size, _, rfl, ⟨0, 0, none, 0, none, Blk.new w _ _, Sl.empty _ _ _ _, (fun h => absurd h (by simp)), rfl, (fun g h => by cases h), ?_⟩, (Chg.refl _ _).alloc _, ?_⟩
  · intro k hk; rw [show k = w.heap.size from hk]; simp
  · intro k hk; exact .inr (Nat.le_of_eq (show k = w.heap.size from hk).symm)
/-- Who runs there. -/
def pickV (s : SR) (cpu : Int) : Value := match onI s.ts cpu with
  | none => .tuple #[.int .i64 0, .int .i64 4]
  | some i => match s.ts[i]? with
    | none => .tuple #[.int .i64 0, .int .i64 4]
    | some x => .tuple #[.int .i64 x.t, .int .i64 0]
theorem pick_none {s : SR} {cpu : Int} (h : onI s.ts cpu = none) : pickV s cpu = .tuple #[.int .i64 0, .int .i64 4] := by unfold pickV; rw [h]
theorem pick_some {s : SR} {cpu : Int} {i : Nat} {x : ST} (h : onI s.ts cpu = some i) (hx : s.ts[i]? = some x) : pickV s cpu = .tuple #[.int .i64 x.t, .int .i64 0] := by unfold pickV; rw [h]; show (match s.ts[i]? with | none => _ | some x => _) = _; rw [hx]
theorem spick_ok (w : World) (F : Nat → Prop) (p : Nat) (s : SR) (h : RunAt w F p s) (m : Int) (hok : SOk m s) (cpu : Nat) (hc : cpu < s.n) :
    Calls Try.prog 17 #[.pointer (some ⟨p, 0, none⟩), .int .i64 cpu] w fun e w' => e = .returned (pickV s cpu) ∧ w' = w := by
  obtain ⟨g, off, a, c, G, h⟩ := h
  have c0 := h.c0
  have h4 := hok.n2
  have hl := hok.len
  have ON := hid (son_ok w F p s g off a c G h hl cpu)
  have H := hid h
  clear hok h
  cases hon : onI s.ts cpu with
  | none =>
    rw [hon] at ON
    have PV := hid (pick_none hon)
    unfold elV at ON
    clear hon
    rw [PV.out]
    go_enter Try.func17, Try.ntmps17
    go_wp2_with fail
    refine ON.out.mono ?_
    rintro e w1 ⟨rfl, hw⟩
    subst hw
    go_wp2
    go_ret2
    exact ⟨rfl, rfl⟩
  | some i =>
    rw [hon] at ON
    obtain ⟨x, hx, _⟩ := on_get hon
    have PV := hid (pick_some hon hx)
    have x0 := H.out.cell hx 0 (by omega)
    simp only [stCells, List.getElem?_cons_zero, Nat.add_zero] at x0
    unfold elV at ON
    clear hon hx
    rw [PV.out]
    go_enter Try.func17, Try.ntmps17
    go_wp2_with fail
    refine ON.out.mono ?_
    rintro e w1 ⟨rfl, hw⟩
    subst hw
    go_wp2
    go_ret2
    exact ⟨rfl, rfl⟩
/-- Is it ready? -/
def readyV (s : SR) (t : Int) : Value := match s.who t with
  | none => .tuple #[.bool false, .int .i64 4]
  | some (i, x) => .tuple #[.bool x.r, .int .i64 0]
theorem sready_ok (w : World) (F : Nat → Prop) (p : Nat) (s : SR) (h : RunAt w F p s) (m : Int) (hok : SOk m s) (t : Int) :
    Calls Try.prog 27 #[.pointer (some ⟨p, 0, none⟩), .int .i64 t] w fun e w' => e = .returned (readyV s t) ∧ w' = w := by
  obtain ⟨g, off, a, c, G, h⟩ := h
  have FN := hid (sfind_ok w F p s g off a c G h hok.len t)
  have H := hid h
  unfold readyV
  clear hok h
  cases hf : fndI s.ts t with
  | none =>
    rw [hf] at FN
    rw [who_none hf]
    unfold elV at FN
    clear hf
    go_enter Try.func27, Try.ntmps27
    go_wp2_with fail
    refine FN.out.mono ?_
    rintro e w1 ⟨rfl, hw⟩
    subst hw
    go_wp2
    go_ret2
    exact ⟨rfl, rfl⟩
  | some i =>
    rw [hf] at FN
    obtain ⟨x, hx, _⟩ := fnd_get hf
    rw [who_some hf hx]
    have x12 := H.out.cell hx 12 (by omega)
    simp only [stCells, List.getElem?_cons_succ, List.getElem?_cons_zero] at x12
    unfold elV at FN
    clear hf hx
    simp only
    go_enter Try.func27, Try.ntmps27
    go_wp2_with fail
    refine FN.out.mono ?_
    rintro e w1 ⟨rfl, hw⟩
    subst hw
    go_wp2
    go_ret2
    exact ⟨rfl, rfl⟩
theorem sblock_any (w : World) (F : Nat → Prop) (p : Nat) (s : SR) (h : RunAt w F p s) (m : Int) (hok : SOk m s) (t : Int) :
    Calls Try.prog 23 #[.pointer (some ⟨p, 0, none⟩), .int .i64 t] w (PS F p (s.doBlock t).1 (s.doBlock t).2 w) := by
  have HR := hid h
  obtain ⟨g, off, a, c, G, h⟩ := h
  have FN := hid (sfind_ok w F p s g off a c G h hok.len t)
  have H := hid h
  have OK := hid hok
  clear hok h
  cases hf : fndI s.ts t with
  | none =>
    have E : Hid (s.doBlock t = (s, 4)) := hid (by unfold SR.doBlock; rw [who_none hf])
    rw [hf] at FN
    rw [E.out]
    unfold elV at FN
    clear hf
    go_enter Try.func23, Try.ntmps23
    go_wp2_with fail
    refine FN.out.mono ?_
    rintro e w1 ⟨rfl, hw⟩
    subst hw
    go_wp2
    go_ret
    exact ps_same (w' := w) HR.out 0
  | some i =>
    rw [hf] at FN
    obtain ⟨x, hx, _⟩ := fnd_get hf
    have x12 := H.out.cell hx 12 (by omega)
    have x14 := H.out.cell hx 14 (by omega)
    have f12 := H.out.free (by have := (List.getElem?_eq_some_iff.1 hx).1; omega) (off + i * 15 + 12)
    have f14 := H.out.free (by have := (List.getElem?_eq_some_iff.1 hx).1; omega) (off + i * 15 + 14)
    simp only [stCells, List.getElem?_cons_succ, List.getElem?_cons_zero] at x12 x14
    unfold elV at FN
    cases hr : x.r with
    | false =>
      have E : Hid (s.doBlock t = (s, 8)) := hid (by unfold SR.doBlock; rw [who_some hf hx]; simp [hr])
      rw [E.out]
      rw [hr] at x12
      clear hf hx hr
      go_enter Try.func23, Try.ntmps23
      go_wp2_with fail
      refine FN.out.mono ?_
      rintro e w1 ⟨rfl, hw⟩
      subst hw
      go_wp2
      go_ret
      exact ps_same (w' := w) HR.out 0
    | true =>
      have E : Hid (s.doBlock t = (s.block i, 0)) := hid (by unfold SR.doBlock; rw [who_some hf hx]; simp [hr])
      rw [E.out]
      rw [hr] at x12
      have D1 := H.out.put (y := { x with r := false }) (u := .bool false) hx (j := 12) (by omega) rfl
      have D2 := D1.put (i := i) (x := { x with r := false }) (y := { x with r := false, cpu := -1 }) (u := .int .i64 (-1)) (set_get hx) (j := 14) (by omega) rfl
      have FL := hid (sfill_ok _ F p _ g off a c G D2 m (by
        have := OK.out.upd (i := i) (f := fun x => { x with r := false, cpu := -1 }) (Int.le_refl _) (fun x _ hx => hx.off)
        rw [upd_of hx] at this
        show SOk m { s with ts := (s.ts.set i _).set i _ }
        rw [set_set]
        exact this))
      have FE : Hid (({ s with ts := (s.ts.set i { x with r := false }).set i { x with r := false, cpu := -1 } } : SR).fill = s.block i) := hid (by unfold SR.block; rw [upd_of hx, set_set])
      have C := hid (((Chg.refl F w).setCell (p := ⟨g, off + i * 15 + 12, none⟩) (.inl (H.out.gF hx)) (.bool false)).setCell (p := ⟨g, off + i * 15 + 14, none⟩) (.inl (H.out.gF hx)) (.int .i64 (-1)))
      clear hf hx hr D1 D2
      go_enter Try.func23, Try.ntmps23
      go_wp2_with fail
      refine FN.out.mono ?_
      rintro e w1 ⟨rfl, hw⟩
      subst hw
      go_wp2_with fail
      refine FL.out.mono ?_
      rintro e w2 ⟨rfl, h1, h2⟩
      replace h1 := hid h1
      replace h2 := hid h2
      go_wp2
      go_ret
      have h3 := h1.out
      rw [← FE.out]
      exact ps_ra h3 (C.out.trans h2.out (fun _ _ h => h))
end Go.Proofs.Ythcgeigijnbpkaa
