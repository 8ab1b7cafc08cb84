/- Contracts of package spread: New, Pick, Ready, Block, Boost, Calm. Conditions: a run as it may be. -/
import Derived.Test.YtdelelpfombfbaaSpr4
import Derived.Test.YtdelelpfombfbaaSprP2
namespace Go.Proofs.Ytdelelpfombfbaa
open Go.ChangeShapes Go.WideShapes Go.ChangeAt Go.RowKit
set_option linter.unusedVariables false
/-- What a call makes of a run, and what it answers. -/
def PS (F : Nat → Prop) (p : Nat) (s' : SR) (r : Int) (w : World) (e : Ending) (w' : World) : Prop := e = .returned (.int .i64 r) ∧ ∃ F', RunAt w' F' p s' ∧ Chg F w w' ∧ Grew w.heap.size F F'
theorem ps_same {w w' : World} {F : Nat → Prop} {p : Nat} {s : SR} {r : Int} (h : RunAt w F p s) (q : Nat) : PS F p s r w (.returned (.int .i64 r)) (w.drewN q) := ⟨rfl, F, h.drewN q, (Chg.refl _ _).drewN q, Grew.refl _ _⟩
theorem ps_ra {w w' : World} {F : Nat → Prop} {p : Nat} {s : SR} {r : Int} {g off : Nat} {a : Option Addr} {c : Nat} {G : Option Nat} (h : RA w' F p s g off a c G) (hc : Chg F w w') : PS F p s r w (.returned (.int .i64 r)) w' := ⟨rfl, F, ⟨g, off, a, c, G, h⟩, hc, Grew.refl _ _⟩
theorem fnd_get {s : SR} {t : Int} {i : Nat} (h : fndI s.ts t = some i) : ∃ x, s.ts[i]? = some x ∧ x.t = t := by
  obtain ⟨x, h1, h2, _⟩ := idx_get h
  exact ⟨x, h1, of_decide_eq_true h2⟩
theorem on_get {s : SR} {t : Int} {i : Nat} (h : onI s.ts t = some i) : ∃ x, s.ts[i]? = some x ∧ x.cpu = t := by
  obtain ⟨x, h1, h2, _⟩ := idx_get h
  exact ⟨x, h1, of_decide_eq_true h2⟩
theorem snew_ok (w : World) (n : Nat) (h1 : 1 ≤ n) (h4 : n ≤ 4) : Calls Try.prog 15 #[.int .i64 n] w fun e w' => ∃ F p, e = .returned (.tuple #[.pointer (some ⟨p, 0, none⟩), .int .i64 0]) ∧ RunAt w' F p ⟨n, 0, 0, []⟩ ∧ Chg Nil w w' ∧ Grew w.heap.size Nil F := by
  go_enter Try.func15, Try.ntmps15
  go_wp2
  go_ret2
  refine ⟨One w.heap.size, _, rfl, ⟨0, 0, none, 0, none, Blk.new w _ _, Sl.empty _ _ _ _, (fun h => absurd h (by simp)), rfl, (fun g h => by cases h), ?_⟩, (Chg.refl _ _).alloc _, ?_⟩
  · intro k hk; rw [show k = w.heap.size from hk]; simp
  · intro k hk; exact .inr (Nat.le_of_eq (show k = w.heap.size from hk).symm)
/-- Who runs there. -/
def pickV (s : SR) (cpu : Int) : Value := match onI s.ts cpu with
  | none => .tuple #[.int .i64 0, .int .i64 4]
  | some i => match s.ts[i]? with
    | none => .tuple #[.int .i64 0, .int .i64 4]
    | some x => .tuple #[.int .i64 x.t, .int .i64 0]
theorem pick_none {s : SR} {cpu : Int} (h : onI s.ts cpu = none) : pickV s cpu = .tuple #[.int .i64 0, .int .i64 4] := by unfold pickV; rw [h]
theorem pick_some {s : SR} {cpu : Int} {i : Nat} {x : ST} (h : onI s.ts cpu = some i) (hx : s.ts[i]? = some x) : pickV s cpu = .tuple #[.int .i64 x.t, .int .i64 0] := by unfold pickV; rw [h]; show (match s.ts[i]? with | none => _ | some x => _) = _; rw [hx]
theorem spick_ok (w : World) (F : Nat → Prop) (p : Nat) (s : SR) (h : RunAt w F p s) (m : Int) (hok : SOk m s) (cpu : Nat) (hc : cpu < s.n) :
    Calls Try.prog 40 #[.pointer (some ⟨p, 0, none⟩), .int .i64 cpu] w fun e w' => e = .returned (pickV s cpu) ∧ w' = w := by
  obtain ⟨g, off, a, c, G, h⟩ := h
  have c0 := h.c0
  have h4 := hok.n2
  have hl := hok.len
  have ON := hid (son_ok w F p s g off a c G h hl cpu)
  have H := hid h
  clear hok h
  cases hon : onI s.ts cpu with
  | none =>
    rw [hon] at ON
    have PV := hid (pick_none hon)
    unfold elV at ON
    clear hon
    rw [PV.out]
    go_enter Try.func40, Try.ntmps40
    go_wp2_with fail
    refine ON.out.mono ?_
    rintro e w1 ⟨rfl, hw⟩
    subst hw
    go_wp2
    go_ret2
    exact ⟨rfl, rfl⟩
  | some i =>
    rw [hon] at ON
    obtain ⟨x, hx, _⟩ := on_get hon
    have PV := hid (pick_some hon hx)
    have x0 := H.out.cell hx 0 (by omega)
    simp only [stCells, List.getElem?_cons_zero, Nat.add_zero] at x0
    unfold elV at ON
    clear hon hx
    rw [PV.out]
    go_enter Try.func40, Try.ntmps40
    go_wp2_with fail
    refine ON.out.mono ?_
    rintro e w1 ⟨rfl, hw⟩
    subst hw
    go_wp2
    go_ret2
    exact ⟨rfl, rfl⟩
/-- Is it ready? -/
def readyV (s : SR) (t : Int) : Value := match s.who t with
  | none => .tuple #[.bool false, .int .i64 4]
  | some (i, x) => .tuple #[.bool x.r, .int .i64 0]
end Go.Proofs.Ytdelelpfombfbaa
