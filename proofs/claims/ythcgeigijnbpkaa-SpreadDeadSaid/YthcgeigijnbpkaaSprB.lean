/- Plain model of package spread: budgets stay within their periods, whatever is asked. No program in sight; no condition. -/
import Derived.Test.YthcgeigijnbpkaaPlayV
namespace Go.Proofs.Ythcgeigijnbpkaa
set_option linter.unusedVariables false
def bv (x : ST) : Int × Int × Int := (x.cl, x.bu, x.pe)
def SR.bs (s : SR) : List (Int × Int × Int) := s.ts.map bv
theorem bud_of {s s' : SR} (h : BudOk s) (hs : ∀ y ∈ s'.ts, ∃ x ∈ s.ts, bv y = bv x) : BudOk s' := by
  intro y hy hc
  obtain ⟨x, hx, he⟩ := hs y hy
  injection he with e1 e2
  injection e2 with e2 e3
  have := h x hx (by omega)
  omega
theorem bud_upd {s s' : SR} {i : Nat} {f : ST → ST} (h : BudOk s) (hts : s'.ts = upd s.ts i f) (hf : ∀ x, bv (f x) = bv x) : BudOk s' := bud_of h (fun y hy => by
  rw [hts] at hy
  rcases upd_mem hy with h1 | ⟨z, hz, rfl⟩
  · exact ⟨y, h1, rfl⟩
  · exact ⟨z, List.mem_of_getElem? hz, hf z⟩)
theorem BudOk.fill {s : SR} (h : BudOk s) : BudOk s.fill := bud_of h (fun y hy => by
  obtain ⟨i, hi⟩ := List.mem_iff_getElem?.1 hy
  obtain ⟨x, hx, c, rfl, _⟩ := fill_get hi
  exact ⟨x, List.mem_of_getElem? hx, rfl⟩)
theorem BudOk.wait {s : SR} (h : BudOk s) (i : Nat) : BudOk (s.wait i) := bud_upd h rfl (fun x => rfl)
theorem bv_run (x : ST) : bv (runT x) = bv x := by unfold runT; split <;> (try split) <;> rfl
theorem bv_ref (now : Int) (x : ST) : bv (refT now x) = bv x := by unfold refT; split <;> rfl
theorem BudOk.tick {s : SR} (h : BudOk s) (c : Int) : BudOk (s.tick c) := by
  have h1 : BudOk (s.tick1 c) := by
    unfold SR.tick1
    split
    · exact h
    · exact bud_upd h rfl bv_run
  have h2 : BudOk (s.tick2 c) := bud_of h1 (fun y hy => by
    obtain ⟨x, hx, rfl⟩ := List.mem_map.1 hy
    exact ⟨x, hx, bv_ref _ x⟩)
  have h3 : BudOk (s.tick3 c) := by
    unfold SR.tick3
    split
    · exact h2
    · exact h2.wait _
  exact h3.fill
theorem BudOk.block {s : SR} (h : BudOk s) (i : Nat) : BudOk (s.block i) := (bud_upd (s' := { s with ts := upd s.ts i (fun x => { x with r := false, cpu := -1 }) }) h rfl (fun x => rfl)).fill
theorem bv_wok (s : SR) (x : ST) : bv (wokS s x) = bv x := by
  obtain ⟨_, _, h3, _, _, _, _, _, _, h10, h11⟩ := wok_t s x
  unfold bv
  rw [h3, h10, h11]
theorem BudOk.wake {s : SR} (h : BudOk s) (i : Nat) : BudOk (s.wake i) := ((bud_upd (s' := { s with ts := upd s.ts i (wokS s) }) h rfl (bv_wok s)).wait i).fill
theorem BudOk.boostP {s : SR} (h : BudOk s) (i : Nat) (cl va : Int) : BudOk { s with ts := upd s.ts i (fun x => { x with mo := cl, wi := va }) } := bud_upd h rfl (fun x => rfl)
theorem BudOk.boost {s : SR} (h : BudOk s) (i : Nat) (cl va : Int) : BudOk (s.boost i cl va) := (h.boostP i cl va).fill
theorem BudOk.calm {s : SR} (h : BudOk s) (i : Nat) : BudOk (s.calm i) := by
  unfold SR.calm
  split
  · exact h
  · split
    · exact ((h.boostP i 0 0).wait i).fill
    · exact (h.boostP i 0 0).fill
theorem BudOk.pinTo {s : SR} (h : BudOk s) (i m : Nat) : BudOk (s.pinTo i m) := by
  have h1 : BudOk { s with ts := upd s.ts i (fun x => { x with pin := m }) } := bud_upd h rfl (fun x => rfl)
  unfold SR.pinTo
  split
  · exact h
  · split
    · exact (h1.wait i).fill
    · exact h1.fill
theorem BudOk.leave {s : SR} (h : BudOk s) (i : Nat) : BudOk (s.leave i) := by
  have h1 : BudOk { s with ts := s.ts.eraseIdx i } := bud_of h (fun y hy => ⟨y, List.mem_of_mem_eraseIdx hy, rfl⟩)
  exact h1.fill
theorem BudOk.enter {s : SR} (h : BudOk s) {x : ST} (hx : x.cl = 3 → 1 ≤ x.bu ∧ x.bu ≤ x.pe ∧ x.pe ≤ 30) : BudOk (s.enter x) := by
  have h1 : BudOk { s with ts := s.ts ++ [entT s x] } := by
    intro y hy hc
    rcases List.mem_append.1 hy with hy | hy
    · exact h y hy hc
    · rw [List.mem_singleton.1 hy] at hc ⊢
      exact hx hc
  exact (h1.wait _).fill
end Go.Proofs.Ythcgeigijnbpkaa
