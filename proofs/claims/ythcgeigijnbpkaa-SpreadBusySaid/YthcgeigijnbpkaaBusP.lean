/- Who runs where, and which processors are idle: what the law SpreadBusy reads. No program in sight; no condition. -/
import Derived.Test.YthcgeigijnbpkaaPlayT
namespace Go.Proofs.Ythcgeigijnbpkaa
set_option linter.unusedVariables false
/-- On which of the first k processors, counted from 1, a task runs; 0: on none. -/
def atF (s : SR) (k : Nat) (t : Nat) : Int := match s.who (t : Int) with
  | none => 0
  | some (i, x) => if 0 ≤ x.cpu ∧ x.cpu < (k : Int) then x.cpu + 1 else 0
/-- Which of the first k processors are idle. -/
def idK (s : SR) : Nat → Nat
  | 0 => 0
  | k + 1 => match onI s.ts (k : Int) with
    | none => idK s k ||| 2 ^ k
    | some _ => idK s k
theorem idK_none {s : SR} {k : Nat} (h : onI s.ts (k : Int) = none) : idK s (k + 1) = idK s k ||| 2 ^ k := by
  show (match onI s.ts (k : Int) with | none => idK s k ||| 2 ^ k | some _ => idK s k) = _
  rw [h]
theorem idK_some {s : SR} {k i : Nat} (h : onI s.ts (k : Int) = some i) : idK s (k + 1) = idK s k := by
  show (match onI s.ts (k : Int) with | none => idK s k ||| 2 ^ k | some _ => idK s k) = _
  rw [h]
theorem idK_lt (s : SR) (k : Nat) : idK s k < 2 ^ k := by
  induction k with
  | zero => show 0 < 1; omega
  | succ k ih =>
    have h1 : idK s k < 2 ^ (k + 1) := Nat.lt_of_lt_of_le ih (Nat.pow_le_pow_right (by omega) (by omega))
    cases h : onI s.ts (k : Int) with
    | none => rw [idK_none h]; exact Nat.or_lt_two_pow h1 (Nat.pow_lt_pow_right (by omega) (by omega))
    | some i => rw [idK_some h]; exact h1
theorem idK_bit {s : SR} {k j : Nat} (hj : (idK s k).testBit j = true) : j < k ∧ onI s.ts (j : Int) = none := by
  induction k with
  | zero => rw [show idK s 0 = 0 from rfl, Nat.zero_testBit] at hj; cases hj
  | succ k ih =>
    cases h : onI s.ts (k : Int) with
    | none =>
      rw [idK_none h, Nat.testBit_or, Nat.testBit_two_pow, Bool.or_eq_true] at hj
      rcases hj with hj | hj
      · exact ⟨by have := (ih hj).1; omega, (ih hj).2⟩
      · have : k = j := by simpa using hj
        subst this
        exact ⟨by omega, h⟩
    | some i =>
      rw [idK_some h] at hj
      exact ⟨by have := (ih hj).1; omega, (ih hj).2⟩
theorem or_bit4 (b v : Nat) (hb : b < 16) (hv : v < 4) : bits .or .i64 (b : Int) ((2 : Int) ^ v) = ((b ||| 2 ^ v : Nat) : Int) := by
  have : ∀ (b : Fin 16) (v : Fin 4), bits .or .i64 ((b.val : Nat) : Int) ((2 : Int) ^ v.val) = ((b.val ||| 2 ^ v.val : Nat) : Int) := by decide +kernel
  exact this ⟨b, hb⟩ ⟨v, hv⟩
theorem and_zero4 (m b : Nat) (hm : m < 16) (hb : b < 16) (h : ∀ j, j < 4 → m.testBit j = true → b.testBit j = false) : bits .and .i64 (m : Int) (b : Int) = 0 := by
  have : ∀ (m b : Fin 16), (∀ j : Fin 4, m.val.testBit j.val = true → b.val.testBit j.val = false) → bits .and .i64 ((m.val : Nat) : Int) ((b.val : Nat) : Int) = 0 := by decide +kernel
  exact this ⟨m, hm⟩ ⟨b, hb⟩ (fun j => h j.val j.isLt)
section
variable {c : Nat} {M : Int} {s : SR} {o : Note}
theorem atF_zero (h : PlS c M s o) (t : Nat) : atF s 0 t = 0 := by
  unfold atF
  cases hw : s.who (t : Int) with
  | none => rfl
  | some ix =>
    obtain ⟨i, x⟩ := ix
    show (if 0 ≤ x.cpu ∧ x.cpu < ((0 : Nat) : Int) then x.cpu + 1 else 0) = 0
    rw [if_neg (by omega)]
theorem on_at {k i : Nat} (hon : onI s.ts (k : Int) = some i) : ∃ x, s.ts[i]? = some x ∧ x.cpu = (k : Int) := by
  unfold onI at hon
  rw [List.findIdx?_eq_some_iff_getElem] at hon
  obtain ⟨hi, h1, _⟩ := hon
  exact ⟨s.ts[i], List.getElem?_eq_getElem hi, by simpa using h1⟩
/-- A task is found on processor k. -/
theorem bus_run (h : PlS c M s o) {k i : Nat} (hon : onI s.ts (k : Int) = some i) : ∃ t : Nat, 1 ≤ t ∧ t ≤ 16 ∧ pickV s (k : Int) = .tuple #[.int .i64 (t : Int), .int .i64 0] ∧ o.is t = true ∧ o.rd t = true ∧ (∃ m : Nat, m < 16 ∧ o.pn t = (m : Int) ∧ m.testBit k = true) ∧ atF s k t = 0 ∧ upN (atF s k) t ((k : Int) + 1) = atF s (k + 1) := by
  obtain ⟨x, hx, hc⟩ := on_at hon
  obtain ⟨t, t1, t2, hN⟩ := h.nt.a i _ (vs_get hx)
  have hxt : x.t = (t : Int) := hN.1
  have hw : s.who (t : Int) = some (i, x) := by
    rcases pl_who h t1 t2 with ⟨_, _, _, hno⟩ | ⟨j, y, hw, hy, hNy⟩
    · exact absurd hxt (hno x (List.mem_of_getElem? hx))
    · have hyt : y.t = (t : Int) := hNy.1
      have hij := h.inv.toInvP.num i j x y hx hy (by omega)
      subst hij
      rw [hx] at hy
      injection hy with hy
      subst hy
      exact hw
  have he := h.inv.toInvP.each i x hx
  rcases he with he | ⟨e1, e2, e3, e4⟩
  · omega
  refine ⟨t, t1, t2, by rw [pick_some hon hx, hxt], hN.2.1, by rw [hN.2.2.1]; exact e3, ⟨x.pin, (h.ok.each x (List.mem_of_getElem? hx)).pi, hN.2.2.2.2.2, ?_⟩, ?_, ?_⟩
  · unfold pinB at e4
    rw [hc] at e4
    simpa using e4
  · unfold atF
    rw [hw]
    show (if 0 ≤ x.cpu ∧ x.cpu < (k : Int) then x.cpu + 1 else 0) = 0
    rw [if_neg (by omega)]
  · funext u
    by_cases hu : u = t
    · subst hu
      rw [upN_same]
      unfold atF
      rw [hw]
      show _ = (if 0 ≤ x.cpu ∧ x.cpu < ((k + 1 : Nat) : Int) then x.cpu + 1 else 0)
      rw [if_pos (by omega), hc]
    · rw [upN_ne _ _ hu]
      unfold atF
      cases hwu : s.who (u : Int) with
      | none => rfl
      | some jy =>
        obtain ⟨j, y⟩ := jy
        obtain ⟨hy, hyt⟩ := who_get hwu
        have hne : y.cpu ≠ (k : Int) := by
          intro hyc
          have hij : j = i := h.inv.toInvP.cpu j i y x hy hx (by omega) (by omega)
          subst hij
          rw [hx] at hy
          injection hy with hy
          subst hy
          omega
        show (if 0 ≤ y.cpu ∧ y.cpu < (k : Int) then y.cpu + 1 else 0) = (if 0 ≤ y.cpu ∧ y.cpu < ((k + 1 : Nat) : Int) then y.cpu + 1 else 0)
        by_cases h1 : 0 ≤ y.cpu ∧ y.cpu < (k : Int)
        · rw [if_pos h1, if_pos (by omega)]
        · rw [if_neg h1, if_neg (by omega)]
theorem bus_idle (h : PlS c M s o) {k : Nat} (hon : onI s.ts (k : Int) = none) : atF s (k + 1) = atF s k := by
  funext u
  unfold atF
  cases hwu : s.who (u : Int) with
  | none => rfl
  | some jy =>
    obtain ⟨j, y⟩ := jy
    obtain ⟨hy, hyt⟩ := who_get hwu
    have hne : y.cpu ≠ (k : Int) := by
      intro hyc
      unfold onI at hon
      rw [List.findIdx?_eq_none_iff] at hon
      have := hon y (List.mem_of_getElem? hy)
      simp [hyc] at this
    show (if 0 ≤ y.cpu ∧ y.cpu < ((k + 1 : Nat) : Int) then y.cpu + 1 else 0) = (if 0 ≤ y.cpu ∧ y.cpu < (k : Int) then y.cpu + 1 else 0)
    by_cases h1 : 0 ≤ y.cpu ∧ y.cpu < (k : Int)
    · rw [if_pos h1, if_pos (by omega)]
    · rw [if_neg h1, if_neg (by omega)]
/-- Nobody who waits may run where nobody runs. -/
theorem bus_full (h : PlS c M s o) {t : Nat} (t1 : 1 ≤ t) (t2 : t ≤ 16) (hi : o.is t = true) (hr : o.rd t = true) (ha : atF s c t = 0) (hd : o.dd t = false ∨ o.mo t = true) : ∃ m : Nat, m < 16 ∧ o.pn t = (m : Int) ∧ bits .and .i64 (m : Int) (idK s c : Int) = 0 := by
  rcases pl_who h t1 t2 with ⟨_, hno, _⟩ | ⟨i, x, hw, hx, hN⟩
  · rw [hi] at hno; cases hno
  have hm := (h.ok.each x (List.mem_of_getElem? hx)).pi
  refine ⟨x.pin, hm, hN.2.2.2.2.2, ?_⟩
  have hcp : c ≤ 4 := by rw [← h.nn]; exact h.ok.n2
  have hid := idK_lt s c
  have hp : 2 ^ c ≤ 2 ^ 4 := Nat.pow_le_pow_right (by omega) hcp
  refine and_zero4 _ _ hm (by omega) (fun j hj hb => ?_)
  cases hj2 : (idK s c).testBit j with
  | false => rfl
  | true =>
    obtain ⟨hjc, hon⟩ := idK_bit hj2
    have hf := h.inv.full j (by rw [h.nn]; exact hjc) hon i x hx
    refine absurd ⟨?_, ?_⟩ hf
    · have hcpu : x.cpu = -1 := by
        rcases h.inv.toInvP.each i x hx with he | ⟨e1, e2, _⟩
        · exact he
        · exfalso
          unfold atF at ha
          rw [hw] at ha
          have ha' : (if 0 ≤ x.cpu ∧ x.cpu < (c : Int) then x.cpu + 1 else 0) = 0 := ha
          rw [h.nn] at e2
          rw [if_pos ⟨e1, e2⟩] at ha'
          omega
      have hxr : x.r = true := by rw [← hr]; exact hN.2.2.1.symm
      have ho : (!x.o || decide (0 < x.mo)) = true := by
        rcases hd with hd | hd
        · have h1 : decide ((vw x).cl = 3) = false := by rw [← hN.2.2.2.1]; exact hd
          have h2 : ¬ x.cl = 3 := of_decide_eq_false h1
          rw [(h.ok.each x (List.mem_of_getElem? hx)).o1 h2]
          rfl
        · have h1 : decide (0 < (vw x).mo) = true := by rw [← hN.2.2.2.2.1]; exact hd
          have h2 : decide (0 < x.mo) = true := h1
          rw [h2, Bool.or_true]
      unfold waitB
      rw [hxr, hcpu, ho]
      rfl
    · exact hb
end
end Go.Proofs.Ythcgeigijnbpkaa
