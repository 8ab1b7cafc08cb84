/- Plain facts on one task with a budget, in windows of time: in as many ticks as its period has it has no more than three budgets. No program in sight; no condition. -/
import Derived.Test.YtoocjfolhghjoaaCbsQ
namespace Go.Proofs.Ytoocjfolhghjoaa
open Go.RowKit
set_option linter.unusedVariables false
/-- From s on. -/
def Jw (q p now s A : Nat) (x : DT) : Prop := A + x.l ≤ q ∨ ∃ s1 A', s ≤ s1 ∧ s1 ≤ now ∧ A ≤ A' + q ∧ s1 ≤ x.d ∧ (A' + x.l) * p ≤ (x.d - s1) * q
def Win (q p now : Nat) (h : List Nat) (x : DT) : Prop := ∀ s, s ≤ now → Jw q p now s (h.drop s).sum x
section
variable {q p now s A : Nat} {x : DT}
theorem Jw.wake (h : Jw q p now s A x) (hs : s ≤ now) (hb : x.b = q) (hp : x.p = p) : Jw q p now s A (wakeT now x) := by
  unfold wakeT
  split
  · rename_i hc
    obtain ⟨_, hc⟩ := hc
    rcases h with h | ⟨s1, A', h1, h2, h3, h4, h5⟩
    · refine .inr ⟨now, 0, hs, Nat.le_refl _, by omega, ?_, ?_⟩
      · show now ≤ now + x.p
        omega
      · show (0 + x.b) * p ≤ (now + x.p - now) * q
        rw [hb, hp, Nat.zero_add, Nat.add_sub_cancel_left, Nat.mul_comm]
        exact Nat.le_refl _
    · refine .inr ⟨s1, A', h1, h2, h3, ?_, ?_⟩
      · show s1 ≤ now + x.p
        omega
      · show (A' + x.b) * p ≤ (now + x.p - s1) * q
        rw [hb, hp] at *
        have key : A' * p ≤ (now - s1) * q := by
          rw [Nat.add_mul] at h5
          rcases hc with hc | hc
          · have : (x.d - s1) * q ≤ (now - s1) * q := Nat.mul_le_mul_right _ (by omega)
            omega
          · by_cases hdn : now ≤ x.d
            · have := mul_sub_split s1 now x.d q h2 hdn
              omega
            · have : (x.d - s1) * q ≤ (now - s1) * q := Nat.mul_le_mul_right _ (by omega)
              omega
        have e : (now + p - s1) * q = (now - s1) * q + p * q := by rw [← Nat.add_mul]; congr 1; omega
        rw [e, Nat.add_mul, Nat.mul_comm q p]
        omega
  · exact h
theorem Jw.wait (h : Jw q p now s A x) : Jw q p (now + 1) s A x := by
  rcases h with h | ⟨s1, A', h1, h2, h3, h4, h5⟩
  · exact .inl h
  · exact .inr ⟨s1, A', h1, by omega, h3, h4, h5⟩
theorem Jw.run (h : Jw q p now s A x) (hl : 1 ≤ x.l) : Jw q p (now + 1) s (A + 1) (runT x) := by
  rcases h with h | ⟨s1, A', h1, h2, h3, h4, h5⟩
  · refine .inl ?_
    show A + 1 + (x.l - 1) ≤ q
    omega
  · refine .inr ⟨s1, A' + 1, h1, by omega, by omega, h4, ?_⟩
    show (A' + 1 + (x.l - 1)) * p ≤ (x.d - s1) * q
    rw [show A' + 1 + (x.l - 1) = A' + x.l by omega]
    exact h5
theorem Jw.pass (h : Jw q p now s A x) (hs : s ≤ now) (hb : x.b = q) (hp : x.p = p) (hoz : x.o = true → x.l = 0) (hd : x.o = true → now ≤ x.d) : Jw q p now s A (passT now x) := by
  unfold passT
  split
  · rename_i hc
    have hl := hoz hc.1
    have hdn : x.d = now := Nat.le_antisymm hc.2 (hd hc.1)
    rcases h with h | ⟨s1, A', h1, h2, h3, h4, h5⟩
    · refine .inr ⟨now, 0, hs, Nat.le_refl _, by omega, ?_, ?_⟩
      · show now ≤ x.d + x.p
        omega
      · show (0 + x.b) * p ≤ (x.d + x.p - now) * q
        rw [hb, hp, hdn, Nat.zero_add, Nat.add_sub_cancel_left, Nat.mul_comm]
        exact Nat.le_refl _
    · refine .inr ⟨s1, A', h1, h2, h3, ?_, ?_⟩
      · show s1 ≤ x.d + x.p
        omega
      · show (A' + x.b) * p ≤ (x.d + x.p - s1) * q
        rw [hl, Nat.add_zero] at h5
        have e : (x.d + x.p - s1) * q = (x.d - s1) * q + x.p * q := by rw [← Nat.add_mul]; congr 1; omega
        rw [e, Nat.add_mul, hb, hp, Nat.mul_comm q p]
        omega
  · exact h
theorem Jw.end (h : Jw q p now s A x) (hd : x.d ≤ now + p) (hs : now ≤ s + p) (hp : 1 ≤ p) : A ≤ 3 * q := by
  rcases h with h | ⟨s1, A', h1, h2, h3, h4, h5⟩
  · omega
  · have h6 : (x.d - s1) * q ≤ (2 * p) * q := Nat.mul_le_mul_right _ (by omega)
    have h7 : A' * p ≤ (A' + x.l) * p := Nat.mul_le_mul_right _ (by omega)
    have h8 : A' * p ≤ (2 * q) * p := by
      have : (2 * p) * q = (2 * q) * p := by rw [Nat.mul_assoc, Nat.mul_comm p q, ← Nat.mul_assoc]
      omega
    have := Nat.le_of_mul_le_mul_right h8 hp
    omega
end
theorem win_new {q p : Nat} {t : Nat} : Win q p 0 [] (newT t q p 0) := by
  intro s hs
  refine .inl ?_
  show (List.drop s []).sum + q ≤ q
  simp
theorem win_tick {q p now : Nat} {h : List Nat} {x : DT} {v : Bool} (hw : Win q p now h x) (hlen : h.length = now) (hb : x.b = q) (hp : x.p = p) (hl : v = true → 1 ≤ x.l) (hlq : x.l ≤ q)
    (hoz : (if v then runT x else x).o = true → (if v then runT x else x).l = 0) (hd : (if v then runT x else x).o = true → now + 1 ≤ x.d) : Win q p (now + 1) (h ++ [if v then 1 else 0]) (passT (now + 1) (if v then runT x else x)) := by
  intro s hs
  have hbase : Jw q p (now + 1) s ((h ++ [if v then 1 else 0]).drop s).sum (if v then runT x else x) := by
    by_cases hsn : s ≤ now
    · rw [List.drop_append_of_le_length (by omega), List.sum_append]
      have := hw s hsn
      cases v with
      | true => simpa using this.run (hl rfl)
      | false => simpa using this.wait
    · refine .inl ?_
      rw [List.drop_of_length_le (by simp; omega)]
      cases v with
      | true => show 0 + (x.l - 1) ≤ q; omega
      | false => show 0 + x.l ≤ q; omega
  refine hbase.pass hs ?_ ?_ hoz ?_
  · cases v <;> exact hb
  · cases v <;> exact hp
  · cases v <;> exact hd
theorem sum_le_len : ∀ (h : List Nat), (∀ x ∈ h, x ≤ 1) → h.sum ≤ h.length
  | [], _ => by simp
  | a :: h, H => by
    have h1 := sum_le_len h (fun x hx => H x (List.mem_cons_of_mem _ hx))
    have h2 := H a (by simp)
    simp only [List.sum_cons, List.length_cons]
    omega
def budUses (q p : Nat) : List Use := [⟨q, p⟩, ⟨1, 30⟩]
theorem bud_ok {q p : Nat} (h1 : 1 ≤ q) (h2 : q ≤ p) (h3 : p ≤ 30) : ∀ u ∈ budUses q p, u.ok := by
  intro u hu
  simp only [budUses, List.mem_cons, List.not_mem_nil, or_false] at hu
  rcases hu with rfl | rfl
  · exact ⟨h1, h2, h3⟩
  · exact ⟨by decide, by decide, by decide⟩
theorem bud_fit {q p : Nat} (h2 : q < p) (h3 : p ≤ 30) : fit (budUses q p) 1 := by
  refine (fit_at (D := 30 * p) (fun u hu => ?_) (by omega)).2 ?_
  · simp only [budUses, List.mem_cons, List.not_mem_nil, or_false] at hu
    rcases hu with rfl | rfl
    · exact ⟨30, Nat.mul_comm _ _⟩
    · exact ⟨p, rfl⟩
  · simp only [budUses, dem, List.map_cons, List.map_nil, List.sum_cons, List.sum_nil]
    rw [Nat.mul_div_cancel _ (by omega), Nat.mul_div_cancel_left _ (by omega)]
    omega
/-- All that is so, after each tick. -/
structure Bud (q p now : Nat) (h : List Nat) (ts : List DT) : Prop where
  inv : BInv (budUses q p) now ts
  len : h.length = now
  bits : ∀ v ∈ h, v ≤ 1
  win : q < p → ∀ x, ts[0]? = some x → Win q p now h x
section
variable {q p now : Nat} {h : List Nat} {ts : List DT}
theorem bud_new (h1 : 1 ≤ q) (h2 : q ≤ p) (h3 : p ≤ 30) : Bud q p 0 [] (addTs (budUses q p) 2) := by
  refine ⟨binv_new (bud_ok h1 h2 h3) (by simp [budUses]), rfl, by simp, fun _ x hx => ?_⟩
  have : x = newT 1 q p 0 := by
    have h0 := addTs_get (budUses q p) 2 0 (by omega)
    rw [h0] at hx
    injection hx with hx
    rw [← hx]
    rfl
  rw [this]
  exact win_new
theorem Bud.at0 (hB : Bud q p now h ts) : ∃ x, ts[0]? = some x ∧ x.t = 1 ∧ x.b = q ∧ x.p = p ∧ DOk now x := by
  have hl : ts.length = 2 := hB.inv.len
  have h0 : 0 < ts.length := by omega
  obtain ⟨h1, h2, h3⟩ := hB.inv.at_ 0 _ (List.getElem?_eq_getElem h0)
  exact ⟨_, List.getElem?_eq_getElem h0, h1, h2, h3, hB.inv.ok _ (List.getElem_mem h0)⟩
theorem Bud.block (hB : Bud q p now h ts) {x : DT} (hx : ts[0]? = some x) : Bud q p now h (ts.set 0 { x with r := false }) := by
  refine ⟨hB.inv.block hx, hB.len, hB.bits, fun hq y hy => ?_⟩
  rw [List.getElem?_set_self (List.getElem?_eq_some_iff.1 hx).1] at hy
  injection hy with hy
  rw [← hy]
  exact hB.win hq x hx
theorem Bud.wake (hB : Bud q p now h ts) {x : DT} (hx : ts[0]? = some x) : Bud q p now h (ts.set 0 (if x.r then x else wakeT now x)) := by
  refine ⟨hB.inv.wake hx, hB.len, hB.bits, fun hq y hy => ?_⟩
  rw [List.getElem?_set_self (List.getElem?_eq_some_iff.1 hx).1] at hy
  injection hy with hy
  rw [← hy]
  have hw := hB.win hq x hx
  obtain ⟨x', hx', _, hb, hp, _⟩ := hB.at0
  rw [hx] at hx'; injection hx' with hx'; subst hx'
  cases x.r with
  | true => exact hw
  | false => exact fun s hs => (hw s hs).wake hs hb hp
theorem Bud.tick (hB : Bud q p now h ts) (h3 : p ≤ 30) {b : Option Nat} (hb : IsFirst ts ts.length b) : Bud q p (now + 1) (h ++ [if b = some 0 then 1 else 0]) (tickTs now ts b) := by
  refine ⟨hB.inv.tick hb, by simp [hB.len], fun v hv => ?_, fun hq y hy => ?_⟩
  · rcases List.mem_append.1 hv with h1 | h1
    · exact hB.bits v h1
    · rw [List.mem_singleton.1 h1]; split <;> omega
  · obtain ⟨x, hx, _, hxb, hxp, hok⟩ := hB.at0
    rw [tick_at hx] at hy
    injection hy with hy
    rw [← hy]
    have hw := hB.win hq x hx
    have hfit := bud_fit hq h3
    have hrn : (ranTs ts b)[0]? = some (if b = some 0 then runT x else x) := by
      rw [ranTs_get, hx]
      by_cases hbi : b = some 0 <;> simp [hbi]
    have hor := ran_mem hB.inv.ok hb (List.mem_of_getElem? hrn)
    have hl1 : b = some 0 → 1 ≤ x.l ∧ x.r = true := by
      intro hbi
      subst hbi
      obtain ⟨y, _, hy, hey, _⟩ := hb
      rw [hx] at hy; injection hy with hy; subst hy
      unfold elig at hey
      simp at hey
      refine ⟨?_, hey.1⟩
      rcases Nat.eq_zero_or_pos x.l with hl | hl
      · have := hok.oz.2 hl; rw [hey.2] at this; cases this
      · exact hl
    have hd : (if b = some 0 then runT x else x).o = true → now + 1 ≤ x.d := by
      intro ho
      by_cases hb0 : b = some 0
      · obtain ⟨g1, g2⟩ := hl1 hb0
        by_cases hxd : x.d ≤ now
        · have := cbs_due hB.inv.cbs hB.inv.ok (by rw [hB.inv.uses]; exact hfit) hx g2 hxd
          omega
        · omega
      · rw [if_neg hb0] at ho
        exact hB.inv.past x (List.mem_of_getElem? hx) ho
    by_cases hb0 : b = some 0
    · have := win_tick (v := true) hw hB.len hxb hxp (fun _ => (hl1 hb0).1) (by rw [← hxb]; exact hok.l2) (by rw [if_pos hb0] at hor; exact hor.oz.1) (by rw [if_pos hb0] at hd; exact hd)
      rw [if_pos hb0, if_pos hb0]
      exact this
    · have := win_tick (v := false) hw hB.len hxb hxp (fun hh => by cases hh) (by rw [← hxb]; exact hok.l2) (by rw [if_neg hb0] at hor; exact hor.oz.1) (by rw [if_neg hb0] at hd; exact hd)
      rw [if_neg hb0, if_neg hb0]
      exact this
theorem Bud.sum (hB : Bud q p now h ts) (h1 : 1 ≤ p) (h2 : q ≤ p) (s : Nat) (hs : s ≤ now) (hsp : now ≤ s + p) : (h.drop s).sum ≤ 3 * q := by
  by_cases hq : q < p
  · obtain ⟨x, hx, _, _, hxp, hok⟩ := hB.at0
    exact (hB.win hq x hx s hs).end (by have := hok.d2; omega) hsp h1
  · have e : q = p := by omega
    have h3 := sum_le_len (h.drop s) (fun v hv => hB.bits v (List.mem_of_mem_drop hv))
    have h4 : (h.drop s).length = now - s := by rw [List.length_drop, hB.len]
    omega
end
end Go.Proofs.Ytoocjfolhghjoaa
