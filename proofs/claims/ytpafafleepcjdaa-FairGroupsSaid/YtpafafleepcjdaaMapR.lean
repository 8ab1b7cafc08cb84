/- Words for a range over a map with integer keys: what is still to come. No condition. -/
import Derived.Test.YtpafafleepcjdaaMaps
namespace Go.Proofs.Ytpafafleepcjdaa
open Go.RowKit
/-- Block r ranges over the map in block b, that holds what f says; 'left' are still to come. -/
def MpRg (w : World) (P : Program) (k : TypeId) (b r n : Nat) (f : Int → Option Value) (left : Int → Bool) (cnt : Nat) : Prop :=
  ∃ D L, w.ranges P k heldE b r n D L cnt ∧ (∀ i, match f i with | some v => Maps.has D (Lit.int .i64 i) = true ∧ ∀ z, D.atKey (Lit.int .i64 i) z = .held v | none => Maps.has D (Lit.int .i64 i) = false) ∧ ∀ i, L (Lit.int .i64 i) = left i
section
variable {w w' : World} {P : Program} {k : TypeId} {b r n cnt : Nat} {f : Int → Option Value} {left : Int → Bool} {F : Nat → Prop}
theorem MpRg.map (h : MpRg w P k b r n f left cnt) : MpAt w P k b n f := by
  obtain ⟨D, L, h1, h2, _⟩ := h
  exact ⟨D, h1.owns, h2⟩
theorem MpRg.lt (h : MpRg w P k b r n f left cnt) : r < w.heap.size := by
  obtain ⟨D, L, h1, _⟩ := h
  exact h1.lt
theorem MpRg.ne (h : MpRg w P k b r n f left cnt) : r ≠ b := by
  obtain ⟨D, L, h1, _⟩ := h
  exact h1.ne
theorem MpRg.cnt_eq (h : MpRg w P k b r n f left cnt) : w.rangeLeft b r = cnt := by
  obtain ⟨D, L, h1, _⟩ := h
  exact h1.left_eq
theorem MpRg.chg (h : MpRg w P k b r n f left cnt) (hc : Chg F w w') (hb : ¬ F b) (hr : ¬ F r) : MpRg w' P k b r n f left cnt := by
  obtain ⟨D, L, h1, h2, h3⟩ := h
  have l1 := h1.owns.lt
  have l2 := h1.lt
  obtain ⟨es, clock, since, seen, c0, hb', Ft, hs, hD, hr', rest⟩ := h1
  exact ⟨D, L, ⟨es, clock, since, seen, c0, (hc.block b l1 hb).trans hb', Ft, hs, hD, (hc.block r l2 hr).trans hr', rest⟩, h2, h3⟩
theorem grown_nil {a c : World} (h : a.grownBy c none) : Chg Nil a c := ⟨h.os, h.tape, h.output, h.size, fun k hk _ => h.block k hk (by simp)⟩
theorem same_int (i j : Int) : (Lit.int .i64 i).sameKey (Lit.int .i64 j) = decide (i = j) := by simp [Lit.sameKey]
end
section
variable {P : Program} (w : World) {ops : Array Oper} {rest : List Oper} {o : Oper} {a : Act} {Q : Exit → Act → World → Prop}
/-- range m -/
theorem wpList_range_mp (hg : o.guard = none) (m : Operand) (t : TypeId) (hop : o.op = Op.range t m) (k e : TypeId) (hk : P.underlying k = some (.int .i64)) (ht : P.underlying t = some (.map k e)) (b n : Nat) (f : Int → Option Value)
    (hm : a.eval m = .map (some b)) (hown : MpAt w P k b n f)
    (hK : ∀ w' cnt, MpRg w' P k b w.heap.size n f (fun i => (f i).isSome) cnt → Chg Nil w w' → w'.heap.size = w.heap.size + 1 → wpList P ops Q rest (a.put o.dst (.pointer (some ⟨w.heap.size, 0, none⟩))) w') :
    wpList P ops Q (o :: rest) a w := by
  obtain ⟨D, h1, h2⟩ := hown
  refine wpList_range_own w hg m t hop k e (Maps.int_keyed hk) ht heldE b n D hm h1 (fun w' hr hgr hsz => hK w' _ ⟨D, _, hr, h2, fun i => ?_⟩ (grown_nil hgr) hsz)
  have := h2 i
  cases hf : f i with
  | none => rw [hf] at this; rw [this]; show false = (f i).isSome; rw [hf]; rfl
  | some u => rw [hf] at this; rw [this.1]; show true = (f i).isSome; rw [hf]; rfl
/-- the next one -/
theorem wpList_next_mp (hg : o.guard = none) (it : Operand) (hop : o.op = Op.next it false) (k : TypeId) (hk : P.underlying k = some (.int .i64)) (b r n : Nat) (f : Int → Option Value) (left : Int → Bool) (cnt : Nat)
    (hit : a.eval it = .pointer (some ⟨r, 0, none⟩)) (h : MpRg w P k b r n f left cnt)
    (hDone : (∀ i, left i = false) → wpList P ops Q rest (a.put o.dst (.tuple #[.bool false])) w)
    (hMore : ∀ (i : Int) (v : Value) (w' : World) (cnt' : Nat), left i = true → (∀ u, f i = some u → u = v) → (f i).isSome = true → MpRg w' P k b r n f (fun j => left j && !decide (j = i)) cnt' → cnt' < cnt → Chg (One r) w w' → w'.heap.size = w.heap.size →
      (Instr.entry (.pointer (some ⟨r, 0, none⟩))).run P w' = .ok (.tuple #[.int .i64 i, v]) w' → wpList P ops Q rest (a.put o.dst (.tuple #[.bool true, .int .i64 i, v])) w') :
    wpList P ops Q (o :: rest) a w := by
  obtain ⟨D, L, h1, h2, h3⟩ := h
  have hex := h1
  refine wpList_next_ranges w hg it hop k (Maps.int_keyed hk) heldE (fun x : Int => Value.int .i64 x) (fun v : Value => v) (fun key kl hkey => by obtain ⟨x, rfl, _⟩ := Maps.keyOf_int_inv hk hkey; exact ⟨x, rfl⟩) (fun v y _ => ⟨v, rfl⟩) b r n D L cnt hit h1
    (fun _ hl => hDone (fun i => by rw [← h3 i]; exact hl _)) (fun x c kl y w' cnt' hkey hlk hv hat hrg hlt hgr hsz hen => ?_)
  obtain ⟨x', e1, rfl, hwf⟩ := Maps.keyOf_int_inv hk hkey
  injection e1 with _ e1
  subst e1
  unfold heldE at hv
  injection hv with hv
  have hy : y.1 = .held c := by rw [← hv]
  rw [hy] at hat
  obtain ⟨es, clock, since, seen, c0, hb', Ft, hs, hD, hr', k1, k2, k3, k4, k5⟩ := id hex
  have hhas : Maps.has D (Lit.int .i64 x) = true := by
    cases hh : Maps.has D (Lit.int .i64 x) with
    | true => rfl
    | false =>
      have z1 := hat (.held (.bool true))
      have z2 := hat (.held (.bool false))
      rw [Maps.atKey_of_not_has hh] at z1 z2
      rw [← z2] at z1
      injection z1 with z1
      injection z1 with z1
      cases z1
  refine hMore x c w' cnt' (by rw [← h3]; exact hlk) (fun u hu => ?_) ?_ ⟨D, _, hrg, h2, fun i => ?_⟩ hlt (grown_chg hgr) hsz hen
  · have := h2 x
    rw [hu] at this
    have z1 := this.2 (.held (.bool true))
    rw [hat] at z1
    injection z1 with z1
    exact z1.symm
  · have := h2 x
    cases hf : f x with
    | none => rw [hf] at this; rw [hhas] at this; cases this
    | some u => rfl
  · show (L _ && !_) = _
    rw [h3, same_int]
end
end Go.Proofs.Ytpafafleepcjdaa
