/- Words for maps with integer keys that a call made: what stands at each key; look-up, store, delete. No condition · A word for len of a map with integer keys: it counts the keys at which something stands. No condition · Words for a range over a map with integer keys: what is still to come. No condition. -/
import Derived.Test.YtdcbagmgflcemaaGreatDoorZ03
import Derived.Maps.OwnSet
import Derived.Maps.OwnOps
import Derived.Maps.Views
import Derived.Maps.RangeWalk
namespace Go.Proofs.YtdcbagmgflcemaaGreatDoor
open Go.RowKit
/-- An element stands for itself. -/
def heldE (v : Value) : Option (DataW Value × List MemPlace) := some (.held v, [])
/-- Block b is a map of at most n entries, with what f says at each key. -/
def MpAt (w : World) (P : Program) (k : TypeId) (b n : Nat) (f : Int → Option Value) : Prop :=
  ∃ D, w.ownsMap P k heldE b n D ∧ (∀ i, match f i with | some v => Maps.has D (Lit.int .i64 i) = true ∧ ∀ z, D.atKey (Lit.int .i64 i) z = .held v | none => Maps.has D (Lit.int .i64 i) = false)
def updM (f : Int → Option Value) (i : Int) (v : Option Value) : Int → Option Value := fun j => if j = i then v else f j
theorem grown_chg {w w' : World} {b : Nat} (h : w.grownBy w' (some b)) : Chg (One b) w w' := by
  obtain ⟨h1, h2, h3, h4, h5⟩ := h
  exact ⟨h1, h2, h3, h4, fun k hk hne => h5 k hk (fun he => hne (by injection he))⟩
theorem keyL_ne {i j : Int} (h : i ≠ j) : Lit.int .i64 i ≠ Lit.int .i64 j := fun he => h (by injection he)
section
variable {w w' : World} {P : Program} {k : TypeId} {b n : Nat} {f : Int → Option Value} {F : Nat → Prop}
theorem MpAt.lt (h : MpAt w P k b n f) : b < w.heap.size := by
  obtain ⟨D, h1, _⟩ := h
  exact h1.lt
theorem MpAt.chg (h : MpAt w P k b n f) (hc : Chg F w w') (hF : ¬ F b) : MpAt w' P k b n f := by
  obtain ⟨D, h1, h2⟩ := h
  have hlt := h1.lt
  obtain ⟨es, clock, hb, hfit, hs, hD⟩ := h1
  exact ⟨D, ⟨es, clock, (hc.block b hlt hF).trans hb, hfit, hs, hD⟩, h2⟩
theorem MpAt.alloc (h : MpAt w P k b n f) (o : Obj) : MpAt (w.alloc o) P k b n f := h.chg ((Chg.refl Nil w).alloc o) (fun h => h)
theorem MpAt.drewN (h : MpAt w P k b n f) (m : Nat) : MpAt (w.drewN m) P k b n f := h
theorem MpAt.made (w : World) (P : Program) (k : TypeId) : MpAt (w.alloc (.map #[] 0)) P k w.heap.size 0 (fun _ => none) :=
  ⟨.map [], World.ownsMap_made w P k heldE, fun i => by simp [Maps.has]⟩
theorem MpAt.mono (h : MpAt w P k b n f) {m : Nat} (hm : n ≤ m) : MpAt w P k b m f := by
  obtain ⟨D, h1, h2⟩ := h
  exact ⟨D, h1.mono hm, h2⟩
theorem wf_key {i : Int} (h1 : -9223372036854775808 ≤ i) (h2 : i ≤ 9223372036854775807) : (Lit.int .i64 i).wf = true := by
  simp [Lit.wf, IntKind.min, IntKind.max, IntKind.signed, IntKind.bits]
  omega
theorem MpAt.look {t e : TypeId} {z : Value} (h : MpAt w P k b n f) (hk : P.underlying k = some (.int .i64)) (ht : P.underlying t = some (.map k e)) (hz : (zeroValue e).run P w = .ok z w) (i : Int) (hi : (Lit.int .i64 i).wf = true) :
    (Instr.lookup t (.map (some b)) (.int .i64 i) false).run P w = .ok ((f i).getD z) w := by
  obtain ⟨D, h1, h2⟩ := h
  obtain ⟨v, ps, hrun, hv⟩ := h1.lookup (Maps.int_keyed hk) ht hz (zd := .held z) (zp := []) rfl (Maps.keyOf_int_mk hk hi)
  rw [hrun]
  have := h2 i
  unfold heldE at hv
  injection hv with hv
  injection hv with hv _
  cases hf : f i with
  | none =>
    rw [hf] at this
    rw [Maps.atKey_of_not_has this] at hv
    injection hv with hv
    rw [hv]; rfl
  | some u =>
    rw [hf] at this
    have h3 := this.2 (.held z)
    rw [h3] at hv
    injection hv with hv
    rw [hv]; rfl
theorem MpAt.look_ok {t e : TypeId} {z : Value} (h : MpAt w P k b n f) (hk : P.underlying k = some (.int .i64)) (ht : P.underlying t = some (.map k e)) (hz : (zeroValue e).run P w = .ok z w) (i : Int) (hi : (Lit.int .i64 i).wf = true) :
    (Instr.lookup t (.map (some b)) (.int .i64 i) true).run P w = .ok (.tuple #[(f i).getD z, .bool (f i).isSome]) w := by
  obtain ⟨D, h1, h2⟩ := h
  obtain ⟨v, ps, hrun, hv⟩ := h1.look_ok (Maps.int_keyed hk) ht hz (zd := .held z) (zp := []) rfl (Maps.keyOf_int_mk hk hi)
  rw [hrun]
  have := h2 i
  unfold heldE at hv
  injection hv with hv
  injection hv with hv _
  cases hf : f i with
  | none =>
    rw [hf] at this
    rw [Maps.atKey_of_not_has this] at hv
    injection hv with hv
    rw [hv, this]; rfl
  | some u =>
    rw [hf] at this
    have h3 := this.2 (.held z)
    have h4 := this.1
    rw [h3] at hv
    injection hv with hv
    rw [hv, h4]; rfl
theorem MpAt.store {t e : TypeId} (h : MpAt w P k b n f) (hk : P.underlying k = some (.int .i64)) (ht : P.underlying t = some (.map k e)) (hn : n ≤ 1000000) (i : Int) (hi : (Lit.int .i64 i).wf = true) (v : Value) :
    ∃ w', (Instr.mapUpdate t (.map (some b)) (.int .i64 i) v).run P w = .ok () w' ∧ MpAt w' P k b (n + 1) (updM f i (some v)) ∧ Chg (One b) w w' := by
  obtain ⟨D, h1, h2⟩ := h
  have hm := h1.isMap
  obtain ⟨w', hrun, r1, r2⟩ := h1.store (Maps.int_keyed hk) ht (by unfold maxLen; omega) (Maps.keyOf_int_mk hk hi) (val := v) (d := .held v) (ps := []) rfl
  refine ⟨w', hrun, ⟨_, r1, fun j => ?_⟩, grown_chg r2.grown⟩
  unfold updM
  by_cases hji : j = i
  · subst hji
    simp only [if_true]
    exact ⟨Maps.has_put_same hm (show WideAt.IsKeyLit (.int .i64 j) from trivial) _, fun z => Maps.atKey_put_same hm (show WideAt.IsKeyLit (.int .i64 j) from trivial) _ _⟩
  · simp only [hji, if_false]
    have := h2 j
    have hne : Lit.int .i64 j ≠ Lit.int .i64 i := keyL_ne hji
    cases hf : f j with
    | none => rw [hf] at this; rw [Maps.has_put_other hne]; exact this
    | some u =>
      rw [hf] at this
      refine ⟨by rw [Maps.has_put_other hne]; exact this.1, fun z => by rw [Maps.atKey_put_other hne]; exact this.2 z⟩
theorem MpAt.drop {t e : TypeId} (h : MpAt w P k b n f) (hk : P.underlying k = some (.int .i64)) (ht : P.underlying t = some (.map k e)) (i : Int) (hi : (Lit.int .i64 i).wf = true) (ty : TypeId) :
    ∃ w', (Builtin.delete_ #[t, k] ty #[.map (some b), .int .i64 i]).run P w = .ok (.tuple #[]) w' ∧ MpAt w' P k b n (updM f i none) ∧ Chg (One b) w w' := by
  obtain ⟨D, h1, h2⟩ := h
  obtain ⟨w', hrun, r1, r2⟩ := h1.drop (Maps.int_keyed hk) ht (Maps.keyOf_int_mk hk hi) ty
  refine ⟨w', hrun, ⟨_, r1, fun j => ?_⟩, grown_chg r2.grown⟩
  unfold updM
  by_cases hji : j = i
  · subst hji
    simp only [if_true]
    exact Maps.has_del_same
  · simp only [hji, if_false]
    have := h2 j
    have hne : Lit.int .i64 j ≠ Lit.int .i64 i := keyL_ne hji
    cases hf : f j with
    | none => rw [hf] at this; rw [Maps.has_del_other hne]; exact this
    | some u =>
      rw [hf] at this
      refine ⟨by rw [Maps.has_del_other hne]; exact this.1, fun z => by rw [Maps.atKey_del_other hne]; exact this.2 z⟩
end
section
variable {P : Program} (w : World) {ops : Array Oper} {rest : List Oper} {o : Oper} {a : Act} {Q : Exit → Act → World → Prop}
/-- m[k] = v, for the walk. -/
theorem wpList_store (hg : o.guard = none) (m x v : Operand) (t : TypeId) (hop : o.op = Op.mapUpdate t m x v) {k e : TypeId} (hk : P.underlying k = some (.int .i64)) (ht : P.underlying t = some (.map k e)) (b n : Nat) (f : Int → Option Value)
    (hm : a.eval m = .map (some b)) (h : MpAt w P k b n f) (hn : n ≤ 1000000) (i : Int) (val : Value) (hx : a.eval x = .int .i64 i) (hv : a.eval v = val) (hi : (Lit.int .i64 i).wf = true)
    (hK : ∀ w', MpAt w' P k b (n + 1) (updM f i (some val)) → Chg (One b) w w' → wpList P ops Q rest (a.put o.dst undef) w') :
    wpList P ops Q (o :: rest) a w := by
  refine wpList_plain hg fun K' hK' => ?_
  obtain ⟨w', hrun, r1, r2⟩ := h.store hk ht hn i hi val
  unfold Oper.wp
  simp [execOp, hop, hm, hx, hv, hrun, Result.andThen]
  exact hK' _ _ (hK w' r1 r2)
end
/-- A map in which nothing stands. -/
theorem MpAt.range_none {w : World} {P : Program} {k t e : TypeId} {b n : Nat} (h : MpAt w P k b n (fun _ => none)) (hk : P.underlying k = some (.int .i64)) (ht : P.underlying t = some (.map k e)) :
    ∃ w', (Instr.range t (.map (some b))).run P w = .ok (.pointer (some ⟨w.heap.size, 0, none⟩)) w' ∧ Chg Nil w w' ∧ ∀ ty, (Instr.next (.pointer (some ⟨w.heap.size, 0, none⟩)) false ty).run P w' = .ok (.tuple #[.bool false]) w' := by
  obtain ⟨D, h1, h2⟩ := h
  obtain ⟨w', r1, r2, r3, r4⟩ := h1.range (Maps.int_keyed hk) ht
  refine ⟨w', r1, ⟨r3.os, r3.tape, r3.output, r3.size, fun i hi _ => r3.block i hi (by simp)⟩, fun ty => ?_⟩
  rcases r2.next (Maps.int_keyed hk) ty with ⟨_, _, hrun⟩ | ⟨key, v, kl, y, w2, cnt', hkey, hlk, _⟩
  · exact hrun
  · obtain ⟨x, rfl, rfl, _⟩ := Maps.keyOf_int_inv hk hkey
    have := h2 x
    simp only at this
    rw [this] at hlk
    cases hlk
theorem wpList_range_none {P : Program} (w : World) {ops : Array Oper} {rest : List Oper} {o : Oper} {a : Act} {Q : Exit → Act → World → Prop} (hg : o.guard = none) (m : Operand) (t : TypeId) (hop : o.op = Op.range t m) {k e : TypeId} (hk : P.underlying k = some (.int .i64)) (ht : P.underlying t = some (.map k e)) (b n : Nat)
    (hm : a.eval m = .map (some b)) (h : MpAt w P k b n (fun _ => none))
    (hK : ∀ w', Chg Nil w w' → (∀ ty, (Instr.next (.pointer (some ⟨w.heap.size, 0, none⟩)) false ty).run P w' = .ok (.tuple #[.bool false]) w') → wpList P ops Q rest (a.put o.dst (.pointer (some ⟨w.heap.size, 0, none⟩))) w') :
    wpList P ops Q (o :: rest) a w := by
  refine wpList_plain hg fun K' hK' => ?_
  obtain ⟨w', hrun, r1, r2⟩ := h.range_none hk ht
  unfold Oper.wp
  simp [execOp, hop, hm, hrun, Result.andThen]
  exact hK' _ _ (hK w' r1 r2)
end Go.Proofs.YtdcbagmgflcemaaGreatDoor
namespace Go.Proofs.YtdcbagmgflcemaaGreatDoor
open Go.RowKit
theorem MpAt.len {w : World} {P : Program} {k t e : TypeId} {b n : Nat} {f : Int → Option Value} (h : MpAt w P k b n f) (hk : P.underlying k = some (.int .i64)) (ht : P.underlying t = some (.map k e)) :
    ∃ L : List Int, L.Nodup ∧ (∀ i, i ∈ L ↔ (f i).isSome = true) ∧ ∀ ty, (Builtin.len_ #[t] ty #[.map (some b)]).run P w = .ok (.int .i64 L.length) w := by
  obtain ⟨D, h1, h2⟩ := h
  have hlen := fun ty => h1.len ht ty
  obtain ⟨es, hD, hp, hkeys⟩ : ∃ es, D = .map es ∧ es.Pairwise (fun p q => p.1 ≠ q.1) ∧ ∀ p ∈ es, ∃ i : Int, p.1 = Lit.int .i64 i := by
    obtain ⟨es, hD, hp, _⟩ := h1.entries (Maps.int_keyed hk)
    obtain ⟨es0, clock, hb, F, _, hD'⟩ := h1
    refine ⟨es, hD, hp, fun p hpm => ?_⟩
    rw [hD] at hD'
    injection hD' with hD'
    rw [hD'] at hpm
    obtain ⟨x, hx, rfl⟩ := List.mem_map.1 (Go.mem_sorted.1 hpm)
    obtain ⟨y, hy⟩ := F.reads x hx
    rw [Go.WideElems.rg_of hy]
    obtain ⟨i, _, hi, _⟩ := Maps.keyOf_int_inv hk (Go.WideElems.rd_key hy)
    exact ⟨i, hi⟩
  subst hD
  refine ⟨es.map (fun p => match p.1 with | .int _ i => i | _ => 0), ?_, fun i => ?_, fun ty => by rw [hlen ty, List.length_map]; rfl⟩
  · rw [List.Nodup, List.pairwise_map]
    refine hp.imp_of_mem (fun {p q} hpm hqm hne he => hne ?_)
    obtain ⟨i, hi⟩ := hkeys p hpm
    obtain ⟨j, hj⟩ := hkeys q hqm
    rw [hi, hj] at he ⊢
    simp only at he
    rw [he]
  · have hh : Maps.has (.map es) (Lit.int .i64 i) = (f i).isSome := by
      have := h2 i
      cases hf : f i with
      | none => rw [hf] at this; rw [this]; rfl
      | some v => rw [hf] at this; rw [this.1]; rfl
    rw [← hh, Maps.has_eq, List.any_eq_true, List.mem_map]
    constructor
    · rintro ⟨p, hpm, hpi⟩
      obtain ⟨j, hj⟩ := hkeys p hpm
      rw [hj] at hpi
      simp only at hpi
      subst hpi
      exact ⟨p, hpm, by rw [hj]; simp [Lit.sameKey]⟩
    · rintro ⟨p, hpm, hpi⟩
      obtain ⟨j, hj⟩ := hkeys p hpm
      refine ⟨p, hpm, ?_⟩
      rw [hj] at hpi ⊢
      simpa [Lit.sameKey] using hpi
end Go.Proofs.YtdcbagmgflcemaaGreatDoor
namespace Go.Proofs.YtdcbagmgflcemaaGreatDoor
open Go.RowKit
/-- Block r ranges over the map in block b, that holds what f says; 'left' are still to come. -/
def MpRg (w : World) (P : Program) (k : TypeId) (b r n : Nat) (f : Int → Option Value) (left : Int → Bool) (cnt : Nat) : Prop :=
  ∃ D L, w.ranges P k heldE b r n D L cnt ∧ (∀ i, match f i with | some v => Maps.has D (Lit.int .i64 i) = true ∧ ∀ z, D.atKey (Lit.int .i64 i) z = .held v | none => Maps.has D (Lit.int .i64 i) = false) ∧ ∀ i, L (Lit.int .i64 i) = left i
section
variable {w w' : World} {P : Program} {k : TypeId} {b r n cnt : Nat} {f : Int → Option Value} {left : Int → Bool} {F : Nat → Prop}
theorem MpRg.map (h : MpRg w P k b r n f left cnt) : MpAt w P k b n f := by
  obtain ⟨D, L, h1, h2, _⟩ := h
  exact ⟨D, h1.owns, h2⟩
theorem MpRg.lt (h : MpRg w P k b r n f left cnt) : r < w.heap.size := by
  obtain ⟨D, L, h1, _⟩ := h
  exact h1.lt
theorem MpRg.ne (h : MpRg w P k b r n f left cnt) : r ≠ b := by
  obtain ⟨D, L, h1, _⟩ := h
  exact h1.ne
theorem MpRg.cnt_eq (h : MpRg w P k b r n f left cnt) : w.rangeLeft b r = cnt := by
  obtain ⟨D, L, h1, _⟩ := h
  exact h1.left_eq
theorem MpRg.chg (h : MpRg w P k b r n f left cnt) (hc : Chg F w w') (hb : ¬ F b) (hr : ¬ F r) : MpRg w' P k b r n f left cnt := by
  obtain ⟨D, L, h1, h2, h3⟩ := h
  have l1 := h1.owns.lt
  have l2 := h1.lt
  obtain ⟨es, clock, since, seen, c0, hb', Ft, hs, hD, hr', rest⟩ := h1
  exact ⟨D, L, ⟨es, clock, since, seen, c0, (hc.block b l1 hb).trans hb', Ft, hs, hD, (hc.block r l2 hr).trans hr', rest⟩, h2, h3⟩
theorem grown_nil {a c : World} (h : a.grownBy c none) : Chg Nil a c := ⟨h.os, h.tape, h.output, h.size, fun k hk _ => h.block k hk (by simp)⟩
theorem same_int (i j : Int) : (Lit.int .i64 i).sameKey (Lit.int .i64 j) = decide (i = j) := by simp [Lit.sameKey]
end
section
variable {P : Program} (w : World) {ops : Array Oper} {rest : List Oper} {o : Oper} {a : Act} {Q : Exit → Act → World → Prop}
/-- range m -/
theorem wpList_range_mp (hg : o.guard = none) (m : Operand) (t : TypeId) (hop : o.op = Op.range t m) (k e : TypeId) (hk : P.underlying k = some (.int .i64)) (ht : P.underlying t = some (.map k e)) (b n : Nat) (f : Int → Option Value)
    (hm : a.eval m = .map (some b)) (hown : MpAt w P k b n f)
    (hK : ∀ w' cnt, MpRg w' P k b w.heap.size n f (fun i => (f i).isSome) cnt → Chg Nil w w' → w'.heap.size = w.heap.size + 1 → wpList P ops Q rest (a.put o.dst (.pointer (some ⟨w.heap.size, 0, none⟩))) w') :
    wpList P ops Q (o :: rest) a w := by
  obtain ⟨D, h1, h2⟩ := hown
  refine wpList_range_own w hg m t hop k e (Maps.int_keyed hk) ht heldE b n D hm h1 (fun w' hr hgr hsz => hK w' _ ⟨D, _, hr, h2, fun i => ?_⟩ (grown_nil hgr) hsz)
  have := h2 i
  cases hf : f i with
  | none => rw [hf] at this; rw [this]; show false = (f i).isSome; rw [hf]; rfl
  | some u => rw [hf] at this; rw [this.1]; show true = (f i).isSome; rw [hf]; rfl
/-- the next one -/
theorem wpList_next_mp (hg : o.guard = none) (it : Operand) (hop : o.op = Op.next it false) (k : TypeId) (hk : P.underlying k = some (.int .i64)) (b r n : Nat) (f : Int → Option Value) (left : Int → Bool) (cnt : Nat)
    (hit : a.eval it = .pointer (some ⟨r, 0, none⟩)) (h : MpRg w P k b r n f left cnt)
    (hDone : (∀ i, left i = false) → wpList P ops Q rest (a.put o.dst (.tuple #[.bool false])) w)
    (hMore : ∀ (i : Int) (v : Value) (w' : World) (cnt' : Nat), left i = true → (∀ u, f i = some u → u = v) → (f i).isSome = true → MpRg w' P k b r n f (fun j => left j && !decide (j = i)) cnt' → cnt' < cnt → Chg (One r) w w' → w'.heap.size = w.heap.size →
      (Instr.entry (.pointer (some ⟨r, 0, none⟩))).run P w' = .ok (.tuple #[.int .i64 i, v]) w' → wpList P ops Q rest (a.put o.dst (.tuple #[.bool true, .int .i64 i, v])) w') :
    wpList P ops Q (o :: rest) a w := by
  obtain ⟨D, L, h1, h2, h3⟩ := h
  have hex := h1
  refine wpList_next_ranges w hg it hop k (Maps.int_keyed hk) heldE (fun x : Int => Value.int .i64 x) (fun v : Value => v) (fun key kl hkey => by obtain ⟨x, rfl, _⟩ := Maps.keyOf_int_inv hk hkey; exact ⟨x, rfl⟩) (fun v y _ => ⟨v, rfl⟩) b r n D L cnt hit h1
    (fun _ hl => hDone (fun i => by rw [← h3 i]; exact hl _)) (fun x c kl y w' cnt' hkey hlk hv hat hrg hlt hgr hsz hen => ?_)
  obtain ⟨x', e1, rfl, hwf⟩ := Maps.keyOf_int_inv hk hkey
  injection e1 with _ e1
  subst e1
  unfold heldE at hv
  injection hv with hv
  have hy : y.1 = .held c := by rw [← hv]
  rw [hy] at hat
  obtain ⟨es, clock, since, seen, c0, hb', Ft, hs, hD, hr', k1, k2, k3, k4, k5⟩ := id hex
  have hhas : Maps.has D (Lit.int .i64 x) = true := by
    cases hh : Maps.has D (Lit.int .i64 x) with
    | true => rfl
    | false =>
      have z1 := hat (.held (.bool true))
      have z2 := hat (.held (.bool false))
      rw [Maps.atKey_of_not_has hh] at z1 z2
      rw [← z2] at z1
      injection z1 with z1
      injection z1 with z1
      cases z1
  refine hMore x c w' cnt' (by rw [← h3]; exact hlk) (fun u hu => ?_) ?_ ⟨D, _, hrg, h2, fun i => ?_⟩ hlt (grown_chg hgr) hsz hen
  · have := h2 x
    rw [hu] at this
    have z1 := this.2 (.held (.bool true))
    rw [hat] at z1
    injection z1 with z1
    exact z1.symm
  · have := h2 x
    cases hf : f x with
    | none => rw [hf] at this; rw [hhas] at this; cases this
    | some u => rfl
  · show (L _ && !_) = _
    rw [h3, same_int]
end
end Go.Proofs.YtdcbagmgflcemaaGreatDoor
