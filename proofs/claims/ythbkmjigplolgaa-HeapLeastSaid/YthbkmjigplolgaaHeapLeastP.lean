/- Plain laws and memory of the law HeapLeast: a heap, and a map of the keys. No condition. -/
import Derived.Test.YthbkmjigplolgaaHeapTwo
import Derived.Test.YthbkmjigplolgaaMapR
namespace Go.Proofs.Ythbkmjigplolgaa
open Go.ChangeShapes Go.WideShapes Go.ChangeAt Go.RowKit
set_option linter.unusedVariables false
/-- The key of an id. -/
def keyF (l : List HE) : Int → Option Value := fun t => (l.find? (fun x => x.id == t)).map (fun (x : HE) => Value.int .i64 x.key)
theorem keyF_some {l : List HE} (hn : (l.map HE.id).Nodup) {t : Int} {v : Value} : keyF l t = some v ↔ ∃ x, x ∈ l ∧ x.id = t ∧ v = .int .i64 x.key := by
  unfold keyF
  rw [Option.map_eq_some_iff]
  constructor
  · rintro ⟨x, h1, rfl⟩
    have h2 := List.find?_some h1
    exact ⟨x, List.mem_of_find?_eq_some h1, by simpa using h2, rfl⟩
  · rintro ⟨x, hx, h1, rfl⟩
    cases hf : l.find? (fun x => x.id == t) with
    | none => rw [List.find?_eq_none] at hf; exact absurd (by simpa using h1) (hf x hx)
    | some y =>
      have h2 := List.find?_some hf
      have : y = x := id_inj hn (List.mem_of_find?_eq_some hf) hx (by rw [h1]; simpa using h2)
      subst this
      exact ⟨y, rfl, rfl⟩
theorem keyF_dom {l : List HE} {t : Int} : t ∈ l.map HE.id ↔ (keyF l t).isSome = true := by
  unfold keyF
  rw [Option.isSome_map, List.find?_isSome, List.mem_map]
  constructor
  · rintro ⟨x, hx, h⟩; exact ⟨x, hx, by simpa using h⟩
  · rintro ⟨x, hx, h⟩; exact ⟨x, hx, by simpa using h⟩
/-- A list whose keys are told by a function. -/
theorem keyF_is {l : List HE} (hn : (l.map HE.id).Nodup) {f : Int → Option Value} (h : ∀ t v, f t = some v ↔ ∃ x, x ∈ l ∧ x.id = t ∧ v = .int .i64 x.key) : f = keyF l := by
  funext t
  apply Option.ext
  intro v
  show f t = some v ↔ keyF l t = some v
  rw [h, keyF_some hn]
theorem keyF_push {l l' : List HE} (hn : (l.map HE.id).Nodup) (hn' : (l'.map HE.id).Nodup) {t k : Int} (hp : l'.Perm (l ++ [⟨t, k⟩])) : updM (keyF l) t (some (.int .i64 k)) = keyF l' := by
  refine keyF_is hn' (fun s v => ?_)
  have hnot : ∀ x ∈ l, x.id ≠ t := by
    intro x hx he
    have h1 := ((hp.map HE.id).nodup_iff).1 hn'
    rw [List.map_append, List.nodup_append] at h1
    exact h1.2.2 x.id (List.mem_map.2 ⟨x, hx, rfl⟩) t (by simp) he
  unfold updM
  constructor
  · intro h
    split at h
    · rename_i hs
      injection h with h
      exact ⟨⟨t, k⟩, hp.mem_iff.2 (by simp), hs.symm, h.symm⟩
    · obtain ⟨x, hx, h1, h2⟩ := (keyF_some hn).1 h
      exact ⟨x, hp.mem_iff.2 (by simp [hx]), h1, h2⟩
  · rintro ⟨x, hx, h1, rfl⟩
    rcases List.mem_append.1 (hp.mem_iff.1 hx) with h2 | h2
    · rw [if_neg (by rw [← h1]; exact hnot x h2)]
      exact (keyF_some hn).2 ⟨x, h2, h1, rfl⟩
    · have : x = ⟨t, k⟩ := by simpa using h2
      subst this
      rw [if_pos h1.symm]
theorem keyF_out {l l' : List HE} (hn : (l.map HE.id).Nodup) {x : HE} (hp : (x :: l').Perm l) : updM (keyF l) x.id none = keyF l' := by
  have hn1 := ((hp.map HE.id).nodup_iff).2 hn
  rw [List.map_cons, List.nodup_cons] at hn1
  refine keyF_is hn1.2 (fun s v => ?_)
  unfold updM
  constructor
  · intro h
    split at h
    · cases h
    · rename_i hs
      obtain ⟨y, hy, h1, h2⟩ := (keyF_some hn).1 h
      rcases List.mem_cons.1 (hp.mem_iff.2 hy) with h3 | h3
      · subst h3; exact absurd h1.symm hs
      · exact ⟨y, h3, h1, h2⟩
  · rintro ⟨y, hy, h1, rfl⟩
    rw [if_neg]
    · exact (keyF_some hn).2 ⟨y, hp.mem_iff.1 (List.mem_cons_of_mem _ hy), h1, rfl⟩
    · intro hs
      exact hn1.1 (List.mem_map.2 ⟨y, hy, by rw [h1, hs]⟩)
theorem keyF_turn {l l' : List HE} (hn : (l.map HE.id).Nodup) (hn' : (l'.map HE.id).Nodup) {i : Nat} (hi : i < l.length) {t k : Int} (ht : l[i].id = t) (hp : l'.Perm (l.set i ⟨t, k⟩)) : updM (keyF l) t (some (.int .i64 k)) = keyF l' := by
  refine keyF_is hn' (fun s v => ?_)
  unfold updM
  constructor
  · intro h
    split at h
    · rename_i hs
      injection h with h
      exact ⟨⟨t, k⟩, hp.mem_iff.2 (List.mem_set hi _), hs.symm, h.symm⟩
    · rename_i hs
      obtain ⟨x, hx, h1, h2⟩ := (keyF_some hn).1 h
      obtain ⟨j, hj, rfl⟩ := List.mem_iff_getElem.1 hx
      have hji : j ≠ i := by rintro rfl; exact hs (by rw [← h1, ht])
      refine ⟨l[j], hp.mem_iff.2 (List.mem_iff_getElem.2 ⟨j, by simpa using hj, ?_⟩), h1, h2⟩
      rw [List.getElem_set_ne (by omega)]
  · rintro ⟨x, hx, h1, rfl⟩
    obtain ⟨j, hj, rfl⟩ := List.mem_iff_getElem.1 (hp.mem_iff.1 hx)
    by_cases hji : j = i
    · subst hji
      rw [List.getElem_set_self] at h1
      simp only [List.getElem_set_self]
      rw [if_pos h1.symm]
    · have hj' : j < l.length := by simpa using hj
      rw [List.getElem_set_ne (by omega)] at h1
      rw [List.getElem_set_ne (by omega)]
      rw [if_neg]
      · exact (keyF_some hn).2 ⟨l[j], List.getElem_mem hj', h1, rfl⟩
      · intro hs
        have := id_inj hn (List.getElem_mem hj') (List.getElem_mem hi) (by rw [h1, hs, ht])
        exact hji ((List.getElem_inj (xs := l.map HE.id) (i := j) (j := i) (h₀ := by simpa using hj') (h₁ := by simpa using hi) hn).1 (by simp [this]))
/-- The heap, and the map of keys. -/
structure LeastV (w0 : World) (F : Nat → Prop) (p mb : Nat) (l : List HE) (w : World) : Prop where
  h : HpAt w F p l
  hi : HeapI l
  mp : MpAt w Try.prog 3 mb l.length (keyF l)
  nf : ¬ F mb
  gm : w0.heap.size ≤ mb
  gf : ∀ k, F k → w0.heap.size ≤ k
  bel : Below w0.heap.size w0 w
section
variable {w0 w w1 : World} {F F' : Nat → Prop} {p mb n : Nat} {l l' : List HE}
theorem LeastV.nil (h : LeastV w0 F p mb l w) (hc : Chg Nil w w1) : LeastV w0 F p mb l w1 := ⟨h.h.chg hc (fun _ _ h => h), h.hi, h.mp.chg hc (fun h => h), h.nf, h.gm, h.gf, below_nil h.bel hc⟩
/-- The heap turns; the map is still what it was. -/
theorem LeastV.mpx (h : LeastV w0 F p mb l w) (hc : Chg F w w1) : MpAt w1 Try.prog 3 mb l.length (keyF l) := h.mp.chg hc h.nf
theorem LeastV.turn {w2 : World} (h : LeastV w0 F p mb l w) (y1 : HpAt w1 F' p l') (y2 : HeapI l') (y3 : Chg F w w1) (y4 : Grew w.heap.size F F') (hm : MpAt w2 Try.prog 3 mb n (keyF l')) (hc : Chg (One mb) w1 w2) : LeastV w0 F' p mb l' w2 := by
  have hnf : ¬ F' mb := fun hh => (y4 mb hh).elim h.nf (fun h2 => by have := h.mp.lt; omega)
  have hgf := grew_ge y4 h.gf h.bel.size
  have y1' := y1.chg hc (fun k h1 h2 => hnf (by rw [← show k = mb from h2]; exact h1))
  have hm2 := hm.tight Try.underlying3 Try.underlying36 (l'.map HE.id) y1.nd (fun _ => keyF_dom)
  rw [List.length_map] at hm2
  exact ⟨y1', y2, hm2, hnf, h.gm, hgf, below_chg (below_chg h.bel y3 h.gf) hc (fun k hk => by rw [show k = mb from hk]; exact h.gm)⟩
theorem LeastV.len (h : LeastV w0 F p mb l w) (ty : TypeId) : (Builtin.len_ #[36] ty #[.map (some mb)]).run Try.prog w = .ok (.int .i64 l.length) w := by
  obtain ⟨L, l1, l2, l3⟩ := h.mp.len Try.underlying3 Try.underlying36
  have hL : L.length = (l.map HE.id).length := nodup_perm l1 h.h.nd (fun i => by rw [l2, keyF_dom])
  rw [List.length_map] at hL
  rw [l3 ty, hL]
end
theorem wpList_insert {P : Program} (w : World) {ops : Array Oper} {rest : List Oper} {o : Oper} {a : Act} {Q : Exit → Act → World → Prop} (hg : o.guard = none) (m x v : Operand) (t : TypeId) (hop : o.op = Op.insert t m x v) {k e : TypeId} (hk : P.underlying k = some (.int .i64)) (ht : P.underlying t = some (.map k e)) (b n : Nat) (f : Int → Option Value)
    (hm : a.eval m = .map (some b)) (h : MpAt w P k b n f) (hn : n ≤ 1000000) (i : Int) (val : Value) (hx : a.eval x = .int .i64 i) (hv : a.eval v = val) (hi : (Lit.int .i64 i).wf = true)
    (hK : ∀ w', MpAt w' P k b (n + 1) (updM f i (some val)) → Chg (One b) w w' → wpList P ops Q rest (a.put o.dst undef) w') :
    wpList P ops Q (o :: rest) a w := by
  refine wpList_plain hg fun K' hK' => ?_
  obtain ⟨w', hrun, r1, r2⟩ := h.store hk ht hn i hi val
  unfold Oper.wp
  simp [execOp, hop, hm, hx, hv, hrun, Result.andThen]
  exact hK' _ _ (hK w' r1 r2)
/-- A row of rows of numbers, that is read. -/
theorem IsRows.row {k : IntKind} {w w' : World} {a : Option Addr} {len cap : Nat} {zs : List (List Int)} (h : IsRows k w a len cap zs) (hb : Below w.heap.size w w') (i : Nat) (hi : i < len) :
    ∃ g off a' n' c', a = some ⟨g, off, none⟩ ∧ w'.cell? ⟨g, off + i, none⟩ = some (.slice a' n' c') ∧ ∃ z, Rd w' (Upto w.heap.size) 1 a' n' c' (ints k z) ∧ n' ≤ c' ∧ c' ≤ 9223372036854775807 ∧ z.length = n' := by
  obtain ⟨xs, h1, h2, h3⟩ := h
  obtain ⟨g, off, r1, r2, r3, r4⟩ := h1.cellAt (by omega)
  obtain ⟨a', n', c', e1, e2⟩ := h3 i (by omega)
  refine ⟨g, off, a', n', c', r1, ?_, _, e2.1.chg (Chg.of_below hb Nil) (fun _ _ _ h => h), e2.1.1, e2.1.2.1, e2.1.ilen⟩
  rw [hb.cell (p := ⟨g, off + i, none⟩) r2, r4 i hi, e1]
theorem rest_in (z n : Int) (h1 : 1 ≤ n) (h2 : n ≤ 9223372036854775807) : ∃ t : Int, 0 ≤ t ∧ t < n ∧ ∀ w, Calls Try.prog 16 #[.int .i64 z, .int .i64 n] w fun e w' => e = .returned (.int .i64 t) ∧ w' = w :=
  ⟨rest z n, rest_nonneg z n h1, rest_lt z n h1, fun w => (rest_any z n w h1 h2).mono fun e w' ⟨a, b⟩ => ⟨a, b.symm⟩⟩
theorem rest_to (z n : Int) (h1 : 1 ≤ n) (h2 : n ≤ 9223372036854775807) : ∃ t : Int, 0 ≤ t ∧ t < n ∧ ∀ w, Calls Try.prog 16 #[.int .i64 z, .int .i64 n] w fun e w' => e = .returned (.int .i64 t) ∧ w = w' :=
  ⟨rest z n, rest_nonneg z n h1, rest_lt z n h1, fun w => rest_any z n w h1 h2⟩
end Go.Proofs.Ythbkmjigplolgaa
