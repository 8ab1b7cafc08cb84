/- append onto a slice of one's own: what was there still reads as it did. No condition. -/
import Derived.Test.YthbkmjigplolgaaDelI
namespace Go.Proofs.Ythbkmjigplolgaa
open Go.ChangeShapes Go.WideShapes Go.ChangeAt Go.RowKit
set_option linter.unusedVariables false
section
variable {P : Program} {w : World} {R : Nat → Prop} {t ty e : TypeId} {s bytes n m c d : Nat} {a b : Option Addr} {xs news : List Value} {G : Option Nat}
theorem run_append_new (T : ETy P t e s bytes) (h : Sl w e s a n c xs G) (hs : Rd w R s b m d news) (h1 : ∀ u ∈ news, u.oneCell' = true) (h63 : n + m ≤ 4294967296) (hb : bytes ≤ 4096) (hroom : c < n + m) :
    ∃ a' c' w', (Builtin.append_ #[t, t] ty #[.slice a n c, .slice b m d]).run P w = .ok (.slice a' (n + m) c') w' ∧ Sl w' e s a' (n + m) c' (xs ++ news) (some w.heap.size) ∧ Chg Nil w w' := by
  obtain ⟨i, z, hi, hz, hsz, hby, hzs⟩ := T.info
  have hsrc := hs.src T.under h1
  subst hsz
  have hbytes : (n + m) * i.bytes ≤ 140737488355328 := by
    have : (n + m) * i.bytes ≤ 4294967296 * 4096 := Nat.mul_le_mul h63 (by omega)
    omega
  have hlen : (xs ++ news).length = (n + m) * i.size := by rw [List.length_append, h.len, hs.len, Nat.add_mul]
  have hold : (Builtin.firstCells i.size n (.slice a n c)).run P w.drew = .ok xs.toArray w.drew := by
    have hr := h.rd
    have hw : Rd w.drew (Opt G) i.size a n c xs := hr
    obtain ⟨r1, r2, r3, r4⟩ := hw
    rcases Nat.eq_zero_or_pos n with rfl | hn
    · have hx : xs = [] := List.eq_nil_of_length_eq_zero (by simpa using r3)
      subst hx
      cases a <;> simp [Builtin.firstCells, loadCells, loadCellsFrom]
    · obtain ⟨g, off, rfl, _, _, hc⟩ := r4 hn
      refine run_firstCells_some _ _ _ _ _ _ _ r3 (fun j u hu => ?_)
      have hj : j < n * i.size := by rw [← r3]; exact (List.getElem?_eq_some_iff.1 hu).1
      have := hc j hj
      rw [hu] at this
      unfold Addr.add
      split
      · rename_i h0; subst h0; simpa using this
      · exact this
  have hge := grownCap_ge w (n + m) c e
  have hcm : grownCap w (n + m) c e ≤ maxLen := grownCap_le_maxLen w (n + m) c e (by unfold maxLen; omega)
  have hr := run_append_grow_src (P := P) w t t ty e i z T.under hi hz a n c xs hold (.slice b m d) m news hsrc (by omega) (by omega) (growslice_fits (by omega) hbytes)
  refine ⟨_, _, _, hr, ⟨hge, hcm, hlen, .inr ⟨w.heap.size, 0, _, rfl, rfl, heap_alloc_new w.drew _, ?_, fun j hj => ?_⟩⟩, ((Chg.refl _ w).drew).alloc _⟩
  · simp only [Array.size_append, List.size_toArray, size_zeroCells, hzs, hlen, ← Nat.add_mul]
    rw [show n + m + (grownCap w (n + m) c e - (n + m)) = grownCap w (n + m) c e by omega]
    omega
  · rw [Nat.zero_add, Array.getElem?_append_left (by simp only [List.size_toArray, hlen]; exact hj)]
    simp
theorem run_append_keep (T : ETy P t e s bytes) (h : Sl w e s a n c xs G) (hs : Rd w R s b m d news) (h1 : ∀ u ∈ news, u.oneCell' = true) (h63 : n + m ≤ 4294967296) (hb : bytes ≤ 4096) (hm : 0 < m) :
    ∃ a' c' w' G', (Builtin.append_ #[t, t] ty #[.slice a n c, .slice b m d]).run P w = .ok (.slice a' (n + m) c') w' ∧ Sl w' e s a' (n + m) c' (xs ++ news) G' ∧ Rd w' (Opt G) s a n c xs ∧ Chg (Opt G) w w' ∧ (G' = G ∨ G' = some w.heap.size) := by
  by_cases hroom : n + m ≤ c
  · rcases h.2.2.2 with ⟨hc0, _⟩ | ⟨g, off, cur, rfl, rfl, hg, hfit, hcur⟩
    · omega
    · obtain ⟨w', e1, s1, c1⟩ := run_append_in (P := P) (ty := ty) T h rfl hs h1 hroom
      refine ⟨_, _, w', _, e1, s1, ?_, c1, .inl rfl⟩
      have := s1.rd.take_n (k := n) (by omega)
      rw [List.take_append_of_le_length (by rw [h.len]; exact Nat.le_refl _), List.take_of_length_le (by rw [h.len]; exact Nat.le_refl _)] at this
      exact this
  · obtain ⟨a', c', w', e1, s1, c1⟩ := run_append_new (ty := ty) T h hs h1 h63 hb (by omega)
    exact ⟨a', c', w', _, e1, s1, h.rd.chg c1 (fun _ _ _ h => h), c1.mono (fun _ _ h => h.elim), .inr rfl⟩
theorem wpList_append_keep {ops : Array Oper} {rest : List Oper} {o : Oper} {act : Act} {Q : Exit → Act → World → Prop} (hgd : o.guard = none) (x y : Operand) (T : ETy P t e s bytes)
    (ho : o.op = .call { callee := .builtin .append, args := #[x, y], argTypes := #[t, t] })
    (hx : act.eval x = .slice a n c) (hy : act.eval y = .slice b m d) (h : Sl w e s a n c xs G) (hs : Rd w R s b m d news) (h1 : ∀ u ∈ news, u.oneCell' = true) (h63 : n + m ≤ 4294967296) (hb : bytes ≤ 4096) (hm : 0 < m)
    (hk : ∀ a' c' w' G', Sl w' e s a' (n + m) c' (xs ++ news) G' → Rd w' (Opt G) s a n c xs → Chg (Opt G) w w' → (G' = G ∨ G' = some w.heap.size) → wpList P ops Q rest (act.put o.dst (.slice a' (n + m) c')) w') : wpList P ops Q (o :: rest) act w := by
  refine wpList_plain hgd fun _ hK => ?_
  obtain ⟨a', c', w', G', hr, h2, h2', h3, h4⟩ := run_append_keep (P := P) (ty := o.type) T h hs h1 h63 hb hm
  unfold Oper.wp execOp
  simp only [ho, resolve, invoke, builtin, Sem.run_bind, Sem.run_pure, Result.andThen_ok, List.map_toArray, List.map_cons, List.map_nil, hx, hy, hr]
  exact hK _ _ (hk a' c' w' G' h2 h2' h3 h4)
end
end Go.Proofs.Ythbkmjigplolgaa
