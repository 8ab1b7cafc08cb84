/- More words for maps with integer keys: how many stand there at most; an entry that stands there is stored anew in two steps. No condition. -/
import Derived.Test.YtdcbagmgflcemaaGreatDoorZ13
import Derived.WideKeyEntry
namespace Go.Proofs.YtdcbagmgflcemaaGreatDoor
open Go.RowKit Go.ChangeMaps
theorem nodup_perm {L K : List Int} (h1 : L.Nodup) (h2 : K.Nodup) (h : ∀ i, i ∈ L ↔ i ∈ K) : L.length = K.length := ((List.perm_ext_iff_of_nodup h1 h2).2 (fun i => h i)).length_eq
theorem MpAt.tight {w : World} {P : Program} {k : TypeId} {b n : Nat} {f : Int → Option Value} (h : MpAt w P k b n f) (hk : P.underlying k = some (.int .i64)) {t e : TypeId} (ht : P.underlying t = some (.map k e)) (K : List Int) (hn : K.Nodup) (hm : ∀ i, i ∈ K ↔ (f i).isSome = true) :
    MpAt w P k b K.length f := by
  obtain ⟨L, l1, l2, l3⟩ := h.len hk ht
  have hL : L.length = K.length := nodup_perm l1 hn (fun i => by rw [l2, hm])
  obtain ⟨D, h1, h2⟩ := h
  have l4 := h1.len ht 0
  rw [l3 0] at l4
  injection l4 with l4
  injection l4 with _ l4
  obtain ⟨es, clock, hb, F, hs, hD⟩ := h1
  have hsz : Maps.size D = es.size := by rw [hD]; simp [Maps.size, length_sorted]
  exact ⟨D, ⟨es, clock, hb, F, by omega, hD⟩, h2⟩
theorem setBlock_same {w : World} {b : Nat} {o : Obj} (h : w.heap[b]? = some o) : setBlock w b o = w := by
  obtain ⟨hlt, he⟩ := Array.getElem?_eq_some_iff.1 h
  have : w.heap.setIfInBounds b o = w.heap := by
    apply Array.ext
    · simp
    · intro i h1 h2
      rw [Array.getElem_setIfInBounds (by simpa using h1)]
      split
      · rename_i hh; subst hh; exact he.symm
      · rfl
  unfold setBlock
  rw [this]
/-- m[k], m[j] = .. : an entry that stands there. -/
theorem MpAt.entry {w : World} {P : Program} {k : TypeId} {b n : Nat} {f : Int → Option Value} {t e : TypeId} (h : MpAt w P k b n f) (hk : P.underlying k = some (.int .i64)) (ht : P.underlying t = some (.map k e)) (hn : n ≤ 1000000) (i : Int) (hi : (Lit.int .i64 i).wf = true) {u : Value} (hu : f i = some u) (v : Value) :
    ∃ (v0 : Value) (st : Int) (w' : World), (∀ q, (Instr.mapEntry t (.map (some b)) (.int .i64 i)).run P (w.drewN q) = .ok (.tuple #[v0, .int .i64 st]) (w.drewN q)) ∧ (∀ q, (Instr.entryStore t (.map (some b)) (.int .i64 st) v).run P (w.drewN q) = .ok () (w'.drewN q)) ∧ MpAt w' P k b (n + 1) (updM f i (some v)) ∧ Chg (One b) w w' := by
  obtain ⟨wu, hup, hm, hc⟩ := h.store hk ht hn i hi v
  obtain ⟨D, h1, h2⟩ := h
  have K := Maps.int_keyed hk
  have hkey : keyOf P k (.int .i64 i) = some (Lit.int .i64 i) := Maps.keyOf_int_mk hk hi
  obtain ⟨es, clock, hb, F, hs, hD⟩ := id h1
  obtain ⟨s1, s2, _⟩ := F.stamped
  have hkeys : ∀ x ∈ es.toList, ∃ l, keyOf P k x.key = some l := fun x hx => by
    obtain ⟨y, hy⟩ := F.reads x hx
    exact ⟨_, Go.WideElems.rd_key hy⟩
  rcases K.find w hkey es.toList hkeys with ⟨f1, f2⟩ | ⟨j, e0, f1, f2, f3⟩
  · exfalso
    have hh : Maps.has D (Lit.int .i64 i) = true := by have := h2 i; rw [hu] at this; exact this.1
    rw [hD, Maps.has_eq, List.any_eq_true] at hh
    obtain ⟨p, hp, hp2⟩ := hh
    obtain ⟨x, hx, rfl⟩ := List.mem_map.1 (Go.mem_sorted.1 hp)
    obtain ⟨y, hy⟩ := F.reads x hx
    rw [Go.WideElems.rg_of hy] at hp2
    have hky := Go.WideElems.rd_key hy
    obtain ⟨z, hz, hz2, _⟩ := Maps.keyOf_int_inv hk hky
    rw [hz2] at hp2
    have : z = i := by simpa [Lit.sameKey] using hp2
    subst this
    exact f2 x hx hz
  · have hj : es[j]? = some e0 := by simpa using f2
    have hsame : es.modify j (fun x => { x with key := .int .i64 i }) = es := by
      apply Array.ext'
      rw [Array.toList_modify, modify_eq_set _ _ _ _ f2]
      have : ({ e0 with key := .int .i64 i } : MapEntry) = e0 := by rw [← f3]
      rw [this]
      exact Go.WideElems.set_self _ _ _ f2
    have hidx : es.findIdx? (fun e => ((e.born : Nat) : Int) == ((e0.born : Nat) : Int)) = some j := by
      rw [Go.WideElems.findIdx_arr]
      exact Go.WideElems.findIdx_born s2 f2
    have hmod : es.modify j (fun e => { e with val := v }) = es.modify j (fun e' => { e' with key := .int .i64 i, val := v }) := by
      apply Array.ext'
      rw [Array.toList_modify, Array.toList_modify, modify_eq_set _ _ _ _ f2, modify_eq_set _ _ _ _ f2, ← f3]
    have hwu : (Instr.mapUpdate t (.map (some b)) (.int .i64 i) v).run P w = .ok () (setBlock w b (.map (es.modify j (fun e' => { e' with key := .int .i64 i, val := v })) clock)) := by
      simp [Instr.mapUpdate, run_underlying ht, MapKept.run_getObj_map hb, K.check w false hkey, f1, hj, f3, K.stays w hkey, MapKept.run_setObj_map _ hb, Result.andThen, setBlock]
    rw [hwu] at hup
    injection hup with _ hup
    subst hup
    refine ⟨e0.val, e0.born, _, fun q => ?_, fun q => ?_, hm, hc⟩
    · have hbq : (w.drewN q).heap[b]? = some (.map es clock) := hb
      have hfq : (Instr.findKey k (.int .i64 i) es.toList).run P (w.drewN q) = .ok (some (j, e0.val)) (w.drewN q) := by
        rcases K.find (w.drewN q) hkey es.toList hkeys with ⟨g1, g2⟩ | ⟨j', e', g1, g2, g3⟩
        · exact absurd f3 (g2 _ (List.mem_of_getElem? f2))
        · have hnk := F.stamped.2.2
          have e1 : (es.toList.map (·.key))[j']? = some (.int .i64 i) := by rw [List.getElem?_map, g2, Option.map_some, g3]
          have e2 : (es.toList.map (·.key))[j]? = some (.int .i64 i) := by rw [List.getElem?_map, f2, Option.map_some, f3]
          have hlt : j' < (es.toList.map (·.key)).length := (List.getElem?_eq_some_iff.1 e1).1
          have hjj : j' = j := (List.getElem?_inj hlt hnk).1 (e1.trans e2.symm)
          subst hjj
          rw [f2] at g2
          injection g2 with g2
          subst g2
          exact g1
      have hself := setBlock_same hbq
      unfold setBlock at hself
      simp [Instr.mapEntry, run_underlying ht, MapKept.run_getObj_map hbq, K.check (w.drewN q) false hkey, hfq, hj, f3, K.stays (w.drewN q) hkey, hsame, MapKept.run_setObj_map _ hbq, Result.andThen, goInt]
      exact hself
    · have hbq : (w.drewN q).heap[b]? = some (.map es clock) := hb
      simp [Instr.entryStore, MapKept.run_getObj_map hbq, asInt, asIntOf, hidx, hmod, MapKept.run_setObj_map _ hbq, Result.andThen]
      rfl
end Go.Proofs.YtdcbagmgflcemaaGreatDoor
