/- More words for maps with integer keys: an entry that does not stand there is made in two steps, in any world that holds the map. No condition. -/
import Derived.Test.YtipmjfpoglkiaaaMaps
import Derived.WideKeyEntry
namespace Go.Proofs.Ytipmjfpoglkiaaa
open Go.RowKit Go.ChangeMaps
theorem setBlock_get (w : World) (b : Nat) (o : Obj) (h : b < w.heap.size) : (setBlock w b o).heap[b]? = some o := by
  simp [setBlock, h]
theorem setBlock_ne (w : World) {b c : Nat} (o : Obj) (h : b ≠ c) : (setBlock w b o).heap[c]? = w.heap[c]? := by
  simp [setBlock, h]
theorem setBlock_size (w : World) (b : Nat) (o : Obj) : (setBlock w b o).heap.size = w.heap.size := by simp [setBlock]
theorem chg_setBlock (w : World) (b : Nat) (o : Obj) : Chg (One b) w (setBlock w b o) := by
  refine ⟨rfl, rfl, rfl, by simp [setBlock], fun k hk hne => ?_⟩
  have : k ≠ b := fun hh => hne hh
  simp [setBlock, Ne.symm this]
/-- m[k], m'[k'] = ..: an entry that does not stand there. -/
theorem MpAt.fresh {w : World} {P : Program} {k : TypeId} {b n : Nat} {f : Int → Option Value} {t e : TypeId} {z : Value} (h : MpAt w P k b n f) (hk : P.underlying k = some (.int .i64)) (ht : P.underlying t = some (.map k e)) (hn : n ≤ 1000000) (i : Int) (hi : (Lit.int .i64 i).wf = true) (hu : f i = none) (hz : ∀ w, (zeroValue e).run P w = .ok z w) (v : Value) :
    ∃ (st : Int) (o1 o2 : Obj), (∀ W : World, W.heap[b]? = w.heap[b]? → (Instr.mapEntry t (.map (some b)) (.int .i64 i)).run P W = .ok (.tuple #[z, .int .i64 st]) (setBlock W b o1)) ∧ (∀ W : World, W.heap[b]? = some o1 → (Instr.entryStore t (.map (some b)) (.int .i64 st) v).run P W = .ok () (setBlock W b o2)) ∧ ∀ W : World, W.heap[b]? = some o2 → MpAt W P k b (n + 1) (updM f i (some v)) := by
  obtain ⟨wu, hup, hm, hc⟩ := h.store hk ht hn i hi v
  obtain ⟨D, h1, h2⟩ := h
  have K := Maps.int_keyed hk
  have hkey : keyOf P k (.int .i64 i) = some (Lit.int .i64 i) := Maps.keyOf_int_mk hk hi
  obtain ⟨es, clock, hb, F, hs, hD⟩ := id h1
  obtain ⟨s1, s2, _⟩ := F.stamped
  have hkeys : ∀ x ∈ es.toList, ∃ l, keyOf P k x.key = some l := fun x hx => by
    obtain ⟨y, hy⟩ := F.reads x hx
    exact ⟨_, Go.WideElems.rd_key hy⟩
  have hno : Maps.has D (Lit.int .i64 i) = false := by have := h2 i; rw [hu] at this; exact this
  have hfind : ∀ W : World, (Instr.findKey k (.int .i64 i) es.toList).run P W = .ok none W := fun W => by
    rcases K.find W hkey es.toList hkeys with ⟨f1, _⟩ | ⟨j, e0, f1, f2, f3⟩
    · exact f1
    · exfalso
      have hm0 : e0 ∈ es.toList := List.mem_of_getElem? f2
      obtain ⟨y, hy⟩ := F.reads e0 hm0
      have hky := Go.WideElems.rd_key hy
      obtain ⟨q, hq, hq2, _⟩ := Maps.keyOf_int_inv hk hky
      rw [f3] at hq
      injection hq with _ hq
      have hh : Maps.has D (Lit.int .i64 i) = true := by
        rw [hD, Maps.has_eq, List.any_eq_true]
        refine ⟨_, Go.mem_sorted.2 (List.mem_map.2 ⟨e0, hm0, rfl⟩), ?_⟩
        rw [Go.WideElems.rg_of hy, hq2, ← hq]
        simp [Lit.sameKey]
      rw [hno] at hh
      cases hh
  have hidx : ∀ x : Value, (es.push { key := .int .i64 i, val := x, born := clock }).findIdx? (fun e => ((e.born : Nat) : Int) == ((clock : Nat) : Int)) = some es.size := fun x => by
    rw [Go.WideElems.findIdx_arr, Array.toList_push, List.findIdx?_append]
    have h0 : es.toList.findIdx? (fun e => ((e.born : Nat) : Int) == ((clock : Nat) : Int)) = none := by
      rw [List.findIdx?_eq_none_iff]
      intro y hy
      have := s1 y hy
      rw [beq_eq_false_iff_ne]
      omega
    rw [h0]
    simp
  have hmod : (es.push ({ key := .int .i64 i, val := z, born := clock } : MapEntry)).modify es.size (fun e => { e with val := v }) = es.push { key := .int .i64 i, val := v, born := clock } := by
    apply Array.ext'
    rw [Array.toList_modify, Array.toList_push, Array.toList_push]
    have h2 : (es.toList ++ [({ key := .int .i64 i, val := z, born := clock } : MapEntry)])[es.size]? = some { key := .int .i64 i, val := z, born := clock } := by
      rw [List.getElem?_append_right (by simp)]
      simp
    rw [modify_eq_set _ _ _ _ h2, List.set_append_right _ _ (by simp)]
    simp
  have hwu : (Instr.mapUpdate t (.map (some b)) (.int .i64 i) v).run P w = .ok () (setBlock w b (.map (es.push { key := .int .i64 i, val := v, born := clock }) (clock + 1))) := by
    simp [Instr.mapUpdate, run_underlying ht, MapKept.run_getObj_map hb, K.check w false hkey, hfind, MapKept.run_setObj_map _ hb, Result.andThen, setBlock]
  rw [hwu] at hup
  injection hup with _ hup
  subst hup
  have hlt : b < w.heap.size := (Array.getElem?_eq_some_iff.1 hb).1
  refine ⟨clock, .map (es.push { key := .int .i64 i, val := z, born := clock }) (clock + 1), .map (es.push { key := .int .i64 i, val := v, born := clock }) (clock + 1), fun W hW => ?_, fun W hW => ?_, fun W hW => ?_⟩
  · have hbq : W.heap[b]? = some (.map es clock) := hW.trans hb
    simp [Instr.mapEntry, run_underlying ht, MapKept.run_getObj_map hbq, K.check W false hkey, hfind, hz, MapKept.run_setObj_map _ hbq, Result.andThen, goInt, setBlock]
  · simp [Instr.entryStore, MapKept.run_getObj_map hW, asInt, asIntOf, hidx, hmod, MapKept.run_setObj_map _ hW, Result.andThen, setBlock]
  · obtain ⟨D', ⟨es', clock', hb', F', hs', hD'⟩, h2'⟩ := hm
    rw [setBlock_get w b _ hlt] at hb'
    exact ⟨D', ⟨es', clock', hW.trans hb', F', hs', hD'⟩, h2'⟩
end Go.Proofs.Ytipmjfpoglkiaaa
