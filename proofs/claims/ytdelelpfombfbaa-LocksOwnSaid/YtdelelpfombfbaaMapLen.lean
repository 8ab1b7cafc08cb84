/- A word for len of a map with integer keys: it counts the keys at which something stands. No condition. -/
import Derived.Test.YtdelelpfombfbaaMaps
namespace Go.Proofs.Ytdelelpfombfbaa
open Go.RowKit
theorem MpAt.len {w : World} {P : Program} {k t e : TypeId} {b n : Nat} {f : Int → Option Value} (h : MpAt w P k b n f) (hk : P.underlying k = some (.int .i64)) (ht : P.underlying t = some (.map k e)) :
    ∃ L : List Int, L.Nodup ∧ (∀ i, i ∈ L ↔ (f i).isSome = true) ∧ ∀ ty, (Builtin.len_ #[t] ty #[.map (some b)]).run P w = .ok (.int .i64 L.length) w := by
  obtain ⟨D, h1, h2⟩ := h
  have hlen := fun ty => h1.len ht ty
  obtain ⟨es, hD, hp, hkeys⟩ : ∃ es, D = .map es ∧ es.Pairwise (fun p q => p.1 ≠ q.1) ∧ ∀ p ∈ es, ∃ i : Int, p.1 = Lit.int .i64 i := by
    obtain ⟨es, hD, hp, _⟩ := h1.entries (Maps.int_keyed hk)
    obtain ⟨es0, clock, hb, F, _, hD'⟩ := h1
    refine ⟨es, hD, hp, fun p hpm => ?_⟩
    rw [hD] at hD'
    injection hD' with hD'
    rw [hD'] at hpm
    obtain ⟨x, hx, rfl⟩ := List.mem_map.1 (Go.mem_sorted.1 hpm)
    obtain ⟨y, hy⟩ := F.reads x hx
    rw [Go.WideElems.rg_of hy]
    obtain ⟨i, _, hi, _⟩ := Maps.keyOf_int_inv hk (Go.WideElems.rd_key hy)
    exact ⟨i, hi⟩
  subst hD
  refine ⟨es.map (fun p => match p.1 with | .int _ i => i | _ => 0), ?_, fun i => ?_, fun ty => by rw [hlen ty, List.length_map]; rfl⟩
  · rw [List.Nodup, List.pairwise_map]
    refine hp.imp_of_mem (fun {p q} hpm hqm hne he => hne ?_)
    obtain ⟨i, hi⟩ := hkeys p hpm
    obtain ⟨j, hj⟩ := hkeys q hqm
    rw [hi, hj] at he ⊢
    simp only at he
    rw [he]
  · have hh : Maps.has (.map es) (Lit.int .i64 i) = (f i).isSome := by
      have := h2 i
      cases hf : f i with
      | none => rw [hf] at this; rw [this]; rfl
      | some v => rw [hf] at this; rw [this.1]; rfl
    rw [← hh, Maps.has_eq, List.any_eq_true, List.mem_map]
    constructor
    · rintro ⟨p, hpm, hpi⟩
      obtain ⟨j, hj⟩ := hkeys p hpm
      rw [hj] at hpi
      simp only at hpi
      subst hpi
      exact ⟨p, hpm, by rw [hj]; simp [Lit.sameKey]⟩
    · rintro ⟨p, hpm, hpi⟩
      obtain ⟨j, hj⟩ := hkeys p hpm
      refine ⟨p, hpm, ?_⟩
      rw [hj] at hpi ⊢
      simpa [Lit.sameKey] using hpi
/-- Of the keys 0 up to n there are n. -/
theorem keys_upto {L : List Int} {n : Nat} (hn : L.Nodup) (hm : ∀ i, i ∈ L ↔ 0 ≤ i ∧ i < n) : L.length = n := by
  have hp : L.Perm ((List.range n).map (fun i : Nat => (i : Int))) := by
    rw [List.perm_ext_iff_of_nodup hn]
    · intro i
      rw [hm, List.mem_map]
      constructor
      · rintro ⟨h1, h2⟩
        exact ⟨i.toNat, List.mem_range.2 (by omega), by omega⟩
      · rintro ⟨j, hj, rfl⟩
        have := List.mem_range.1 hj
        omega
    · rw [List.Nodup, List.pairwise_map]
      exact List.nodup_range.imp (fun {a b} h => by omega)
  have := hp.length_eq
  simpa using this
end Go.Proofs.Ytdelelpfombfbaa
