/- The builtin copy at elements of s cells, and slices into which something is put. No condition. -/
import Derived.Test.YtjllklddjkkddaaGreatDoorZ05
import Derived.Test.YtjllklddjkkddaaGreatDoorZ06
import Derived.Lib.AppendZerosOnto
import Derived.Lib.Overlaps
import Derived.Laws.Externs
namespace Go.Proofs.YtjllklddjkkddaaGreatDoor
open Go.ChangeShapes Go.WideShapes Go.ChangeAt Go.RowKit
set_option linter.unusedVariables false
theorem set_row3 (w : World) {g : Nat} {cur : Array Value} {e : TypeId} (hg : w.heap[g]? = some (.cells cur e (0, 0))) :
    ∀ (vs : List Value) (o : Nat), o + vs.length ≤ cur.size → ∃ cur', (w.setCells g o vs).heap[g]? = some (.cells cur' e (0, 0)) ∧ cur'.size = cur.size ∧
      (∀ j, j < o → cur'[j]? = cur[j]?) ∧ (∀ j, j < vs.length → cur'[o + j]? = vs[j]?) ∧ ∀ j, o + vs.length ≤ j → cur'[j]? = cur[j]? := by
  intro vs
  induction vs generalizing w cur with
  | nil => intro o _; exact ⟨cur, hg, rfl, fun _ _ => rfl, fun j hj => absurd hj (by simp), fun _ _ => rfl⟩
  | cons v vs ih =>
    intro o ho
    simp only [List.length_cons] at ho
    have h1 : (w.setCell ⟨g, o, Option.none⟩ v).heap[g]? = some (.cells (cur.setIfInBounds o v) e (0, 0)) := by
      simp [World.setCell, Array.getElem?_modify, hg]
    obtain ⟨cur', c1, c2, c3, c4, c5⟩ := ih (w.setCell ⟨g, o, Option.none⟩ v) h1 (o + 1) (by simp; omega)
    refine ⟨cur', c1, by simpa using c2, fun j hj => ?_, fun j hj => ?_, fun j hj => ?_⟩
    · rw [c3 j (by omega), Array.getElem?_setIfInBounds_ne (by omega)]
    · cases j with
      | zero => rw [Nat.add_zero, c3 o (by omega), Array.getElem?_setIfInBounds_self_of_lt (by omega)]; rfl
      | succ j =>
        have := c4 j (by simpa using hj)
        rw [show o + (j + 1) = o + 1 + j by omega, this]; rfl
    · simp only [List.length_cons] at hj
      rw [c5 j (by omega), Array.getElem?_setIfInBounds_ne (by omega)]
theorem setCells_chg (w : World) (g o : Nat) (vs : List Value) (F : Nat → Prop) (hF : F g) : Chg F w (w.setCells g o vs) :=
  ⟨World.os_setCells _ _ _ _, setCells_tape _ _ _ _, World.output_setCells _ _ _ _, by rw [setCells_size]; exact Nat.le_refl _, fun k hk hk2 => World.heap_setCells_other _ _ _ _ hk (fun hh => hk2 (by rw [hh]; exact hF))⟩
section
variable {P : Program}
/-- All is read before anything is written. -/
theorem run_copy_s (w : World) (dT sT ty : TypeId) {elem : TypeId} {s bytes : Nat} (T : ETy P dT elem s bytes) (b o dLen dCap : Nat) (a : Addr) (sLen sCap : Nat) (cs : List Value) (hn : cs.length = Nat.min sLen dLen * s)
    (hsrc : ∀ j v, cs[j]? = some v → w.cell? (a.add j) = some v) (hc : ∀ j, j < cs.length → (w.cell? ⟨b, o + j, none⟩).isSome = true) (hf : ∀ j, j < cs.length → w.frozen? ⟨b, o + j, none⟩ = false) (h1 : ∀ v ∈ cs, v.oneCell' = true) :
    (Builtin.copy_ #[dT, sT] ty #[.slice (some ⟨b, o, none⟩) dLen dCap, .slice (some a) sLen sCap]).run P w = .ok (goInt (Nat.min sLen dLen)) (w.setCells b o cs) := by
  obtain ⟨i, z, hi, hz, hsz, hby, hzs⟩ := T.info
  have hl := run_loadCells_list (P := P) w a cs hsrc
  have hst := run_storeCells_cells (P := P) b o cs 0 w (by simpa using hc) (by simpa using hf) h1
  subst hsz
  simp [Builtin.copy_, run_underlying T.under, Builtin.lenOf, Builtin.firstCells, sizeOf, typeInfo, hi, ← hn, hl, hst]
end
/-- copy between two slices: what is read, and into which block. -/
theorem copy_sl {P : Program} (w : World) (dT sT ty : TypeId) {elem : TypeId} {s bytes : Nat} (T : ETy P dT elem s bytes) {g o : Nat} {cur : Array Value} (hg : w.heap[g]? = some (.cells cur elem (0, 0))) (dLen dCap : Nat) {R : Nat → Prop} {a : Option Addr} {sLen sCap : Nat} {xs : List Value} (hr : Rd w R s a sLen sCap xs) (h0 : 0 < sLen) (hle : sLen ≤ dLen) (hfit : o + sLen * s ≤ cur.size) (h1 : ∀ v ∈ xs, v.oneCell' = true) :
    (Builtin.copy_ #[dT, sT] ty #[.slice (some ⟨g, o, none⟩) dLen dCap, .slice a sLen sCap]).run P w = .ok (goInt sLen) (w.setCells g o xs) := by
  obtain ⟨b, off, rfl, _, _, hc⟩ := hr.2.2.2 h0
  have hxl := hr.len
  have hmin : Nat.min sLen dLen = sLen := Nat.min_eq_left hle
  have := run_copy_s (P := P) w dT sT ty T g o dLen dCap ⟨b, off, none⟩ sLen sCap xs (by rw [hmin, hxl]) (fun j v hj => by
      have hjl : j < xs.length := (List.getElem?_eq_some_iff.1 hj).1
      rw [add_off, hc j (by omega), hj]) (fun j hj => by rw [cell_in w hg, Array.getElem?_eq_getElem (by omega)]; rfl) (fun j hj => by simp [World.frozen?, hg]) h1
  rwa [hmin] at this
/-- One more is put into a slice that has room, at place i: what stands behind it goes one place on. -/
theorem Sl.shift {w : World} {e : TypeId} {s n c g off i : Nat} {xs vs : List Value} {G : Option Nat} (h : Sl w e s (some ⟨g, off, none⟩) n c xs G) (h0 : 0 < n) (hi : i < n) (hroom : n + 1 ≤ c) (hv : vs.length = s) :
    Sl ((w.setCells g (off + (i + 1) * s) (xs.drop (i * s))).setCells g (off + i * s) vs) e s (some ⟨g, off, none⟩) (n + 1) c (xs.take (i * s) ++ vs ++ xs.drop (i * s)) G ∧ Chg (Opt G) w ((w.setCells g (off + (i + 1) * s) (xs.drop (i * s))).setCells g (off + i * s) vs) := by
  obtain ⟨h1, h2, h3, ⟨h4, _⟩ | ⟨g', off', cur, r1, r2, r3, r4, r5⟩⟩ := h
  · omega
  injection r1 with r1
  injection r1 with r1 r1'
  subst r1; subst r1'; subst r2
  have e1 : (i + 1) * s = i * s + s := Nat.succ_mul _ _
  have e2 : (n + 1) * s = n * s + s := Nat.succ_mul _ _
  have hnc : (n + 1) * s ≤ c * s := Nat.mul_le_mul_right _ hroom
  have hin : i * s ≤ n * s := Nat.mul_le_mul_right _ (by omega)
  have hdl : (xs.drop (i * s)).length = n * s - i * s := by rw [List.length_drop, h3]
  have htl : (xs.take (i * s)).length = i * s := by rw [List.length_take, h3]; omega
  obtain ⟨cur1, c1, c2, c3, c4, c5⟩ := set_row3 w r3 (xs.drop (i * s)) (off + (i + 1) * s) (by omega)
  obtain ⟨cur2, d1, d2, d3, d4, d5⟩ := set_row3 _ c1 vs (off + i * s) (by omega)
  refine ⟨⟨hroom, h2, by simp only [List.length_append, hdl, htl, hv]; omega, .inr ⟨g, off, cur2, rfl, rfl, d1, by omega, fun j hj => ?_⟩⟩, (setCells_chg w g _ _ (Opt (some g)) rfl).trans (setCells_chg _ g _ _ (Opt (some g)) rfl) (fun _ _ h => h)⟩
  by_cases j1 : j < i * s
  · rw [d3 _ (by omega), c3 _ (by omega), r5 j (by omega), List.append_assoc, List.getElem?_append_left (by omega), List.getElem?_take, if_pos j1]
  · by_cases j2 : j < i * s + s
    · have := d4 (j - i * s) (by omega)
      rw [show off + i * s + (j - i * s) = off + j by omega] at this
      rw [this, List.getElem?_append_left (by simp only [List.length_append, htl, hv]; omega), List.getElem?_append_right (by omega), htl]
    · have := c4 (j - (i * s + s)) (by omega)
      rw [show off + (i + 1) * s + (j - (i * s + s)) = off + j by omega] at this
      rw [d5 _ (by omega), this, List.getElem?_append_right (by simp only [List.length_append, htl, hv]; omega)]
      congr 1
      simp only [List.length_append, htl, hv]
/-- A new block: the first i, then room; then one more, and the rest. -/
theorem Sl.fresh {w w1 : World} {e : TypeId} {s n c g i : Nat} {xs vs : List Value} {cur : Array Value} (hg : w1.heap[g]? = some (.cells cur e (0, 0))) (hx : xs.length = n * s) (hi : i < n) (hroom : n + 1 ≤ c) (hm : c ≤ maxLen) (hsz : c * s ≤ cur.size) (hcur : ∀ j, j < i * s → cur[j]? = xs[j]?) (hv : vs.length = s) :
    Sl ((w1.setCells g (i * s) vs).setCells g ((i + 1) * s) (xs.drop (i * s))) e s (some ⟨g, 0, none⟩) (n + 1) c (xs.take (i * s) ++ vs ++ xs.drop (i * s)) (some g) ∧ Chg (One g) w1 ((w1.setCells g (i * s) vs).setCells g ((i + 1) * s) (xs.drop (i * s))) := by
  have e1 : (i + 1) * s = i * s + s := Nat.succ_mul _ _
  have e2 : (n + 1) * s = n * s + s := Nat.succ_mul _ _
  have hnc : (n + 1) * s ≤ c * s := Nat.mul_le_mul_right _ hroom
  have hin : i * s ≤ n * s := Nat.mul_le_mul_right _ (by omega)
  have hdl : (xs.drop (i * s)).length = n * s - i * s := by rw [List.length_drop, hx]
  have htl : (xs.take (i * s)).length = i * s := by rw [List.length_take, hx]; omega
  obtain ⟨cur1, c1, c2, c3, c4, c5⟩ := set_row3 w1 hg vs (i * s) (by omega)
  obtain ⟨cur2, d1, d2, d3, d4, d5⟩ := set_row3 _ c1 (xs.drop (i * s)) ((i + 1) * s) (by omega)
  refine ⟨⟨hroom, hm, by simp only [List.length_append, hdl, htl, hv]; omega, .inr ⟨g, 0, cur2, rfl, rfl, d1, by omega, fun j hj => ?_⟩⟩, (setCells_chg w1 g _ _ (One g) rfl).trans (setCells_chg _ g _ _ (One g) rfl) (fun _ _ h => h)⟩
  rw [Nat.zero_add]
  by_cases j1 : j < i * s
  · rw [d3 _ (by omega), c3 _ (by omega), hcur j j1, List.append_assoc, List.getElem?_append_left (by omega), List.getElem?_take, if_pos j1]
  · by_cases j2 : j < i * s + s
    · have := c4 (j - i * s) (by omega)
      rw [show i * s + (j - i * s) = j by omega] at this
      rw [d3 _ (by omega), this, List.getElem?_append_left (by simp only [List.length_append, htl, hv]; omega), List.getElem?_append_right (by omega), htl]
    · have := d4 (j - (i * s + s)) (by omega)
      rw [show (i + 1) * s + (j - (i * s + s)) = j by omega] at this
      rw [this, List.getElem?_append_right (by simp only [List.length_append, htl, hv]; omega)]
      congr 1
      simp only [List.length_append, htl, hv]
end Go.Proofs.YtjllklddjkkddaaGreatDoor
