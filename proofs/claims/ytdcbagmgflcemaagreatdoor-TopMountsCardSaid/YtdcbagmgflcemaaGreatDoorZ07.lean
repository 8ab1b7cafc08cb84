/- The builtin copy at elements of s cells, and slices into which something is put. No condition. -/
import Derived.Test.YtdcbagmgflcemaaGreatDoorZ05
import Derived.Test.YtdcbagmgflcemaaGreatDoorZ06
import Derived.Lib.AppendZerosOnto
import Derived.Lib.Overlaps
import Derived.Laws.Externs
namespace Go.Proofs.YtdcbagmgflcemaaGreatDoor
open Go.ChangeShapes Go.WideShapes Go.ChangeAt Go.RowKit
set_option linter.unusedVariables false
theorem set_row3 (w : World) {g : Nat} {cur : Array Value} {e : TypeId} (hg : w.heap[g]? = some (.cells cur e (0, 0))) :
    ∀ (vs : List Value) (o : Nat), o + vs.length ≤ cur.size → ∃ cur', (w.setCells g o vs).heap[g]? = some (.cells cur' e (0, 0)) ∧ cur'.size = cur.size ∧
      (∀ j, j < o → cur'[j]? = cur[j]?) ∧ (∀ j, j < vs.length → cur'[o + j]? = vs[j]?) ∧ ∀ j, o + vs.length ≤ j → cur'[j]? = cur[j]? := by
  intro vs
  induction vs generalizing w cur with
  | nil => intro o _; exact ⟨cur, hg, rfl, fun _ _ => rfl, fun j hj => absurd hj (by simp), fun _ _ => rfl⟩
  | cons v vs ih =>
    intro o ho
    simp only [List.length_cons] at ho
    have h1 : (w.setCell ⟨g, o, Option.none⟩ v).heap[g]? = some (.cells (cur.setIfInBounds o v) e (0, 0)) := by
      simp [World.setCell, Array.getElem?_modify, hg]
    obtain ⟨cur', c1, c2, c3, c4, c5⟩ := ih (w.setCell ⟨g, o, Option.none⟩ v) h1 (o + 1) (by simp; omega)
    refine ⟨cur', c1, by simpa using c2, fun j hj => ?_, fun j hj => ?_, fun j hj => ?_⟩
    · rw [c3 j (by omega), Array.getElem?_setIfInBounds_ne (by omega)]
    · cases j with
      | zero => rw [Nat.add_zero, c3 o (by omega), Array.getElem?_setIfInBounds_self_of_lt (by omega)]; rfl
      | succ j =>
        have := c4 j (by simpa using hj)
        rw [show o + (j + 1) = o + 1 + j by omega, this]; rfl
    · simp only [List.length_cons] at hj
      rw [c5 j (by omega), Array.getElem?_setIfInBounds_ne (by omega)]
theorem setCells_chg (w : World) (g o : Nat) (vs : List Value) (F : Nat → Prop) (hF : F g) : Chg F w (w.setCells g o vs) :=
  ⟨World.os_setCells _ _ _ _, setCells_tape _ _ _ _, World.output_setCells _ _ _ _, by rw [setCells_size]; exact Nat.le_refl _, fun k hk hk2 => World.heap_setCells_other _ _ _ _ hk (fun hh => hk2 (by rw [hh]; exact hF))⟩
section
variable {P : Program}
/-- All is read before anything is written. -/
theorem run_copy_s (w : World) (dT sT ty : TypeId) {elem : TypeId} {s bytes : Nat} (T : ETy P dT elem s bytes) (b o dLen dCap : Nat) (a : Addr) (sLen sCap : Nat) (cs : List Value) (hn : cs.length = Nat.min sLen dLen * s)
    (hsrc : ∀ j v, cs[j]? = some v → w.cell? (a.add j) = some v) (hc : ∀ j, j < cs.length → (w.cell? ⟨b, o + j, none⟩).isSome = true) (hf : ∀ j, j < cs.length → w.frozen? ⟨b, o + j, none⟩ = false) (h1 : ∀ v ∈ cs, v.oneCell' = true) :
    (Builtin.copy_ #[dT, sT] ty #[.slice (some ⟨b, o, none⟩) dLen dCap, .slice (some a) sLen sCap]).run P w = .ok (goInt (Nat.min sLen dLen)) (w.setCells b o cs) := by
  obtain ⟨i, z, hi, hz, hsz, hby, hzs⟩ := T.info
  have hl := run_loadCells_list (P := P) w a cs hsrc
  have hst := run_storeCells_cells (P := P) b o cs 0 w (by simpa using hc) (by simpa using hf) h1
  subst hsz
  simp [Builtin.copy_, run_underlying T.under, Builtin.lenOf, Builtin.firstCells, sizeOf, typeInfo, hi, ← hn, hl, hst]
end
/-- copy between two slices: what is read, and into which block. -/
theorem copy_sl {P : Program} (w : World) (dT sT ty : TypeId) {elem : TypeId} {s bytes : Nat} (T : ETy P dT elem s bytes) {g o : Nat} {cur : Array Value} (hg : w.heap[g]? = some (.cells cur elem (0, 0))) (dLen dCap : Nat) {R : Nat → Prop} {a : Option Addr} {sLen sCap : Nat} {xs : List Value} (hr : Rd w R s a sLen sCap xs) (h0 : 0 < sLen) (hle : sLen ≤ dLen) (hfit : o + sLen * s ≤ cur.size) (h1 : ∀ v ∈ xs, v.oneCell' = true) :
    (Builtin.copy_ #[dT, sT] ty #[.slice (some ⟨g, o, none⟩) dLen dCap, .slice a sLen sCap]).run P w = .ok (goInt sLen) (w.setCells g o xs) := by
  obtain ⟨b, off, rfl, _, _, hc⟩ := hr.2.2.2 h0
  have hxl := hr.len
  have hmin : Nat.min sLen dLen = sLen := Nat.min_eq_left hle
  have := run_copy_s (P := P) w dT sT ty T g o dLen dCap ⟨b, off, none⟩ sLen sCap xs (by rw [hmin, hxl]) (fun j v hj => by
      have hjl : j < xs.length := (List.getElem?_eq_some_iff.1 hj).1
      rw [add_off, hc j (by omega), hj]) (fun j hj => by rw [cell_in w hg, Array.getElem?_eq_getElem (by omega)]; rfl) (fun j hj => by simp [World.frozen?, hg]) h1
  rwa [hmin] at this
end Go.Proofs.YtdcbagmgflcemaaGreatDoor
