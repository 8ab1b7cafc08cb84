/- bytes.Equal of equal rows, and spoil. -/
import Derived.Test.YtbkcjfeahaphgaaSlices
import Derived.Shelf.Bytes.SlEqualAll
namespace Go.Proofs.Ytbkcjfeahaphgaa
open Go.ChangeShapes Go.WideShapes Go.ChangeAt Go.RowKit
set_option linter.unusedVariables false
theorem bytesIn_rd {w : World} {R : Nat → Prop} {a : Option Addr} {n c : Nat} {l : List Int} (h : Rd w R 1 a n c (ints .u8 l)) : Lib.BytesIn w a n l := by
  have hl := h.ilen
  rcases Nat.eq_zero_or_pos n with h0 | h0
  · subst h0; exact Lib.BytesIn.nil _ _ _
  · obtain ⟨g, off, rfl, _, _, hc⟩ := h.at (i := 0) (by omega)
    refine Lib.BytesIn.of_cells fun i hi => ?_
    rw [add_off, hc i (by omega)]
    simp [List.getD, show i < l.length by omega]
set_option maxHeartbeats 1000000 in
/-- bytes.Equal of two rows that read alike. -/
theorem bytes_same (R R' : Nat → Prop) (a b : Option Addr) (n c m d : Nat) (l : List Int) (w : World) (h : Rd w R 1 a n c (ints .u8 l)) (h' : Rd w R' 1 b m d (ints .u8 l)) :
    Calls Try.prog 22 #[.slice a n c, .slice b m d] w fun e w' => e = .returned (.bool true) ∧ w = w' := by
  have e1 := (bytesIn_rd h).convert (P := Try.prog) h.ilen c 46 5 9 Try.underlying46 (by kernel_rfl) (by kernel_rfl)
  have e2 := (bytesIn_rd h').convert (P := Try.prog) h'.ilen d 46 5 9 Try.underlying46 (by kernel_rfl) (by kernel_rfl)
  clear h h'
  go_enter Try.func22, Try.ntmps22
  go_wp2
  go_ret
  exact ⟨rfl, rfl⟩
theorem Sl.full {w : World} {e : TypeId} {a : Option Addr} {n c : Nat} {xs : List Value} {G : Option Nat} (h : Sl w e 1 a n c xs G) : ∃ ys, Sl w e 1 a c c ys G := by
  obtain ⟨h1, h2, h3, h4⟩ := h
  rcases h4 with ⟨rfl, rfl⟩ | ⟨g, off, cur, r1, r2, r3, r4, r5⟩
  · exact ⟨[], Nat.le_refl _, h2, by simp, .inl ⟨rfl, rfl⟩⟩
  · refine ⟨(cur.toList.drop off).take c, Nat.le_refl _, h2, ?_, .inr ⟨g, off, cur, r1, r2, r3, r4, fun j hj => ?_⟩⟩
    · rw [List.length_take, List.length_drop, Array.length_toList]; omega
    · rw [List.getElem?_take_of_lt (by omega), List.getElem?_drop]; simp
set_option maxHeartbeats 1000000 in
/-- spoil writes nowhere but in its slice's own block. -/
theorem spoil_any (a : Option Addr) (n c : Nat) (xs : List Value) (G : Option Nat) (k : Int) (w : World) (h : Sl w 5 1 a n c xs G) :
    Calls Try.prog 23 #[.slice a n c, .int .u8 k] w fun e w' => e = .returned (.tuple #[]) ∧ Chg (Opt G) w w' := by
  have hn := h.1
  have hm := h.2.1
  unfold maxLen at hm
  obtain ⟨ys, hs⟩ := h.full
  clear h
  have HS : Hid (∃ ys, Sl w 5 1 a c c ys G ∧ Chg (Opt G) w w) := ⟨ys, hs, Chg.refl _ _⟩
  clear hs
  go_enter Try.func23, Try.ntmps23
  go_wp2
  go_loopw [11] (fun s11 wr => ∃ i : Nat, i ≤ c ∧ s11 = .int .i64 i ∧ Hid (∃ ys, Sl wr 5 1 a c c ys G ∧ Chg (Opt G) w wr)) (fun s11 _ => c - (intOf s11).toNat)
  case atStart => exact ⟨0, by omega, rfl, HS⟩
  case round =>
    obtain ⟨i, hi, rfl, hJ⟩ := hrel
    by_cases hlt : i < c
    · obtain ⟨ys, j1, j2⟩ := id hJ.out
      obtain ⟨g, off, rfl, _, hG, hc⟩ := j1.rd.cellAt (by omega)
      have hc1 := hc i hlt
      clear hc
      have hy : i < ys.length := by have := j1.len; omega
      rw [List.getElem?_eq_getElem hy] at hc1
      have hf := j1.unfrozen hlt
      have HF : Hid (∀ u, ∃ ys', Sl (wr.setCell ⟨g, off + i, none⟩ u) 5 1 (some ⟨g, off, none⟩) c c ys' G ∧ Chg (Opt G) w (wr.setCell ⟨g, off + i, none⟩ u)) := fun u => ⟨_, j1.put hlt u, j2.setCell (.inl hG) u⟩
      go_wp2
      go_roundw
      case rel => exact ⟨i + 1, by omega, by simp, HF.out _⟩
      case measure => simp [intOf]; omega
    · go_wp2
      go_end0
      obtain ⟨_, _, j2⟩ := hJ.out
      exact ⟨rfl, j2⟩
end Go.Proofs.Ytbkcjfeahaphgaa
