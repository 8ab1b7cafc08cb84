/- Contracts of the lock that many may hold: Holds. Conditions: at most 1000 hold it or wait. -/
import Derived.Test.YtdelelpfombfbaaMany5
import Derived.Test.YtdelelpfombfbaaSeq2
namespace Go.Proofs.Ytdelelpfombfbaa
open Go.ChangeShapes Go.WideShapes Go.ChangeAt Go.RowKit
set_option linter.unusedVariables false
/-- What is told of the lock. -/
def PHolds (s : MS) (w : World) (e : Ending) (w' : World) : Prop := ∃ a c G b d H, e = .returned (.tuple #[.slice a s.rd.length c, .int .i64 s.wr, .slice b s.row.length d]) ∧ Sl w' 3 1 a s.rd.length c (ints .i64 (sortI s.rd)) G ∧ Sl w' 3 1 b s.row.length d (ints .i64 (s.row.map WN.t)) H ∧ Chg Nil w w' ∧ (∀ g, G = some g → w.heap.size ≤ g) ∧ (∀ g, H = some g → w.heap.size ≤ g) ∧ ∀ g, G = some g → H ≠ some g
def HJ (w0 : World) (l : List WN) (a : Option Addr) (c : Nat) (k : Nat) (w : World) : Prop := ∃ G, Sl w 3 1 a k c (ints .i64 ((l.take k).map WN.t)) G ∧ Chg Nil w0 w ∧ ∀ g, G = some g → w0.heap.size ≤ g
set_option maxHeartbeats 2000000 in
theorem mholds_ok (w : World) (F : Nat → Prop) (p : Nat) (s : MS) (h : MnAt w F p s) (hl : s.rd.length + s.row.length ≤ 1000) :
    Calls Try.prog 29 #[.pointer (some ⟨p, 0, none⟩)] w (PHolds s w) := by
  obtain ⟨a, c, G, b, d, H, h⟩ := h
  have d2 := h.c2
  have HA := hid h
  clear h
  go_enter Try.func29, Try.ntmps29
  go_wp2
  go_loopw [5, 13] (fun s5 s13 wr => ∃ (k : Nat) (a2 : Option Addr) (c2 : Nat), k ≤ s.row.length ∧ s13 = .int .i64 k ∧ s5 = .slice a2 k c2 ∧ Hid (HJ w s.row a2 c2 k wr)) (fun _ s13 _ => s.row.length - (intOf s13).toNat)
  case atStart => exact ⟨0, none, 0, by omega, rfl, rfl, none, Sl.empty _ _ _ _, Chg.refl _ _, fun g h => by cases h⟩
  case round =>
    obtain ⟨k, a2, c2, hk, rfl, rfl, hJ⟩ := hrel
    obtain ⟨G2, j1, j2, j3⟩ := id hJ.out
    by_cases hlt : k < s.row.length
    · obtain ⟨g, off, rfl, hg1, hg2, hc⟩ := ((HA.out.nil j2).row.rd).elem wn_len rfl (by omega)
      have e0 := hc k hlt 0 (by omega)
      have e1 := hc k hlt 1 (by omega)
      clear hc
      simp only [wnCells, List.getElem?_cons_succ, List.getElem?_cons_zero, Nat.add_zero] at e0 e1
      have HTK := hid (show (s.row.take (k + 1)).map WN.t = (s.row.take k).map WN.t ++ [s.row[k].t] by rw [List.take_succ_eq_append_getElem hlt, List.map_append]; rfl)
      generalize s.row[k] = x at e0 e1 HTK
      have C0 : Chg Nil wr (wr.alloc (.cells #[.int .i64 x.t, .bool x.w] 98)) := (Chg.refl _ _).alloc _
      have S2 := hid ((j1.chg C0 (fun _ _ h => h)).alloc (.cells #[.int .i64 x.t] 3))
      have N2 := Rd.of_blk (n := 1) (s := 1) (Blk.new (wr.alloc (.cells #[.int .i64 x.t, .bool x.w] 98)) 3 (ints .i64 [x.t])) rfl (by decide)
      rw [show (wr.alloc (.cells #[.int .i64 x.t, .bool x.w] 98)).heap.size = wr.heap.size + 1 by simp] at N2
      replace N2 := hid N2
      replace j1 := hid j1
      replace j2 := hid j2
      replace j3 := hid j3
      replace C0 := hid C0
      go_wp2_with (at_builtin; refine wpList_append_sl rfl _ _ eInt rfl rfl rfl S2.out N2.out (ints_one _ _) (by omega) (by omega) ?_; intro a' c' w2 G' y1 y2 y3; replace y1 := hid y1; replace y2 := hid y2; replace y3 := hid y3)
      go_roundw
      case rel =>
        refine ⟨k + 1, a', c', by omega, by go_num, rfl, G', ?_, ?_, ?_⟩
        · have := y1.out
          rw [ints_append, ← HTK.out] at this
          exact this
        · exact (j2.out.trans C0.out (fun _ _ h => h)).trans (push_chg y2.out) (fun i hi hG => by have := j3.out i hG; omega)
        · intro g' hg
          rcases push_grew y3.out g' hg with h | h
          · exact j3.out g' h
          · have := j2.out.size; simp at h; omega
      case measure => simp [intOf]; omega
    · have hkl : k = s.row.length := by omega
      rw [hkl, List.take_length] at j1
      have hA := HA.out.nil j2
      have m0 := hA.c0
      have m1 := hA.c1
      have x1 := (hA.nil ((Chg.refl Nil wr).alloc (.cells #[.slice a s.rd.length c] 22))).c1
      have VO := hid (fun w => vals_ok a s.rd.length c w)
      have SO := hid (sorted_ok wr.heap.size _ a _ c s.rd (by omega) ((World.drew wr).alloc (.cells #[.slice a s.rd.length c] 22)) (by simp) (fun g hg => by have := hA.lt g (hA.fg g hg); simp; omega) ((Blk.new wr 22 [.slice a s.rd.length c]).cell 0) (hA.rd.rd.alloc _))
      have J1 := hid j1
      have J2 := hid j2
      have J3 := hid j3
      have HAW := hid hA
      have HKL := hid hkl
      clear j1 j2 j3 hA hJ hkl
      go_upto_region 7 with fail
      clear d2
      go_region_law (first | (go_simp; go_at_call 52; refine (VO.out _).mono ?_; rintro e w3 ⟨rfl, rfl⟩) | (go_simp; go_at_call 51; refine (SO.out).mono ?_; rintro e w2 ⟨a3, c3, G3, rfl, y1, y2, y3⟩; have z1 : w2.cell? ⟨p, 1, none⟩ = some (.int .i64 s.wr) := ((HAW.out.nil (((Chg.refl Nil wr).drew).alloc (.cells #[.slice a s.rd.length c] 22))).nil y2).c1; replace y1 := hid y1; replace y2 := hid y2; replace y3 := hid y3))
      all_goals
        go_wp2
        go_ret3
        have hC : Chg Nil wr w2 := (((Chg.refl Nil wr).drew).alloc (.cells #[.slice a s.rd.length c] 22)).trans y2.out (fun _ _ h => h)
        have hs := J2.out.size
        have h3 : ∀ g, G3 = some g → wr.heap.size ≤ g := fun g hg => by have := y3.out g hg; simp at this; omega
        refine ⟨a3, c3, G3, a2, c2, G2, by rw [HKL.out]; rfl, y1.out, J1.out.chg hC (fun _ _ h => h), J2.out.trans hC (fun _ _ h => h), fun g hg => by have := h3 g hg; omega, J3.out, fun g hg hg2 => ?_⟩
        have := h3 g hg
        have := J1.out.lt g hg2
        omega
end Go.Proofs.Ytdelelpfombfbaa
