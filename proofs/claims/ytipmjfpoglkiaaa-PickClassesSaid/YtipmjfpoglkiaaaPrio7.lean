/- Contracts of package prio: Out. Conditions: at most 1000 tasks in each queue; the bits are of eight priorities. -/
import Derived.Test.YtipmjfpoglkiaaaPrio6
namespace Go.Proofs.Ytipmjfpoglkiaaa
open Go.ChangeShapes Go.WideShapes Go.ChangeAt Go.RowKit
set_option linter.unusedVariables false
/-- The bits without one of them. -/
def clrB (b v : Nat) : Nat := b - (b &&& 2 ^ v)
theorem clr_bit (b v : Nat) (hb : b < 256) (hv : v < 8) : bits .andNot .u32 (b : Int) ((2 ^ v : Nat) : Int) = (clrB b v : Int) := by
  have : ∀ (b : Fin 256) (v : Fin 8), bits .andNot .u32 ((b.val : Nat) : Int) ((2 ^ v.val : Nat) : Int) = (clrB b.val v.val : Int) := by decide +kernel
  exact this ⟨b, hb⟩ ⟨v, hv⟩
theorem clr_test (b v i : Nat) (hb : b < 256) (hv : v < 8) (hi : i < 8) : (clrB b v).testBit i = (b.testBit i && !decide (i = v)) := by
  have : ∀ (b : Fin 256) (v i : Fin 8), (clrB b.val v.val).testBit i.val = (b.val.testBit i.val && !decide (i.val = v.val)) := by decide +kernel
  exact this ⟨b, hb⟩ ⟨v, hv⟩ ⟨i, hi⟩
theorem prOf_mem (q : Nat → List Int) (t : Int) : ∀ k, 0 ≤ prOf q t k → ∃ i : Nat, prOf q t k = i ∧ i < k ∧ t ∈ q i
  | 0, h => by simp [prOf] at h
  | k + 1, h => by
    unfold prOf at h ⊢
    by_cases h1 : prOf q t k = -1
    · rw [if_pos h1] at h ⊢
      by_cases h2 : t ∈ q k
      · rw [if_pos h2]; exact ⟨k, rfl, by omega, h2⟩
      · rw [if_neg h2] at h; omega
    · rw [if_neg h1] at h ⊢
      obtain ⟨i, e1, e2, e3⟩ := prOf_mem q t k h
      exact ⟨i, e1, by omega, e3⟩
theorem pout_none (w : World) (F : Nat → Prop) (p b : Nat) (q : Nat → List Int) (t : Int) (h : PrAt w F p b q) (hl : ∀ i, i < 8 → (q i).length ≤ 1000) (ht : prOf q t 8 = -1) :
    Calls Try.prog 30 #[.pointer (some ⟨p, 0, none⟩), .int .i64 t] w fun e w' => e = .returned (.tuple #[.int .i64 0, .int .i64 4]) ∧ Chg Nil w w' := by
  obtain ⟨A, C, G, h⟩ := h
  have hA := (Chg.refl Nil w).alloc (.cells #[.int .i64 t] 3)
  have HH := hid (pat_ok _ F p b q A C G t (h.nil hA) hl)
  rw [ht] at HH
  have HA := hid hA
  clear h hl ht hA
  go_enter Try.func30, Try.ntmps30
  go_wp2_with fail
  refine HH.out.mono ?_
  rintro e w1 ⟨rfl, c1⟩
  have C1 := hid (HA.out.trans c1 (fun _ _ h => h))
  clear c1
  go_wp2
  go_ret2
  exact ⟨rfl, C1.out⟩
set_option maxHeartbeats 2000000 in
theorem pout_ok (w : World) (F : Nat → Prop) (p b : Nat) (q : Nat → List Int) (t : Int) (i : Nat) (h : PrAt w F p b q) (hl : ∀ i, i < 8 → (q i).length ≤ 1000) (hb : b < 256) (hi : i < 8) (ht : prOf q t 8 = i) (hin : t ∈ q i) :
    Calls Try.prog 30 #[.pointer (some ⟨p, 0, none⟩), .int .i64 t] w (PPr F p (if (keepI t (q i)).length = 0 then clrB b i else b) (upF q i (keepI t (q i))) (.tuple #[.int .i64 i, .int .i64 0]) w) := by
  obtain ⟨b2, hb2⟩ : ∃ b2, b2 = if (keepI t (q i)).length = 0 then clrB b i else b := ⟨_, rfl⟩
  rw [← hb2]
  have HB2 := hid hb2
  clear hb2
  obtain ⟨A, C, G, h⟩ := h
  have hA := (Chg.refl Nil w).alloc (.cells #[.int .i64 t] 3)
  have HH := hid (pat_ok _ F p b q A C G t (h.nil hA) hl)
  rw [ht] at HH
  have HA := hid hA
  have hli := hl i hi
  have hi8 : (i : Int) < 8 := by omega
  have HNQ : Hid (G i ≠ some w.heap.size) := hid (fun hh => by have := (h.sl i hi).lt _ hh; omega)
  have HQ0 := hid (show (w.alloc (.cells #[.int .i64 t] 3)).cell? ⟨w.heap.size, 0, none⟩ = some (.int .i64 t) from (Blk.new w 3 [.int .i64 t]).cell 0)
  have H := hid h
  clear h hl ht hA
  go_enter Try.func30, Try.ntmps30
  go_wp2_with fail
  refine HH.out.mono ?_
  rintro e w1 ⟨rfl, c1⟩
  have hC1 := HA.out.trans c1 (fun _ _ h => h)
  have H1 := H.out.nil hC1
  have d0 := H1.cq i hi
  have f0 : w1.frozen? ⟨p, 1 + i, none⟩ = false := H1.blk.frozen _
  have HQ : Hid (w1.drew.cell? ⟨w.heap.size, 0, none⟩ = some (.int .i64 t)) := (c1.cell (a := ⟨w.heap.size, 0, none⟩) (by simp) (fun h => h)).trans HQ0.out
  have HS : Hid (Sl w1.drew 3 1 (A i) (q i).length (C i) (ints .i64 (q i)) (G i)) := H1.sl i hi
  have HNE := hid (H1.ne i hi)
  have C1 := hid hC1
  have HIN := hid hin
  have hli2 : (q i).length ≤ 4294967296 := by omega
  replace H1 := hid H1
  clear c1 hC1 HH hin
  go_wp2
  go_region_law (go_simp; go_at_call 45; refine (outDel _ _ _ _ (G i) (q i) t _ HS.out hli2 HQ.out HNQ.out HIN.out).mono ?_; rintro e w2 ⟨rfl, q1, q2⟩; have HB1 : Blk w2 p 69 (prCells b A C q) := H1.out.blk.drew.chg q2 HNE.out; have e0 : w2.cell? ⟨p, 1 + i, none⟩ = some (.slice (A i) (q i).length (C i)) := by { rw [HB1.cell, pr_get _ _ _ _ i hi] }; have g0 := HB1.frozen (1 + i); replace HB1 := hid HB1; replace q1 := hid q1; replace q2 := hid q2)
  all_goals
    have hC2 : Chg (Opt (G i)) w1 w2 := ((Chg.refl _ w1).drew).trans q2.out (fun _ _ h => h)
    have hP := H1.out.lay hi hC2 q1.out (fun g hg => .inl hg)
    have hCF : Chg F w (w2.setCell ⟨p, 1 + i, none⟩ (.slice (A i) (keepI t (q i)).length (C i))) := ((C1.out.mono (G := F) (fun _ _ h => h.elim)).trans hC2 (fun k _ hh => H1.out.fg i k hi hh)).setCell (p := ⟨p, 1 + i, none⟩) (.inl H1.out.fp) _
    have hGr : Grew w.heap.size F (Or2 F (Opt (G i))) := by
      rintro k (hF | hG')
      · exact .inl hF
      · exact .inl (H1.out.fg i k hi hG')
    clear e0 g0 d0 f0
    obtain ⟨W, hW⟩ : ∃ W, W = w2.setCell ⟨p, 1 + i, none⟩ (.slice (A i) (keepI t (q i)).length (C i)) := ⟨_, rfl⟩
    rw [← hW] at hP hCF ⊢
    clear hW
    have k0 := hP.c0
    have k1 : W.frozen? ⟨p, 0, none⟩ = false := hP.blk.frozen 0
    have k2 := hP.cq i hi
    rw [upF_same, upF_same, upF_same] at k2
    have HP := hid hP
    have HCF := hid hCF
    have HGR := hid hGr
    have hkl := keepI_len t (q i)
    clear hP hCF hGr hC2
    by_cases hz : (keepI t (q i)).length = 0
    · have hb2 : b2 = clrB b i := by rw [HB2.out, if_pos hz]
      rw [hz] at k2
      obtain ⟨pv1, pv2⟩ := pow_v i hi
      have hor := clr_bit b i hb hi
      rw [← hb2] at hor
      clear hb2
      generalize (2 ^ i : Nat) = B at *
      have hw : IntKind.u32.wrap (B : Int) = (B : Int) := by simp [IntKind.wrap, IntKind.signed, IntKind.bits]; omega
      go_wp2
      go_region
      go_wp2
      go_ret2
      have hfin := (HP.out.nil ((Chg.refl Nil W).drew)).bits b2
      exact ⟨_, rfl, ⟨_, _, _, hfin⟩, (HCF.out.drew).setCell (p := ⟨p, 0, none⟩) (.inl H1.out.fp) _, HGR.out⟩
    · obtain rfl : b2 = b := by rw [HB2.out, if_neg hz]
      have hz2 : (((keepI t (q i)).length : Int) == 0) = false := by rw [beq_eq_false_iff_ne]; omega
      go_wp2
      go_ret2
      exact ⟨_, rfl, ⟨_, _, _, HP.out⟩, HCF.out, HGR.out⟩
end Go.Proofs.Ytipmjfpoglkiaaa
