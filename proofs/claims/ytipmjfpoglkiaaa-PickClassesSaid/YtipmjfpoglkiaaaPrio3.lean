/- More contracts of package prio: Turn, First. Conditions: at most 999 tasks in each queue; the bits are of eight priorities. -/
import Derived.Test.YtipmjfpoglkiaaaPrio2
namespace Go.Proofs.Ytipmjfpoglkiaaa
open Go.ChangeShapes Go.WideShapes Go.ChangeAt Go.RowKit
set_option linter.unusedVariables false
theorem pturn_none (w : World) (F : Nat → Prop) (p b : Nat) (q : Nat → List Int) (v : Nat) (h : PrAt w F p b q) (hv : v < 8) (hq : q v = []) :
    Calls Try.prog 27 #[.pointer (some ⟨p, 0, none⟩), .int .i64 (v : Int)] w fun e w' => e = .returned (.int .i64 4) ∧ w = w' := by
  obtain ⟨A, C, G, h⟩ := h
  have hc := h.cq v hv
  rw [hq] at hc
  simp only [List.length_nil] at hc
  have hv8 : (v : Int) < 8 := by omega
  clear h hq
  go_enter Try.func27, Try.ntmps27
  go_wp2
  go_ret
  exact ⟨rfl, rfl⟩
theorem pturn_fin {w W1 w3 : World} {F : Nat → Prop} {p b v c' : Nat} {q : Nat → List Int} {A : Nat → Option Addr} {C : Nat → Nat} {G : Nat → Option Nat} {G1 G' : Option Nat} {a' : Option Addr} {r : List Int} {t : Int} (h : PA w F p b q A C G) (hv : v < 8) (hC1 : Chg Nil w W1) (hG : ∀ g, G1 = some g → w.heap.size ≤ g) (y1 : Sl w3 3 1 a' (r.length + 1) c' (ints .i64 r ++ ints .i64 [t]) G') (y2 : Chg (Opt G1) W1 w3) (y3 : G' = G1 ∨ G' = some W1.heap.size) (V : Value) :
    PPr F p b (upF q v (r ++ [t])) V w (.returned V) (w3.setCell ⟨p, 1 + v, none⟩ (.slice a' (r.length + 1) c')) := by
  have hc : Chg Nil w w3 := hC1.trans y2 (fun i hi h => by have := hG i h; omega)
  have hs2 : Sl w3 3 1 a' (r ++ [t]).length c' (ints .i64 (r ++ [t])) G' := sl_push rfl y1
  have hG2 : ∀ g, G' = some g → w.heap.size ≤ g := fun g hg => by
    rcases y3 with h3 | h3 <;> rw [h3] at hg
    · exact hG g hg
    · injection hg with hg; have := hC1.size; omega
  have hP := h.lay hv (hc.mono (fun _ _ h => h.elim)) hs2 (fun g hg => .inr (hG2 g hg))
  have e : (r ++ [t]).length = r.length + 1 := by simp
  rw [e] at hP
  refine ⟨_, rfl, ⟨_, _, _, hP⟩, (hc.mono (fun _ _ h => h.elim)).setCell (p := ⟨p, 1 + v, none⟩) (.inl h.fp) _, ?_⟩
  rintro k (hF | hG')
  · exact .inl hF
  · exact .inr (hG2 k hG')
set_option maxHeartbeats 2000000 in
theorem pturn_ok (w : World) (F : Nat → Prop) (p b : Nat) (q : Nat → List Int) (t : Int) (r : List Int) (v : Nat) (h : PrAt w F p b q) (hl : (q v).length ≤ 999) (hv : v < 8) (hq : q v = t :: r) :
    Calls Try.prog 27 #[.pointer (some ⟨p, 0, none⟩), .int .i64 (v : Int)] w (PPr F p b (upF q v (r ++ [t])) (.int .i64 0) w) := by
  obtain ⟨A, C, G, h⟩ := h
  have hc := h.cq v hv
  have hS := h.sl v hv
  rw [hq] at hc hS hl
  simp only [List.length_cons] at hc hS hl
  have hR := hS.rd
  have hD := hR.drop_n (k := 1) (by omega)
  have hrun := run_from eInt (A v) (r.length + 1) (C v) 1 1 rfl (by omega)
  have hv8 : (v : Int) < 8 := by omega
  have hl0 : ((r.length : Int) + 1 = 0) = False := by simp; omega
  obtain ⟨g, off, ha, hr2, hr3, hr4⟩ := hR.2.2.2 (by omega)
  have hcl0 := hr4 0 (by simp)
  rw [ha] at hc
  rw [ha] at hrun hD
  simp [ints] at hcl0
  have hD2 : Rd w (Opt (G v)) 1 (adv (some ⟨g, off, none⟩) (C v) 1 1) r.length (C v - 1) (ints .i64 r) := by simpa [ints] using hD
  have HNE := hid (h.ne v hv)
  have hr63 : r.length ≤ 4294967296 := by omega
  have hr64 : r.length + 1 ≤ 4294967296 := by omega
  have h8 : 8 ≤ 4096 := by omega
  have hcA : (w.alloc (.cells #[.int .i64 t] 3)).cell? ⟨p, 1 + v, none⟩ = some (.slice (some ⟨g, off, none⟩) (r.length + 1) (C v)) := by
    have := (h.blk.alloc (.cells #[.int .i64 t] 3)).cell (1 + v)
    rw [this, pr_get _ _ _ _ v hv, ha, hq]; rfl
  have HX : Hid (∀ w1, Chg Nil w w1 → PA w1 F p b q A C G ∧ w1.cell? ⟨p, 1 + v, none⟩ = some (.slice (some ⟨g, off, none⟩) (r.length + 1) (C v)) ∧ w1.cell? ⟨g, off, none⟩ = some (.int .i64 t)) := hid (fun w1 c1 => by
    have hh := h.nil c1
    refine ⟨hh, ?_, ?_⟩
    · rw [hh.cq v hv, ha, hq]; rfl
    · have h5 := ((hh.sl v hv).rd)
      rw [hq, ha] at h5
      obtain ⟨g', off', e1, _, _, e4⟩ := h5.2.2.2 (by simp)
      injection e1 with e1
      injection e1 with e1 e2
      subst e1 e2
      simpa [ints] using e4 0 (by simp))
  have H := hid h
  have HD := hid hD2
  clear h hS hR hD hD2 hr2 hr3 hr4 ha hq
  go_enter Try.func27, Try.ntmps27
  go_wp2
  go_region_law (first
    | (refine step_append_sl rfl _ _ eInt rfl rfl rfl HS.out HN.out (ints_one _ _) hr64 h8 ?_; intro a' c' w3 G' y1 y2 y3; have HB2 := HB1.out.chg y2 HN2.out; have e1 : w3.cell? ⟨p, 1 + v, none⟩ = some (.slice (A v) (q v).length (C v)) := by { rw [HB2.cell, pr_get _ _ _ _ v hv] }; have g1 := HB2.frozen (1 + v); replace HB2 := hid HB2; replace y1 := hid y1; replace y2 := hid y2; replace y3 := hid y3)
    | (go_simp; go_at_call 43; refine (clone_int _ _ _ _ _ _ (HD.out.drewN 1) (ints_one _ _) hr63).mono ?_; rintro e w1 ⟨a1, d1, G1, rfl, q1, q2, q3⟩; have hC0 := ((Chg.refl Nil w).drew).trans q2 (fun _ _ h => h); have HC1 := hid (hC0.alloc (.cells #[.int .i64 t] 3)); obtain ⟨x1, x2, x3⟩ := HX.out w1 hC0; obtain ⟨y1, y2, y3⟩ := HX.out _ HC1.out; have HB1 := hid y1.blk; have HN2 := hid (q1.ne_blk x1.blk (by decide)); have HS := hid (q1.alloc (.cells #[.int .i64 t] 3)); have HN := hid (Rd.of_blk (n := 1) (s := 1) (Blk.new w1 3 (ints .i64 [t])) rfl (by decide)); replace x1 := hid x1; clear y1 y3; replace q3 := hid q3)
    | (go_simp; go_at_call 43; refine (clone_int _ _ _ _ _ _ ((HD.out.drewN 1).alloc (.cells #[.int .i64 t] 3)) (ints_one _ _) hr63).mono ?_; rintro e w1 ⟨a1, d1, G1, rfl, q1, q2, q3⟩; have HC1 := hid ((((Chg.refl Nil w).drew).alloc (.cells #[.int .i64 t] 3)).trans q2 (fun _ _ h => h)); obtain ⟨x1, x2, x3⟩ := HX.out w1 HC1.out; have HB1 := hid x1.blk; have HN2 := hid (q1.ne_blk x1.blk (by decide)); have HS := hid q1; have HN := hid ((Rd.of_blk (n := 1) (s := 1) (Blk.new w.drew 3 (ints .i64 [t])) rfl (by decide)).chg q2 (fun _ _ _ h => h)); replace x1 := hid x1; replace q3 := hid q3))
  all_goals
    have hfin := hid (pturn_fin H.out hv HC1.out (fun g hg => by have := q3.out g hg; simp at this; omega) y1.out y2.out y3.out (.int .i64 0))
    go_wp2
    go_ret
    exact hfin.out
end Go.Proofs.Ytipmjfpoglkiaaa
