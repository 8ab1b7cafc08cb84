/- Contracts of the lock that many may hold: Free. Conditions: at most 900 hold it or wait. -/
import Derived.Test.YteiljmjfhafmfaaMany6
import Derived.Test.YteiljmjfhafmfaaDelM
namespace Go.Proofs.Yteiljmjfhafmfaa
open Go.ChangeShapes Go.WideShapes Go.ChangeAt Go.RowKit
set_option linter.unusedVariables false
def PFree (F : Nat → Prop) (p : Nat) (r : MS × List Int) (w : World) (e : Ending) (w' : World) : Prop := ∃ F' a c G, e = .returned (.tuple #[.slice a r.2.length c, .int .i64 0]) ∧ MnAt w' F' p r.1 ∧ Chg F w w' ∧ Grew w.heap.size F F' ∧ OutI w w' F' r.2 a c G
theorem free_fin {w w1 w' : World} {F F1 F' : Nat → Prop} {p : Nat} {r : MS × List Int} {a : Option Addr} {c : Nat} {G : Option Nat} (c1 : Chg F w w1) (g1 : Grew w.heap.size F F1) (h1 : MnAt w' F' p r.1) (h2 : Chg F1 w1 w') (h3 : Grew w1.heap.size F1 F') (h4 : OutI w1 w' F' r.2 a c G) : PFree F p r w (.returned (.tuple #[.slice a r.2.length c, .int .i64 0])) w' := by
  have hs := c1.size
  refine ⟨F', a, c, G, rfl, h1, c1.trans h2 (fun i hi hF => ?_), fun k hk => ?_, h4.sl, fun g hg => by have := h4.fr g hg; omega, h4.no⟩
  · rcases g1 i hF with h | h
    · exact h
    · omega
  · rcases h3 k hk with h | h
    · exact g1 k h
    · exact .inr (by omega)
set_option maxHeartbeats 2000000 in
theorem mfree_w (w : World) (F : Nat → Prop) (p : Nat) (s : MS) (h : MnAt w F p s) (hl : s.rd.length + s.row.length ≤ 900) (t : Int) (t1 : 1 ≤ t) (hw : s.wr = t) :
    Calls Try.prog 9 #[.pointer (some ⟨p, 0, none⟩), .int .i64 t] w (PFree F p (goM s.rd 0 s.row) w) := by
  obtain ⟨a, c, G, b, d, H, h⟩ := h
  have C0 : Chg Nil w (w.alloc (.cells #[.int .i64 t] 3)) := (Chg.refl _ _).alloc _
  have h1 := h.nil C0
  have d1 := h1.c1
  have HQ : (w.alloc (.cells #[.int .i64 t] 3)).cell? ⟨w.heap.size, 0, none⟩ = some (.int .i64 t) := (Blk.new w 3 [.int .i64 t]).cell 0
  rw [hw] at d1
  clear hw
  obtain ⟨w1, hw1⟩ : ∃ w1, w1 = w.alloc (.cells #[.int .i64 t] 3) := ⟨_, rfl⟩
  rw [← hw1] at C0 h1 d1 HQ
  have t0 : 0 < t := by omega
  have HA := hid h1
  have HC := hid C0
  obtain ⟨r, hr⟩ : ∃ r, r = goM s.rd 0 s.row := ⟨_, rfl⟩
  rw [← hr]
  replace hr := hid hr
  clear h h1 C0
  go_enter Try.func9, Try.ntmps9
  go_upto_region 2 with fail
  rw [← hw1]
  clear hw1
  go_quiet (fail)
  have HA2 := HA.out.nil ((Chg.refl Nil w1).drewN nq)
  have HC2 := HC.out.drewN nq
  have e1 : (World.drewN w1 nq).cell? ⟨p, 1, none⟩ = some (.int .i64 s.wr) := HA2.c1
  have f1 := HA2.blk.frozen 1
  clear d1 HQ
  generalize World.drewN w1 nq = W at HA2 HC2 e1 f1 ⊢
  have A := HA2.setW 0
  have CW : Chg F w (W.setCell ⟨p, 1, none⟩ (.int .i64 0)) := (HC2.mono (G := F) (fun _ _ h => h.elim)).setCell (p := ⟨p, 1, none⟩) (.inl HA2.fp) _
  have GO := mgo_ok _ _ p _ ⟨_, _, _, _, _, _, A⟩ (by show s.rd.length + s.row.length ≤ 1000; omega)
  rw [show goM ({ s with wr := 0 } : MS).rd ({ s with wr := 0 } : MS).wr ({ s with wr := 0 } : MS).row = r from hr.out.symm] at GO
  replace CW := hid CW
  clear HA2 HC2 A HA HC
  go_upto_region 6 with fail
  clear e1 f1
  generalize World.setCell W _ _ = W2 at GO CW ⊢
  replace GO := hid GO
  go_wp2_with fail
  refine GO.out.mono ?_
  rintro e w4 ⟨F2, a2, c2, G2, rfl, y1, y2, y3, y4⟩
  have FIN := hid (free_fin CW.out (Grew.refl _ _) y1 y2 y3 y4)
  clear y1 y2 y3 y4 GO
  go_wp2
  go_ret2
  exact FIN.out
set_option maxHeartbeats 2000000 in
theorem mfree_r (w : World) (F : Nat → Prop) (p : Nat) (s : MS) (h : MnAt w F p s) (hl : s.rd.length + s.row.length ≤ 900) (t : Int) (t1 : 1 ≤ t) (hw : s.wr ≠ t) (ht : t ∈ s.rd) :
    Calls Try.prog 9 #[.pointer (some ⟨p, 0, none⟩), .int .i64 t] w (PFree F p (goM (keepI t s.rd) s.wr s.row) w) := by
  obtain ⟨a, c, G, b, d, H, h⟩ := h
  have C0 : Chg Nil w (w.alloc (.cells #[.int .i64 t] 3)) := (Chg.refl _ _).alloc _
  have h1 := h.nil C0
  have d0 := h1.c0
  have d1 := h1.c1
  have KB := Blk.new w 3 [.int .i64 t]
  obtain ⟨q, hq⟩ : ∃ q, q = w.heap.size := ⟨_, rfl⟩
  rw [← hq] at KB
  have hqF : ¬ F q := fun hF => by have := h.lt q hF; omega
  have hb : (s.wr == t) = false := by rw [beq_eq_false_iff_ne]; exact hw
  obtain ⟨w1, hw1⟩ : ∃ w1, w1 = w.alloc (.cells #[.int .i64 t] 3) := ⟨_, rfl⟩
  rw [← hw1] at C0 h1 d1 d0 KB
  have HQ := KB.cell 0
  simp only [List.getElem?_cons_zero] at HQ
  have t0 : 0 < t := by omega
  have HA := hid h1
  have HC := hid C0
  have HKB := hid KB
  have HT := hid ht
  obtain ⟨r, hr⟩ : ∃ r, r = goM (keepI t s.rd) s.wr s.row := ⟨_, rfl⟩
  rw [← hr]
  replace hr := hid hr
  have HNF := hid hqF
  have HQS := hid hq
  clear h h1 C0 KB hw ht hqF hq
  go_enter Try.func9, Try.ntmps9
  go_upto_region 2 with fail
  rw [← hw1, ← HQS.out]
  clear hw1
  go_quiet (fail)
  have HA2 := HA.out.nil ((Chg.refl Nil w1).drewN nq)
  have HC2 := HC.out.drewN nq
  have KB2 := HKB.out.drewN nq
  have HQ2 := KB2.cell 0
  simp only [List.getElem?_cons_zero] at HQ2
  have e0 := HA2.c0
  clear d0 d1 HQ HA HC HKB
  generalize World.drewN w1 nq = W at HA2 HC2 KB2 HQ2 e0 ⊢
  clear nq
  have C1 := fun k => contains_q _ a _ c s.rd t (W.drewN k) (HA2.rd.rd.drewN k) (by omega)
  rw [hasI_true HT.out] at C1
  replace C1 := hid C1
  have HA := hid HA2
  have HC := hid HC2
  have HKB := hid KB2
  clear HA2 HC2 KB2
  go_upto_region 4 with fail
  go_quiet ((go_at_call 14; with_reducible exact Calls.quiet_of_same (C1.out _)))
  have HA2 := HA.out.nil ((Chg.refl Nil W).drewN nq)
  have HC2 := HC.out.drewN nq
  have KB2 := HKB.out.drewN nq
  have HQ3 := KB2.cell 0
  simp only [List.getElem?_cons_zero] at HQ3
  have e1 := HA2.c0
  clear HQ2 e0 HA HC HKB C1
  generalize World.drewN W nq = V at HA2 HC2 KB2 HQ3 e1 ⊢
  clear nq
  have DL := hid (mDel a s.rd.length c q G s.rd t V HA2.rd (by omega) HQ3 (fun hg => HNF.out (HA2.fg q hg)) HT.out)
  have HA := hid HA2
  have HC := hid HC2
  clear HA2 HC2 KB2 HQ3
  go_wp2_with fail
  refine DL.out.mono ?_
  rintro e w4 ⟨rfl, y1, y2⟩
  obtain ⟨u1, u2, u3⟩ := HA.out.setR y2 y1 (fun g hg => .inl hg)
  have f0 : w4.frozen? ⟨p, 0, none⟩ = false := (HA.out.blk.chg y2 HA.out.ng).frozen 0
  have g0 : w4.cell? ⟨p, 0, none⟩ = some (.slice a s.rd.length c) := (HA.out.blk.chg y2 HA.out.ng).cell 0
  have kl := keepI_len t s.rd
  have GO := mgo_ok _ _ p _ ⟨_, _, _, _, _, _, u1⟩ (by show (keepI t s.rd).length + s.row.length ≤ 1000; omega)
  rw [show goM ({ s with rd := keepI t s.rd } : MS).rd ({ s with rd := keepI t s.rd } : MS).wr ({ s with rd := keepI t s.rd } : MS).row = r from hr.out.symm] at GO
  have CW := hid ((HC.out.mono (G := F) (fun _ _ h => h.elim)).trans u2 (fun _ _ h => h))
  have hs := HC.out.size
  have GW : Hid (Grew w.heap.size F (Or2 F (Opt G))) := hid (fun k hk => by
    rcases u3 k hk with h | h
    · exact .inl h
    · exact .inr (by omega))
  clear y1 y2 u1 u2 u3 e1 hs DL
  go_upto_region 6 with fail
  clear f0 g0
  generalize World.setCell w4 _ _ = W2 at GO CW ⊢
  replace GO := hid GO
  go_wp2_with fail
  refine GO.out.mono ?_
  rintro e w5 ⟨F2, a2, c2, G2, rfl, y1, y2, y3, y4⟩
  have FIN := hid (free_fin CW.out GW.out y1 y2 y3 y4)
  clear y1 y2 y3 y4 GO
  go_wp2
  go_ret2
  exact FIN.out
theorem mfree_no (w : World) (F : Nat → Prop) (p : Nat) (s : MS) (h : MnAt w F p s) (hl : s.rd.length + s.row.length ≤ 900) (t : Int) (t1 : 1 ≤ t) (hw : s.wr ≠ t) (ht : t ∉ s.rd) :
    Calls Try.prog 9 #[.pointer (some ⟨p, 0, none⟩), .int .i64 t] w fun e w' => e = .returned (.tuple #[.slice none 0 0, .int .i64 8]) ∧ Chg Nil w w' := by
  obtain ⟨a, c, G, b, d, H, h⟩ := h
  have C0 : Chg Nil w (w.alloc (.cells #[.int .i64 t] 3)) := (Chg.refl _ _).alloc _
  have h1 := h.nil C0
  have d0 := h1.c0
  have d1 := h1.c1
  have KB := Blk.new w 3 [.int .i64 t]
  obtain ⟨q, hq⟩ : ∃ q, q = w.heap.size := ⟨_, rfl⟩
  rw [← hq] at KB
  have hb : (s.wr == t) = false := by rw [beq_eq_false_iff_ne]; exact hw
  obtain ⟨w1, hw1⟩ : ∃ w1, w1 = w.alloc (.cells #[.int .i64 t] 3) := ⟨_, rfl⟩
  rw [← hw1] at C0 h1 d1 d0 KB
  have HQ := KB.cell 0
  simp only [List.getElem?_cons_zero] at HQ
  have t0 : 0 < t := by omega
  have HA := hid h1
  have HC := hid C0
  have HKB := hid KB
  have HT := hid ht
  have HQS := hid hq
  clear h h1 C0 KB hw ht hq
  go_enter Try.func9, Try.ntmps9
  go_upto_region 2 with fail
  rw [← hw1, ← HQS.out]
  clear hw1
  go_quiet (fail)
  have HA2 := HA.out.nil ((Chg.refl Nil w1).drewN nq)
  have HC2 := HC.out.drewN nq
  have KB2 := HKB.out.drewN nq
  have HQ2 := KB2.cell 0
  simp only [List.getElem?_cons_zero] at HQ2
  have e0 := HA2.c0
  clear d0 d1 HQ HA HC HKB
  generalize World.drewN w1 nq = W at HA2 HC2 KB2 HQ2 e0 ⊢
  clear nq
  have C1 := fun k => contains_q _ a _ c s.rd t (W.drewN k) (HA2.rd.rd.drewN k) (by omega)
  rw [hasI_false HT.out] at C1
  replace C1 := hid C1
  have HC := hid HC2
  clear HA2 HC2 KB2
  go_upto_region 4 with fail
  go_quiet ((go_at_call 14; with_reducible exact Calls.quiet_of_same (C1.out _)))
  go_wp2
  go_ret2
  exact ⟨rfl, HC.out.drewN _⟩
end Go.Proofs.Yteiljmjfhafmfaa
