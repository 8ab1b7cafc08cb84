/- Contract of Drop of package sleep. Condition: the task is there. -/
import Derived.Test.YthbkmjigplolgaaLockT
import Derived.Test.YthbkmjigplolgaaLockX
namespace Go.Proofs.Ythbkmjigplolgaa
open Go.ChangeShapes Go.WideShapes Go.ChangeAt Go.RowKit
set_option linter.unusedVariables false
/-- delete, as a step of a region that draws its order. -/
theorem step_drop {P : Program} {w : World} {ops : Array Oper} {o : Oper} {a : Act} {K : Act → World → Prop} {Q : Exit → Act → World → Prop} {E : Prop} (hg : o.guard = none) (m x : Operand) (t k : TypeId) (hop : o.op = Op.call { callee := Callee.builtin Builtin.delete, args := #[m, x], argTypes := #[t, k] }) {e : TypeId} (hk : P.underlying k = some (.int .i64)) (ht : P.underlying t = some (.map k e)) (b n : Nat) (f : Int → Option Value)
    (hm : a.eval m = .map (some b)) (h : MpAt w P k b n f) (i : Int) (hx : a.eval x = .int .i64 i) (hi : (Lit.int .i64 i).wf = true)
    (hK : ∀ w', MpAt w' P k b n (updM f i none) → Chg (One b) w w' → K (a.put o.dst (.tuple #[])) w') :
    if Region.wanted o (yielded ops a.tmps) = true then Oper.wp P o a w K Q else E := by
  have hw : Region.wanted o (yielded ops a.tmps) = true := by simp [Region.wanted, hg]
  rw [if_pos hw]
  obtain ⟨w', hrun, r1, r2⟩ := h.drop hk ht i hi o.type
  unfold Oper.wp
  simp [execOp, hop, resolve, invoke, builtin, hm, hx, hrun, Result.andThen]
  exact hK w' r1 r2
theorem forF_drop {n : Nat} {o : Nat → Int} {q : Nat → List Int} (h : LkS n o q) {i : Nat} (hi : i < 16) {t : Int} (ht : t ∈ q i) {l : List Int} (hS : LkS n o (upN q i l)) (hl : ∀ x, x ∈ l ↔ x ∈ q i ∧ x ≠ t) : updM (forF q) t none = forF (upN q i l) := by
  funext s
  unfold updM
  by_cases hst : s = t
  · rw [if_pos hst]
    have : waitK (upN q i l) s = none := waitK_none.2 (fun k hk hin => by
      by_cases e : k = i
      · subst e; rw [upN_same] at hin; exact ((hl s).1 hin).2 hst
      · rw [upN_ne _ _ e, hst] at hin; exact e (h.uniq k i t hk hi hin ht))
    unfold forF
    rw [this]; rfl
  · rw [if_neg hst]
    unfold forF
    congr 1
    apply Option.ext
    intro k
    show waitK q s = some k ↔ waitK (upN q i l) s = some k
    rw [waitK_some h, waitK_some hS]
    by_cases e : k = i
    · subst e; rw [upN_same, hl]; simp [hst]
    · rw [upN_ne _ _ e]
section
variable (w : World) (F : Nat → Prop) (p n : Nat) (pr : Int → Int) (o : Nat → Int) (q : Nat → List Int) (t : Int) (k : Nat)
set_option maxRecDepth 100000 in
theorem ldrop_state (h : LkAt w F p n pr o q) (h1 : 1 ≤ t) (h2 : t ≤ n) (hw : waitK q t = none) :
    Calls Try.prog 20 #[.pointer (some ⟨p, 0, none⟩), .int .i64 t] w fun e w' => e = .returned (.int .i64 8) ∧ Chg Nil w w' := by
  have h' := h.nil ((Chg.refl Nil w).alloc (.cells #[.int .i64 t] 3))
  obtain ⟨A, C, G, pm, fm, h⟩ := h'
  have d0 := h.cp
  have d1 := h.cf
  have lk1 := fun m => (h.mp.drewN m).look_ok (t := 36) Try.underlying3 Try.underlying36 (zeroIntL _) t (h.wfT h1 h2)
  have lk2 := fun m => (h.mf.drewN m).look_ok (t := 36) Try.underlying3 Try.underlying36 (zeroIntL _) t (h.wfT h1 h2)
  have e1 : prioF n pr t = some (.int .i64 (pr t)) := if_pos ⟨h1, h2⟩
  have e2 : forF q t = none := by unfold forF; rw [hw]; rfl
  rw [e1] at lk1
  rw [e2] at lk2
  simp only [Option.getD_some, Option.isSome_some, Option.getD_none, Option.isSome_none] at lk1 lk2
  clear h e1 e2 hw
  go_enter Try.func20, Try.ntmps20
  go_wp2
  go_quiet (fail)
  go_wp2
  go_quiet (fail)
  go_wp2
  go_ret
  exact ⟨rfl, ((Chg.refl Nil w).alloc _).drewN _⟩
set_option maxRecDepth 100000 in
set_option maxHeartbeats 1000000 in
theorem ldrop_ok (h : LkAt w F p n pr o q) (h1 : 1 ≤ t) (h2 : t ≤ n) (hw : waitK q t = some k) :
    Calls Try.prog 20 #[.pointer (some ⟨p, 0, none⟩), .int .i64 t] w fun e w' => e = .returned (.int .i64 0) ∧ ∃ F', LkAt w' F' p n pr o (upN q k (keepI t (q k))) ∧ Chg F w w' ∧ Grew w.heap.size F F' := by
  have hln := lrow_len w F p n pr o q k h ((waitK_some h.s).1 hw).1
  have c0 := (Chg.refl Nil w).alloc (.cells #[.int .i64 t] 3)
  have hbx : (w.alloc (.cells #[.int .i64 t] 3)).cell? ⟨w.heap.size, 0, none⟩ = some (.int .i64 t) := (Blk.new w 3 [.int .i64 t]).cell 0
  obtain ⟨A, C, G, pm, fm, h0⟩ := h
  have h := h0.nil c0
  obtain ⟨hk, hin⟩ := (waitK_some h.s).1 hw
  have d0 := h.cp
  have d1 := h.cf
  have d2 := h.cq k hk
  have lk1 := fun m => (h.mp.drewN m).look_ok (t := 36) Try.underlying3 Try.underlying36 (zeroIntL _) t (h.wfT h1 h2)
  have lk2 := fun m => (h.mf.drewN m).look_ok (t := 36) Try.underlying3 Try.underlying36 (zeroIntL _) t (h.wfT h1 h2)
  have e1 : prioF n pr t = some (.int .i64 (pr t)) := if_pos ⟨h1, h2⟩
  have e2 : forF q t = some (.int .i64 (k : Int)) := by unfold forF; rw [hw]; rfl
  rw [e1] at lk1
  rw [e2] at lk2
  simp only [Option.getD_some, Option.isSome_some] at lk1 lk2
  have hk2 : (k : Int) < 16 := by omega
  have hsub : (keepI t (q k)).Sublist (q k) := List.filter_sublist
  have hS := hid (h.s.drop hk hsub)
  have hFD := hid (forF_drop h.s hk hin hS.out (fun x => keepI_mem))
  have HNQ : Hid (G k ≠ some w.heap.size) := hid (fun hh => by have := (h0.sl k hk).lt _ hh; omega)
  have hwf := hid (h.wfT h1 h2)
  have HIN := hid hin
  have HPW : Hid (p ≠ w.heap.size) := hid (fun hh => by have := h0.blk.lt; omega)
  have H := hid h
  have HBX := hid hbx
  have hli2 : (q k).length ≤ 4294967296 := by omega
  have C0 := hid c0
  clear h e1 e2 hw hin c0 hsub h0
  go_enter Try.func20, Try.ntmps20
  go_wp2
  go_quiet (fail)
  obtain ⟨n1, rfl⟩ : ∃ n1, n1 = nq := ⟨_, rfl⟩
  go_wp2
  go_quiet (fail)
  go_wp2
  have HW0 := H.out.nil ((Chg.refl Nil _).drewN (n1 + nq))
  have CW0 := C0.out.drewN (n1 + nq)
  have HB0 : ((w.alloc (.cells #[.int .i64 t] 3)).drewN (n1 + nq)).cell? ⟨w.heap.size, 0, none⟩ = some (.int .i64 t) := HBX.out
  have hsz0 : w.heap.size < ((w.alloc (.cells #[.int .i64 t] 3)).drewN (n1 + nq)).heap.size := by simp [World.drewN]
  obtain ⟨W, hW⟩ : ∃ W, W = (w.alloc (.cells #[.int .i64 t] 3)).drewN (n1 + nq) := ⟨_, rfl⟩
  rw [← hW] at HW0 CW0 HB0 hsz0 ⊢
  have HW := hid HW0
  have CW := hid CW0
  have HQ : Hid (W.drew.cell? ⟨w.heap.size, 0, none⟩ = some (.int .i64 t)) := hid HB0
  have hsz := hid hsz0
  have x0 : W.cell? ⟨p, 17 + k, none⟩ = some (.slice (A k) (q k).length (C k)) := HW0.cq k hk
  have f0 : W.frozen? ⟨p, 17 + k, none⟩ = false := HW0.blk.frozen _
  have HS : Hid (Sl W.drew 3 1 (A k) (q k).length (C k) (ints .i64 (q k)) (G k)) := hid (HW0.sl k hk)
  have HNE := hid (HW0.gn k hk)
  clear hW HW0 CW0 HB0 hsz0 d0 d1 d2 lk1 lk2 hbx
  go_region_law (go_simp; go_at_call 23; refine (outDel _ _ _ _ (G k) (q k) t _ HS.out hli2 HQ.out HNQ.out HIN.out).mono ?_; rintro e w2 ⟨rfl, q1, q2⟩; have HB1 : Blk w2 p 70 (lkCells pm o A C q fm) := HW.out.blk.drew.chg q2 HNE.out; have e0 : w2.cell? ⟨p, 17 + k, none⟩ = some (.slice (A k) (q k).length (C k)) := by { rw [HB1.cell, lk_row _ _ _ _ _ _ k hk] }; have g0 := HB1.frozen (17 + k); replace HB1 := hid HB1; replace q1 := hid q1; replace q2 := hid q2)
  all_goals
    have hC2 : Chg (Opt (G k)) W w2 := ((Chg.refl _ W).drew).trans q2.out (fun _ _ h => h)
    obtain ⟨W2, hW2⟩ : ∃ W2, W2 = w2.setCell ⟨p, 17 + k, none⟩ (.slice (A k) (keepI t (q k)).length (C k)) := ⟨_, rfl⟩
    have hst : Chg (One p) w2 W2 := by rw [hW2]; exact (Chg.refl (One p) w2).setCell (p := ⟨p, 17 + k, none⟩) (.inl (show One p p from rfl)) _
    have hMW : MpAt W2.drew Try.prog 3 fm 16 (forF q) := ((HW.out.mf.chg hC2 (fun hh => HW.out.gf k hk hh)).chg hst (fun hh => HW.out.pf hh)).drewN 1
    have dW : W2.cell? ⟨p, 33, none⟩ = some (.map (some fm)) := by
      have hbW := HB1.out.set (17 + k) (.slice (A k) (keepI t (q k)).length (C k))
      rw [lk_set_row _ _ _ _ _ _ k hk, ← hW2] at hbW
      rw [hbW.cell, lk_for]
    have bW : W2.cell? ⟨w.heap.size, 0, none⟩ = some (.int .i64 t) := by
      have hb1 : W.cell? ⟨w.heap.size, 0, none⟩ = some (.int .i64 t) := HQ.out
      have hpl := H.out.blk.lt
      have h3 : w2.cell? ⟨w.heap.size, 0, none⟩ = some (.int .i64 t) := (hC2.cell (a := ⟨w.heap.size, 0, none⟩) hsz.out (fun hh => HNQ.out hh)).trans hb1
      exact (hst.cell (a := ⟨w.heap.size, 0, none⟩) (Nat.lt_of_lt_of_le hsz.out hC2.size) (fun hh => HPW.out (show w.heap.size = p from hh).symm)).trans h3
    rw [← hW2]
    replace hW2 := hid hW2
    replace hst := hid hst
    replace hC2 := hid hC2
    replace hMW := hid hMW
    clear e0 g0 x0 f0
    go_wp2
    go_region_law (refine step_drop rfl _ _ 36 3 rfl (e := 3) Try.underlying3 Try.underlying36 fm 16 _ rfl hMW.out t rfl hwf.out ?_; intro w5 m1 m2; replace m1 := hid m1; replace m2 := hid m2)
    all_goals
      go_wp2
      go_ret
      have hm := m1.out
      rw [hFD.out] at hm
      have hm2 : Chg (One fm) W2 w5 := ((Chg.refl (One fm) W2).drew).trans m2.out (fun _ _ h => h)
      rw [hW2.out] at hm2
      obtain ⟨z1, z2, z3⟩ := HW.out.lay hk hC2.out q1.out (fun g hg => .inl hg) hm hm2 hS.out
      exact ⟨rfl, _, ⟨_, _, _, _, _, z1⟩, CW.out.mono (fun _ _ h => h.elim) |>.trans z2 (fun _ _ h => h), fun j hj => (z3 j hj).imp id (fun h => Nat.le_trans CW.out.size h)⟩
end
end Go.Proofs.Ythbkmjigplolgaa
