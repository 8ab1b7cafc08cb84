/- The contract of slices.Insert of one timer. Conditions: at most 4294967295 timers · Contracts of package wheel: New, find, Next. Conditions: at most 1000 timers. -/
import Derived.Test.YtjllklddjkkddaaGreatDoorZ04
import Derived.Test.YtjllklddjkkddaaGreatDoorZ07
import Derived.RegionTactic
import Derived.BigRegion
import Derived.Deep.RegionLaw
import Derived.Deep.QuietTactic
import Derived.BigQuiet
namespace Go.Proofs.YtjllklddjkkddaaGreatDoor
open Go.ChangeShapes Go.WideShapes Go.ChangeAt Go.RowKit
set_option linter.unusedVariables false
/-- A timer: when it is due, and whose it is. -/
structure Tm where
  at_ : Int
  id : Int
def tm (x : Tm) : List Value := [.int .u32 x.at_, .int .i64 x.id]
theorem tm_len (x : Tm) : (tm x).length = 2 := rfl
theorem tm_one (l : List Tm) : ∀ u ∈ l.flatMap tm, u.oneCell' = true := flat_one tm (fun x u hu => by simp only [tm, List.mem_cons, List.not_mem_nil, or_false] at hu; rcases hu with rfl | rfl <;> rfl) l
theorem eTimer : ETy Tryz.prog 165 275 2 16 := ⟨Tryz.underlying165, info_of (z := .agg #[.int .u32 0, .int .i64 0]) (by kernel_rfl) (by kernel_rfl), by decide⟩
/-- x is put in at place i. -/
def insAt (l : List Tm) (i : Nat) (x : Tm) : List Tm := l.take i ++ [x] ++ l.drop i
theorem insAt_len (l : List Tm) (i : Nat) (x : Tm) (h : i ≤ l.length) : (insAt l i x).length = l.length + 1 := by simp [insAt]; omega
theorem insAt_flat (l : List Tm) (i : Nat) (x : Tm) : (insAt l i x).flatMap tm = (l.flatMap tm).take (i * 2) ++ tm x ++ (l.flatMap tm).drop (i * 2) := by
  rw [flat_take tm 2 tm_len, flat_drop tm 2 tm_len, insAt, List.flatMap_append, List.flatMap_append]
  simp
theorem blk_shape {w : World} {g : Nat} {t : TypeId} {cs : List Value} (h : Blk w g t cs) : w.shape? g = some (t, cs.length) := by
  unfold Blk at h
  simp [World.shape?, h]
def InsPost (w : World) (l : List Tm) (i : Nat) (x : Tm) (G : Option Nat) (e : Ending) (w' : World) : Prop :=
  ∃ a' c' G', e = .returned (.slice a' (l.length + 1) c') ∧ Sl w' 275 2 a' (l.length + 1) c' ((insAt l i x).flatMap tm) G' ∧ Chg (Opt G) w w' ∧ ∀ g, G' = some g → G = some g ∨ w.heap.size ≤ g
section
variable {P : Program}
theorem wp_copy_run (w : World) {o : Oper} {a : Act} {K : Act → World → Prop} {Q : Exit → Act → World → Prop} (d s : Operand) (t t' : TypeId)
    (ho : o.op = .call { callee := .builtin .copy, args := #[d, s], argTypes := #[t, t'] }) (v u : Value) (hd : a.eval d = v) (hs : a.eval s = u) {v' : Value} {w' : World}
    (hr : (Builtin.copy_ #[t, t'] o.type #[v, u]).run P w = .ok v' w') (h : K (a.put o.dst v') w') : o.wp P a w K Q := by
  unfold Oper.wp execOp
  simp only [ho, resolve, invoke, builtin, Sem.run_bind, Sem.run_pure, Result.andThen_ok, List.map_toArray, List.map_cons, List.map_nil, hd, hs, hr]
  exact h
theorem wpList_copy_run (w : World) {ops : Array Oper} {rest : List Oper} {o : Oper} {a : Act} {Q : Exit → Act → World → Prop} (hgd : o.guard = none) (d s : Operand) (t t' : TypeId)
    (ho : o.op = .call { callee := .builtin .copy, args := #[d, s], argTypes := #[t, t'] }) (v u : Value) (hd : a.eval d = v) (hs : a.eval s = u) {v' : Value} {w' : World}
    (hr : (Builtin.copy_ #[t, t'] o.type #[v, u]).run P w = .ok v' w') (h : wpList P ops Q rest (a.put o.dst v') w') : wpList P ops Q (o :: rest) a w :=
  wpList_plain hgd fun _ hK => wp_copy_run w d s t t' ho v u hd hs hr (hK _ _ h)
theorem step_copy_run {ops : Array Oper} {o : Oper} {a : Act} {w : World} {K : Act → World → Prop} {Q : Exit → Act → World → Prop} {E : Prop}
    (hg : o.guard = none) (d x : Operand) (dT sT : TypeId) (hop : o.op = Op.call { callee := Callee.builtin Builtin.copy, args := #[d, x], argTypes := #[dT, sT] })
    (v u : Value) (hd : a.eval d = v) (hx : a.eval x = u) {v' : Value} {w' : World} (hr : (Builtin.copy_ #[dT, sT] o.type #[v, u]).run P w = .ok v' w') (hK : K (a.put o.dst v') w') :
    if Region.wanted o (yielded ops a.tmps) = true then Oper.wp P o a w K Q else E := by
  have hw : Region.wanted o (yielded ops a.tmps) = true := by simp [Region.wanted, hg]
  rw [if_pos hw]
  exact wp_copy_run w d x dT sT hop v u hd hx hr hK
end
set_option maxHeartbeats 2000000 in
set_option maxRecDepth 100000 in
theorem tins_end (a : Option Addr) (c vb : Nat) (l : List Tm) (x : Tm) (G : Option Nat) (w : World) (h : Sl w 275 2 a l.length c (l.flatMap tm) G) (hv : Blk w vb 275 (tm x)) (hn : l.length ≤ 4294967295) :
    Calls Tryz.prog 256 #[.slice a l.length c, .int .i64 (l.length : Int), .slice (some ⟨vb, 0, none⟩) 1 1] w (InsPost w l l.length x G) := by
  have H := hid h
  have HN := hid (Rd.of_blk (n := 1) (s := 2) hv rfl (by decide))
  have hsl := run_from eTimer a l.length c l.length (l.length : Int) rfl (Nat.le_refl _)
  have hlc : l.length ≤ c := h.1
  have hcm : c ≤ 9223372036854775807 := h.2.1
  have h1 : ∀ u ∈ tm x, u.oneCell' = true := by have := tm_one [x]; simpa using this
  have H1 := hid h1
  clear h hv h1
  go_enter Tryz.func256, Tryz.ntmps256
  go_wp2_with (at_builtin; refine wpList_append_sl rfl _ _ eTimer rfl rfl rfl H.out HN.out H1.out (by omega) (by omega) ?_; intro a' c' w' G' q1 q2 q3; replace q1 := hid q1; replace q2 := hid q2; replace q3 := hid q3)
  go_ret
  have hfl : l.flatMap tm ++ tm x = (insAt l l.length x).flatMap tm := by simp [insAt]
  refine ⟨a', c', G', rfl, by rw [← hfl]; exact q1.out, q2.out, fun g hg => ?_⟩
  rcases q3.out with h3 | h3 <;> rw [h3] at hg
  · exact .inl hg
  · injection hg with hg; exact .inr (by omega)
set_option maxHeartbeats 2000000 in
set_option maxRecDepth 100000 in
theorem tins_shift (a : Option Addr) (c vb i : Nat) (l : List Tm) (x : Tm) (G : Option Nat) (w : World) (h : Sl w 275 2 a l.length c (l.flatMap tm) G) (hv : Blk w vb 275 (tm x)) (hn : l.length ≤ 4294967295) (hG : G ≠ some vb) (hi : i < l.length) (hroom : l.length + 1 ≤ c) :
    Calls Tryz.prog 256 #[.slice a l.length c, .int .i64 (i : Int), .slice (some ⟨vb, 0, none⟩) 1 1] w (InsPost w l i x G) := by
  obtain ⟨g, off, rfl, rfl, hgl⟩ := h.block (by omega)
  have hsl := run_from eTimer (some ⟨g, off, none⟩) l.length c i (i : Int) rfl (by omega)
  have hcm : c ≤ 9223372036854775807 := h.2.1
  have h1 : ∀ u ∈ tm x, u.oneCell' = true := by have := tm_one [x]; simpa using this
  have hgv : vb ≠ g := fun hh => hG (by rw [hh])
  obtain ⟨_, _, hxl, ⟨_, hbad⟩ | ⟨g', off', cur, r1, r2, r3, r4, r5⟩⟩ := id h
  · cases hbad
  injection r1 with r1
  injection r1 with r1 r1'
  subst r1; subst r1'
  have hov : ∀ lb cb, (callFunc 307 #[.slice (some ⟨vb, 0, none⟩) 1 1, .slice (some ⟨g, off + (i + 1) * 2, none⟩) lb cb]).run Tryz.prog w = .ok (.value (.bool false)) w := fun lb cb => by
    rw [run_callFunc_extern Tryz.func307 (by kernel_rfl) (by kernel_rfl) (by kernel_rfl) (e := Extern.SlicesOverlaps.overlaps #[165, 165] #[4]) (by kernel_rfl),
      Lib.run_overlaps_apart w 165 4 275 eTimer.under 2 (fun _ => by kernel_rfl) ⟨vb, 0, none⟩ ⟨g, off + (i + 1) * 2, none⟩ 1 1 lb cb hgv _ _ _ _ (blk_shape hv) (show w.shape? g = some (275, cur.size) by simp [World.shape?, r3]) (by omega) (hv.frozen 0) (hv.frozen _)]
    rfl
  have hci : ¬ (c = i) := by omega
  have hci1 : ¬ (c = i + 1) := by omega
  have had : adv (some (⟨g, off, none⟩ : Addr)) c i 2 = some ⟨g, off + i * 2, none⟩ := by simp [adv, hci, add_off]
  have hdl : ((l.flatMap tm).drop (i * 2)).length = (l.length - i) * 2 := by rw [List.length_drop, hxl]; omega
  have hin : ∀ j, j < c * 2 → (w.cell? ⟨g, off + j, none⟩).isSome = true := fun j hj => by rw [cell_in w r3, Array.getElem?_eq_getElem (by omega)]; rfl
  have hfz : ∀ j, w.frozen? ⟨g, j, none⟩ = false := fun j => by simp [World.frozen?, r3]
  have hcp1 : ∀ ty dc sc, (Builtin.copy_ #[165, 165] ty #[.slice (some ⟨g, off + (i + 1) * 2, none⟩) (l.length - i) dc, .slice (some ⟨g, off + i * 2, none⟩) (l.length + 1 - i) sc]).run Tryz.prog w.drew = .ok (goInt (Nat.min (l.length + 1 - i) (l.length - i))) (w.drew.setCells g (off + (i + 1) * 2) ((l.flatMap tm).drop (i * 2))) := fun ty dc sc => by
    refine run_copy_s w.drew _ _ ty eTimer g (off + (i + 1) * 2) _ dc ⟨g, off + i * 2, none⟩ _ sc _ (by rw [hdl]; congr 1; simp only [Nat.min_def]; split <;> omega) (fun j v hj => ?_) (fun j hj => ?_) (fun j hj => hfz _) (fun v hv => tm_one l v (List.mem_of_mem_drop hv))
    · rw [List.getElem?_drop] at hj
      have hjl := (List.getElem?_eq_some_iff.1 hj).1
      rw [add_off, ← hj, Nat.add_assoc]
      exact (cell_in w r3).trans (r5 _ (by omega))
    · rw [hdl] at hj
      rw [Nat.add_assoc]
      exact hin _ (by omega)
  obtain ⟨hS, hC⟩ := (h.drewN 1).shift (by omega) hi hroom (tm_len x)
  rw [← insAt_flat] at hS
  have hcp2 : ∀ ty dc, (Builtin.copy_ #[165, 165] ty #[.slice (some ⟨g, off + i * 2, none⟩) (l.length + 1 - i) dc, .slice (some ⟨vb, 0, none⟩) 1 1]).run Tryz.prog (w.drew.setCells g (off + (i + 1) * 2) ((l.flatMap tm).drop (i * 2))) = .ok (goInt 1) ((w.drew.setCells g (off + (i + 1) * 2) ((l.flatMap tm).drop (i * 2))).setCells g (off + i * 2) (tm x)) := fun ty dc => by
    obtain ⟨cur1, c1, c2, _⟩ := set_row3 w.drew (show w.drew.heap[g]? = _ from r3) ((l.flatMap tm).drop (i * 2)) (off + (i + 1) * 2) (by rw [hdl]; omega)
    have hv2 : Blk (w.drew.setCells g (off + (i + 1) * 2) ((l.flatMap tm).drop (i * 2))) vb 275 (tm x) := hv.drew.chg (setCells_chg w.drew g (off + (i + 1) * 2) ((l.flatMap tm).drop (i * 2)) (One g) rfl) (fun hh => hgv hh)
    exact copy_sl _ _ _ ty eTimer c1 _ dc (Rd.of_blk (n := 1) (s := 2) hv2 rfl (by decide)) (by omega) (by omega) (by omega) h1
  have HS := hid hS
  have HC := hid hC
  have hw1 : IntKind.i64.wrap ((i : Int) + 1) = (i : Int) + 1 := IntWalk.i64_in _ (by omega)
  have htn : ((i : Int) + 1).toNat = i + 1 := by omega
  have hb1 : (0 : Int) ≤ (i : Int) + 1 := by omega
  have hb3 : (i : Int) ≤ (l.length : Int) + 1 := by omega
  have hb5 : (i : Int) + 1 ≤ (l.length : Int) + 1 := by omega
  have hz2 : ¬ ((i : Int) = (l.length : Int)) := by omega
  have hin2 : i ≤ l.length := by omega
  rw [had] at hsl
  clear hS hC h r3 r4 r5 hin hfz hdl
  go_enter Tryz.func256, Tryz.ntmps256
  go_wp2_with (simp only [hov])
  go_region_law (refine step_copy_run rfl _ _ 165 165 rfl _ _ (by simp [Act.eval, Act.put]) (by simp [Act.eval, Act.put]) (hcp1 _ _ _) ?_)
  go_wp2_with (at_builtin; refine wpList_copy_run _ rfl _ _ 165 165 rfl _ _ rfl rfl (hcp2 _ _) ?_)
  go_ret
  exact ⟨_, _, _, rfl, HS.out, ((Chg.refl _ w).drew).trans HC.out (fun _ _ h => h), fun g hg => .inl hg⟩
theorem drew_setCells2 (b : Nat) : ∀ (vs : List Value) (o : Nat) (w : World), (w.setCells b o vs).drew = w.drew.setCells b o vs
  | [], _, _ => rfl
  | v :: vs, o, w => by rw [World.setCells, World.setCells, drew_setCells2 b vs]; rfl
set_option maxHeartbeats 2000000 in
set_option maxRecDepth 100000 in
theorem tins_grow (a : Option Addr) (c vb i : Nat) (l : List Tm) (x : Tm) (G : Option Nat) (w : World) (h : Sl w 275 2 a l.length c (l.flatMap tm) G) (hv : Blk w vb 275 (tm x)) (hn : l.length ≤ 4294967295) (hi : i < l.length) (hroom : c < l.length + 1) :
    Calls Tryz.prog 256 #[.slice a l.length c, .int .i64 (i : Int), .slice (some ⟨vb, 0, none⟩) 1 1] w (InsPost w l i x G) := by
  obtain ⟨g, off, rfl, rfl, hgl⟩ := h.block (by omega)
  have hsl := run_from eTimer (some ⟨g, off, none⟩) l.length c i (i : Int) rfl (by omega)
  have hlc : l.length ≤ c := h.1
  have hcm : c ≤ 9223372036854775807 := h.2.1
  have h1 : ∀ u ∈ tm x, u.oneCell' = true := by have := tm_one [x]; simpa using this
  obtain ⟨_, _, hxl, ⟨_, hbad⟩ | ⟨g', off', cur, r1, r2, r3, r4, r5⟩⟩ := id h
  · cases hbad
  injection r1 with r1
  injection r1 with r1 r1'
  subst r1; subst r1'
  have hci : ¬ (c = i) := by omega
  have had : adv (some (⟨g, off, none⟩ : Addr)) c i 2 = some ⟨g, off + i * 2, none⟩ := by simp [adv, hci, add_off]
  obtain ⟨i0, z0, hi0, hz0, hsz, hby, hzs⟩ := eTimer.info
  have htl : ((l.flatMap tm).take (i * 2)).length = i * 2 := by rw [List.length_take, hxl]; omega
  have hold : (Builtin.firstCells i0.size i (.slice (some ⟨g, off, none⟩) i c)).run Tryz.prog w.drew = .ok ((l.flatMap tm).take (i * 2)).toArray w.drew := by
    rw [hsz]
    refine run_firstCells_some w.drew 2 i ⟨g, off, none⟩ i c _ (by rw [htl]) (fun j v hj => ?_)
    have hjl := (List.getElem?_eq_some_iff.1 hj).1
    rw [htl] at hjl
    rw [List.getElem?_take, if_pos hjl] at hj
    rw [add_off, ← hj]
    exact (cell_in w r3).trans (r5 _ (by omega))
  have hik : i + (l.length + 1 - i) = l.length + 1 := by omega
  have hkk : (l.length : Int) + 1 - (i : Int) = ((l.length + 1 - i : Nat) : Int) := by omega
  obtain ⟨C, hC⟩ : ∃ C, C = grownCap w (l.length + 1) c 275 := ⟨_, rfl⟩
  obtain ⟨ROW, hROW⟩ : ∃ ROW : Array Value, ROW = ((l.flatMap tm).take (i * 2)).toArray ++ Builtin.zeroCells z0.cells (l.length + 1 - i) ++ Builtin.zeroCells z0.cells (C - (l.length + 1)) := ⟨_, rfl⟩
  have hrz : ∀ ty, (Builtin.append_ #[165, 3] ty #[.slice (some ⟨g, off, none⟩) i c, .int .i64 ((l.length : Int) + 1 - (i : Int))]).run Tryz.prog w = .ok (.slice (some ⟨w.heap.size, 0, none⟩) (l.length + 1) C) (w.drew.alloc (.cells ROW 275)) := fun ty => by
    have hh := Lib.run_append_grow_zeros (P := Tryz.prog) w 165 3 ty 275 i0 z0 .i64 .i64 eTimer.under Tryz.underlying3 hi0 hz0 (some ⟨g, off, none⟩) i c _ hold (l.length + 1 - i) (by omega) (by omega) (by omega) (by omega) (by rw [hby]; omega) (by rw [hby, hik]; exact growslice_fits hroom (by omega))
    rw [hik, ← hC, ← hROW] at hh
    rw [hkk]
    exact hh
  have hCn : l.length + 1 ≤ C := by rw [hC]; exact grownCap_ge w _ _ _
  have hCm : C ≤ maxLen := by rw [hC]; exact grownCap_le_maxLen w _ _ _ (by unfold maxLen; omega)
  have hCm2 : C ≤ 9223372036854775807 := hCm
  have hRs : ROW.size = C * 2 := by
    rw [hROW]
    simp only [Array.size_append, size_zeroCells, hzs, List.size_toArray, htl]
    omega
  have hRc : ∀ j, j < i * 2 → ROW[j]? = (l.flatMap tm)[j]? := fun j hj => by
    rw [hROW, Array.append_assoc, Array.getElem?_append_left (by simp only [List.size_toArray, htl]; exact hj)]
    simp only [List.getElem?_toArray]
    rw [List.getElem?_take, if_pos hj]
  obtain ⟨W1, hW1⟩ : ∃ W1, W1 = w.drew.alloc (.cells ROW 275) := ⟨_, rfl⟩
  rw [← hW1] at hrz
  have hWg : W1.heap[w.heap.size]? = some (.cells ROW 275 (0, 0)) := by rw [hW1]; exact heap_alloc_new w.drew _
  have hWC : Chg Nil w W1 := by rw [hW1]; exact ((Chg.refl Nil w).drew).alloc _
  have hv2 : Blk W1 vb 275 (tm x) := hv.chg hWC (fun h => h)
  have hcpA : ∀ ty dc, (Builtin.copy_ #[165, 165] ty #[.slice (some ⟨w.heap.size, i * 2, none⟩) (l.length + 1 - i) dc, .slice (some ⟨vb, 0, none⟩) 1 1]).run Tryz.prog W1 = .ok (goInt 1) (W1.setCells w.heap.size (i * 2) (tm x)) := fun ty dc =>
    copy_sl _ _ _ ty eTimer hWg _ dc (Rd.of_blk (n := 1) (s := 2) hv2 rfl (by decide)) (by omega) (by omega) (by omega) h1
  have hCA : Chg (One w.heap.size) W1 (W1.setCells w.heap.size (i * 2) (tm x)) := setCells_chg _ _ _ _ _ rfl
  obtain ⟨cur1, c1, c2, _⟩ := set_row3 W1 hWg (tm x) (i * 2) (by rw [tm_len]; omega)
  have hS2 : Rd (W1.setCells w.heap.size (i * 2) (tm x)).drew (Opt (some g)) 2 (some ⟨g, off + i * 2, none⟩) (l.length - i) (c - i) ((l.flatMap tm).drop (i * 2)) := by
    have := (h.rd.chg hWC (fun _ _ _ h => h)).drop_n (k := i) (by omega)
    rw [had] at this
    exact this.chg hCA.drew (fun k _ hk hk2 => by injection hk with hk; rw [show k = w.heap.size from hk2] at hk; omega)
  have hcpB : ∀ ty dc, (Builtin.copy_ #[165, 165] ty #[.slice (some ⟨w.heap.size, (i + 1) * 2, none⟩) (l.length - i) dc, .slice (some ⟨g, off + i * 2, none⟩) (l.length - i) (c - i)]).run Tryz.prog (W1.setCells w.heap.size (i * 2) (tm x)).drew = .ok (goInt ((l.length - i : Nat) : Int)) ((W1.setCells w.heap.size (i * 2) (tm x)).drew.setCells w.heap.size ((i + 1) * 2) ((l.flatMap tm).drop (i * 2))) := fun ty dc =>
    copy_sl (o := (i + 1) * 2) (W1.setCells w.heap.size (i * 2) (tm x)).drew _ _ ty eTimer (show (W1.setCells w.heap.size (i * 2) (tm x)).drew.heap[w.heap.size]? = _ from c1) (l.length - i) dc hS2 (by omega) (by omega) (by omega) (fun v hv => tm_one l v (List.mem_of_mem_drop hv))
  obtain ⟨hS, hCC⟩ := Sl.fresh (w := w) (w1 := W1.drew) (vs := tm x) hWg hxl hi hCn hCm (by omega) hRc (tm_len x)
  rw [← insAt_flat, ← drew_setCells2] at hS
  rw [← drew_setCells2] at hCC
  have HS := hid hS
  have HC := hid ((hWC.drew).trans hCC (fun k hk h => by rw [show k = w.heap.size from h] at hk; omega))
  have hCi : ¬ (C = i) := by omega
  have hCi1 : ¬ (C = i + 1) := by omega
  have hw1 : IntKind.i64.wrap ((i : Int) + 1) = (i : Int) + 1 := IntWalk.i64_in _ (by omega)
  have htn : ((i : Int) + 1).toNat = i + 1 := by omega
  have hb1 : (0 : Int) ≤ (i : Int) + 1 := by omega
  have hb3 : (i : Int) ≤ (l.length : Int) + 1 := by omega
  have hb5 : (i : Int) + 1 ≤ (l.length : Int) + 1 := by omega
  have hz2 : ¬ ((i : Int) = (l.length : Int)) := by omega
  have hz3 : (c : Int) < (l.length : Int) + 1 := by omega
  have hin2 : i ≤ l.length := by omega
  rw [had] at hsl
  clear hS hCC h r3 r4 r5 hold hRc hRs hWg hWC hv2 hCA c1 c2 hS2 hkk hik htl
  clear hW1 hROW hC hi0 hz0 hsz hby hzs
  go_enter Tryz.func256, Tryz.ntmps256
  go_wp2_with (at_builtin; first | (refine Lib.wpList_append_run _ rfl _ _ _ _ rfl _ _ rfl rfl _ _ (hrz _) ?_) | (refine wpList_copy_run _ rfl _ _ 165 165 rfl _ _ rfl rfl (hcpA _ _) ?_))
  go_region_law (refine step_copy_run rfl _ _ 165 165 rfl _ _ (by simp [Act.eval, Act.put]) (by simp [Act.eval, Act.put]) (hcpB _ _) ?_)
  go_wp2
  go_ret
  exact ⟨_, _, _, rfl, HS.out, HC.out.mono (fun _ _ h => h.elim), fun g hg => by injection hg with hg; exact .inr (by omega)⟩
theorem tins (a : Option Addr) (c vb i : Nat) (l : List Tm) (x : Tm) (G : Option Nat) (w : World) (h : Sl w 275 2 a l.length c (l.flatMap tm) G) (hv : Blk w vb 275 (tm x)) (hn : l.length ≤ 4294967295) (hG : G ≠ some vb) (hi : i ≤ l.length) :
    Calls Tryz.prog 256 #[.slice a l.length c, .int .i64 (i : Int), .slice (some ⟨vb, 0, none⟩) 1 1] w (InsPost w l i x G) := by
  by_cases h1 : i = l.length
  · subst h1; exact tins_end a c vb l x G w h hv hn
  · by_cases h2 : l.length + 1 ≤ c
    · exact tins_shift a c vb i l x G w h hv hn hG (by omega) h2
    · exact tins_grow a c vb i l x G w h hv hn (by omega) (by omega)
end Go.Proofs.YtjllklddjkkddaaGreatDoor
namespace Go.Proofs.YtjllklddjkkddaaGreatDoor
open Go.ChangeShapes Go.WideShapes Go.ChangeAt Go.RowKit
set_option linter.unusedVariables false
/-- In block p lies a wheel: how late it is, and its timers. -/
structure WA (w : World) (F : Nat → Prop) (p : Nat) (now : Int) (l : List Tm) (a : Option Addr) (c : Nat) (G : Option Nat) : Prop where
  blk : Blk w p 167 [.int .u32 now, .slice a l.length c]
  sl : Sl w 275 2 a l.length c (l.flatMap tm) G
  fp : F p
  fg : ∀ g, G = some g → F g
  lt : ∀ k, F k → k < w.heap.size
def WhAt (w : World) (F : Nat → Prop) (p : Nat) (now : Int) (l : List Tm) : Prop := ∃ a c G, WA w F p now l a c G
section
variable {w w' : World} {F H : Nat → Prop} {p : Nat} {now : Int} {l : List Tm} {a : Option Addr} {c : Nat} {G : Option Nat}
theorem WA.chg (h : WA w F p now l a c G) (hc : Chg H w w') (hd : Dj F H) : WA w' F p now l a c G :=
  ⟨h.blk.chg hc (hd p h.fp), h.sl.chg hc (fun g hg => hd g (h.fg g hg)), h.fp, h.fg, fun k hk => Nat.lt_of_lt_of_le (h.lt k hk) hc.size⟩
theorem WA.nil (h : WA w F p now l a c G) (hc : Chg Nil w w') : WA w' F p now l a c G := h.chg hc (fun _ _ h => h)
theorem WhAt.chg (h : WhAt w F p now l) (hc : Chg H w w') (hd : Dj F H) : WhAt w' F p now l := by
  obtain ⟨a, c, G, h⟩ := h
  exact ⟨a, c, G, h.chg hc hd⟩
theorem WhAt.lt (h : WhAt w F p now l) : ∀ k, F k → k < w.heap.size := by
  obtain ⟨a, c, G, h⟩ := h
  exact h.lt
theorem WA.ne (h : WA w F p now l a c G) : G ≠ some p := h.sl.ne_blk h.blk (by decide)
theorem WA.c0 (h : WA w F p now l a c G) : w.cell? ⟨p, 0, none⟩ = some (.int .u32 now) := h.blk.cell 0
theorem WA.c1 (h : WA w F p now l a c G) : w.cell? ⟨p, 1, none⟩ = some (.slice a l.length c) := h.blk.cell 1
/-- Other timers are laid. -/
theorem WA.lay {w1 : World} {a' : Option Addr} {c' : Nat} {G' : Option Nat} {m : List Tm} (h : WA w F p now l a c G) (hc : Chg (Opt G) w w1) (hs : Sl w1 275 2 a' m.length c' (m.flatMap tm) G') :
    WA (w1.setCell ⟨p, 1, none⟩ (.slice a' m.length c')) (Or2 F (Opt G')) p now m a' c' G' := by
  have hb := h.blk.chg hc h.ne
  have hq1 := hs.ne_blk hb (by decide)
  refine ⟨hb.set 1 _, hs.set_far (p := ⟨p, 1, none⟩) hq1 _, .inl h.fp, fun g hg => .inr hg, ?_⟩
  rintro k (hF | hG')
  · have h1 := h.lt k hF; have := hc.size; simp [World.setCell]; omega
  · have := hs.lt k hG'; simpa [World.setCell] using this
theorem WA.late (h : WA w F p now l a c G) (n : Int) : WA (w.setCell ⟨p, 0, none⟩ (.int .u32 n)) F p n l a c G :=
  ⟨h.blk.set 0 _, h.sl.set_far (p := ⟨p, 0, none⟩) h.ne _, h.fp, h.fg, fun k hk => by simpa [World.setCell] using h.lt k hk⟩
end
theorem wnew_ok (now : Int) (w : World) : Calls Tryz.prog 28 #[.int .u32 now] w fun e w' => ∃ F p, e = .returned (.pointer (some ⟨p, 0, none⟩)) ∧ WhAt w' F p now [] ∧ Chg Nil w w' ∧ Grew w.heap.size Nil F := by
  go_enter Tryz.func28, Tryz.ntmps28
  go_wp2
  go_ret
  refine ⟨One w.heap.size, w.heap.size, rfl, ⟨none, 0, none, Blk.new w 167 [.int .u32 now, .slice none 0 0], Sl.empty _ _ _ _, rfl, (fun g h => by cases h), ?_⟩, (Chg.refl _ _).alloc _, ?_⟩
  · intro k hk; rw [show k = w.heap.size from hk]; simp
  · intro k hk; exact .inr (Nat.le_of_eq (show k = w.heap.size from hk).symm)
/-- Whose the timers are. -/
def idsT (l : List Tm) : List Int := l.map Tm.id
theorem find1_any (x : Tm) (q : Nat) (t : Int) (w : World) (hq : w.cell? ⟨q, 0, none⟩ = some (.int .i64 t)) :
    Calls Tryz.prog 224 #[.agg #[.int .u32 x.at_, .int .i64 x.id], .pointer (some ⟨q, 0, none⟩)] w fun e w' => e = .returned (.bool (x.id == t)) ∧ Chg Nil w w' := by
  have hlt := (lt_of_cell hq).1
  go_enter Tryz.func224, Tryz.ntmps224
  go_wp2
  go_ret
  exact ⟨rfl, (Chg.refl _ _).alloc _⟩
theorem indexT_any (R : Nat → Prop) (a : Option Addr) (n c q : Nat) (l : List Tm) (t : Int) (w : World) (h : Rd w R 2 a n c (l.flatMap tm)) (hn : n = l.length) (hl : n < 4294967296) (hq : w.cell? ⟨q, 0, none⟩ = some (.int .i64 t)) :
    Calls Tryz.prog 223 #[.slice a n c, .func (.func 224) #[] #[.pointer (some ⟨q, 0, none⟩)]] w fun e w' => e = .returned (.int .i64 (idxI (idsT l) t)) ∧ Chg Nil w w' := by
  subst hn
  have H := hid h
  clear h
  go_enter Tryz.func223, Tryz.ntmps223
  go_wp2
  go_loopw [8] (fun i wr => ∃ k : Nat, k ≤ l.length ∧ i = .int .i64 k ∧ Hid (Chg Nil w wr) ∧ Hid (∀ j (hj : j < l.length), j < k → l[j].id ≠ t)) (fun i _ => l.length - (intOf i).toNat)
  case atStart => exact ⟨0, Nat.zero_le _, rfl, Chg.refl _ _, fun _ _ h => absurd h (by omega)⟩
  case round =>
    obtain ⟨k, hk, rfl, hw, hr⟩ := hrel
    by_cases hlt : k < l.length
    · obtain ⟨g, off, rfl, hg1, hg2, hc⟩ := (H.out.chg hw.out (fun _ _ _ h => h)).elem tm_len rfl (by omega)
      have e0 := hc k hlt 0 (by omega)
      have e1 := hc k hlt 1 (by omega)
      clear hc
      simp only [tm, List.getElem?_cons_succ, List.getElem?_cons_zero, Nat.add_zero] at e0 e1
      have hq' : wr.cell? ⟨q, 0, none⟩ = some (.int .i64 t) := (hw.out.cell (a := ⟨q, 0, none⟩) (lt_of_cell hq).1 (fun h => h)).trans hq
      by_cases he : l[k].id = t
      · have hb : (l[k].id == t) = true := by rw [beq_iff_eq]; exact he
        have HE := hid he
        clear he
        go_wp2_with (go_at_call 224; refine (find1_any l[k] q t _ hq').mono ?_; rw [hb]; rintro e w1 ⟨rfl, q1⟩)
        go_ret
        have hix : idxI (idsT l) t = k := idxI_of (by simpa [idsT] using hlt) (by simpa [idsT] using HE.out) (fun j hj hjk => by simpa [idsT] using hr.out j (by simpa [idsT] using hj) hjk)
        exact ⟨ret_int hix.symm, hw.out.trans q1 (fun _ _ h => h)⟩
      · have hb : (l[k].id == t) = false := by rw [beq_eq_false_iff_ne]; exact he
        have HE := hid he
        clear he
        go_wp2_with (go_at_call 224; refine (find1_any l[k] q t _ hq').mono ?_; rw [hb]; rintro e w1 ⟨rfl, q1⟩)
        go_roundw
        case rel =>
          refine ⟨k + 1, by omega, by go_num, hw.out.trans q1 (fun _ _ h => h), fun j hj hjk => ?_⟩
          by_cases hjk' : j = k
          · subst hjk'; exact HE.out
          · exact hr.out j hj (by omega)
        case measure => simp [intOf]; omega
    · go_wp2
      go_ret
      have hix : idxI (idsT l) t = -1 := idxI_none (fun j hj => by
        have h5 : j < l.length := by simpa [idsT] using hj
        simpa [idsT] using hr.out j h5 (by omega))
      exact ⟨ret_int hix.symm, hw.out⟩
theorem wfind_ok (w : World) (F : Nat → Prop) (p : Nat) (now : Int) (l : List Tm) (id : Int) (h : WhAt w F p now l) (hl : l.length ≤ 1000) :
    Calls Tryz.prog 149 #[.pointer (some ⟨p, 0, none⟩), .int .i64 id] w fun e w' => e = .returned (.int .i64 (idxI (idsT l) id)) ∧ Chg Nil w w' := by
  obtain ⟨a, c, G, h⟩ := h
  have hA := (Chg.refl Nil w).alloc (.cells #[.int .i64 id] 3)
  have h1 := h.nil hA
  have hc := h1.c1
  have HX := hid (indexT_any _ a _ c w.heap.size l id _ h1.sl.rd rfl (by omega) ((Blk.new w 3 [.int .i64 id]).cell 0))
  have HA := hid hA
  clear h h1 hA
  go_enter Tryz.func149, Tryz.ntmps149
  go_wp2_with fail
  refine HX.out.mono ?_
  rintro e w1 ⟨rfl, c1⟩
  have C1 := hid (HA.out.trans c1 (fun _ _ h => h))
  clear c1
  go_wp2
  go_ret
  exact ⟨rfl, C1.out⟩
end Go.Proofs.YtjllklddjkkddaaGreatDoor
