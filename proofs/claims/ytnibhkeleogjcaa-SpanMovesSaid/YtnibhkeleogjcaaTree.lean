/- Contracts of the small calls of package span: a tree in memory, set. Conditions: few nodes, small weights. -/
import Derived.Test.YtnibhkeleogjcaaSlices
import Derived.Test.YtnibhkeleogjcaaMem2
import Derived.Test.YtnibhkeleogjcaaTreeP
import Derived.RegionTactic
import Derived.BigRegion
import Derived.Deep.RegionLaw
import Derived.Deep.RegionHeld3
import Derived.Deep.QuietTactic
import Derived.BigQuiet
import Derived.StillTailTactics
import Derived.Deep.DeepCutAuto
namespace Go.Proofs.Ytnibhkeleogjcaa
open Go.ChangeShapes Go.WideShapes Go.ChangeAt Go.RowKit
set_option linter.unusedVariables false
/-- The cells of a node. -/
def nodeC (e : TE) (pl pr : Value) (d n s : Int) : List Value := [.int .i64 e.key, .int .i64 e.id, .int .i64 e.w, pl, pr, .int .i64 d, .int .i64 n, .int .i64 s]
def Tr.ptr : Tr → Value
  | .nil => .pointer none
  | .node b _ _ _ => .pointer (some ⟨b, 0, none⟩)
/-- A tree lies in memory. -/
def TrAt (w : World) : Tr → Prop
  | .nil => True
  | .node b e l r => Blk w b 49 (nodeC e l.ptr r.ptr ((Tr.node b e l r).deep : Int) ((Tr.node b e l r).cnt : Int) (Tr.node b e l r).sum) ∧ TrAt w l ∧ TrAt w r
theorem TrAt.chg {w w' : World} {F : Nat → Prop} {t : Tr} (h : TrAt w t) (hc : Chg F w w') (hF : ∀ b ∈ t.ads, ¬ F b) : TrAt w' t := by
  induction t with
  | nil => trivial
  | node b e l r ihl ihr =>
    obtain ⟨h1, h2, h3⟩ := h
    exact ⟨h1.chg hc (hF b (by simp [Tr.ads])), ihl h2 (fun x hx => hF x (by simp [Tr.ads, hx])), ihr h3 (fun x hx => hF x (by simp [Tr.ads, hx]))⟩
theorem TrAt.lt {w : World} {t : Tr} (h : TrAt w t) : ∀ b ∈ t.ads, b < w.heap.size := by
  induction t with
  | nil => intro b hb; cases hb
  | node b e l r ihl ihr =>
    obtain ⟨h1, h2, h3⟩ := h
    intro x hx
    simp only [Tr.ads, List.mem_cons, List.mem_append] at hx
    rcases hx with rfl | hx | hx
    · exact h1.lt
    · exact ihl h2 x hx
    · exact ihr h3 x hx
theorem TrAt.drewN {w : World} {t : Tr} (h : TrAt w t) (k : Nat) : TrAt (w.drewN k) t := h.chg (F := Nil) ((Chg.refl Nil w).drewN k) (fun _ _ h => h)
theorem deep_ok (w : World) (t : Tr) (h : TrAt w t) : Calls Try.prog 22 #[t.ptr] w fun e w' => e = .returned (.int .i64 (t.deep : Int)) ∧ w' = w := by
  cases t with
  | nil =>
    unfold Tr.ptr
    go_enter Try.func22, Try.ntmps22
    go_wp2
    go_ret
    exact ⟨rfl, rfl⟩
  | node b e l r =>
    have c5 := h.1.cell 5
    simp only [nodeC, List.getElem?_cons_succ, List.getElem?_cons_zero] at c5
    generalize (Tr.node b e l r).deep = d at c5
    unfold Tr.ptr
    clear h
    go_enter Try.func22, Try.ntmps22
    go_wp2
    go_ret
    exact ⟨rfl, rfl⟩
theorem count_ok (w : World) (t : Tr) (h : TrAt w t) : Calls Try.prog 24 #[t.ptr] w fun e w' => e = .returned (.int .i64 (t.cnt : Int)) ∧ w' = w := by
  cases t with
  | nil =>
    unfold Tr.ptr
    go_enter Try.func24, Try.ntmps24
    go_wp2
    go_ret
    exact ⟨rfl, rfl⟩
  | node b e l r =>
    have c5 := h.1.cell 6
    simp only [nodeC, List.getElem?_cons_succ, List.getElem?_cons_zero] at c5
    generalize (Tr.node b e l r).cnt = d at c5
    unfold Tr.ptr
    clear h
    go_enter Try.func24, Try.ntmps24
    go_wp2
    go_ret
    exact ⟨rfl, rfl⟩
theorem sum_ok (w : World) (t : Tr) (h : TrAt w t) : Calls Try.prog 25 #[t.ptr] w fun e w' => e = .returned (.int .i64 t.sum) ∧ w' = w := by
  cases t with
  | nil =>
    unfold Tr.ptr
    go_enter Try.func25, Try.ntmps25
    go_wp2
    go_ret
    exact ⟨rfl, rfl⟩
  | node b e l r =>
    have c5 := h.1.cell 7
    simp only [nodeC, List.getElem?_cons_succ, List.getElem?_cons_zero] at c5
    generalize (Tr.node b e l r).sum = d at c5
    unfold Tr.ptr
    clear h
    go_enter Try.func25, Try.ntmps25
    go_wp2
    go_ret
    exact ⟨rfl, rfl⟩
/-- Few, and light. -/
structure Small (t : Tr) : Prop where
  cnt : t.cnt ≤ 2000
  pos : 0 ≤ t.sum
  sum : t.sum ≤ 4000000000
set_option maxRecDepth 100000 in
set_option maxHeartbeats 1000000 in
theorem set_ok (w : World) (b : Nat) (e : TE) (l r : Tr) (d n s : Int) (hb : Blk w b 49 (nodeC e l.ptr r.ptr d n s)) (hl : TrAt w l) (hr : TrAt w r) (nl : b ∉ l.ads) (nr : b ∉ r.ads) (sl : Small l) (sr : Small r) (e0 : 0 ≤ e.w) (e1 : e.w ≤ 1000000) :
    Calls Try.prog 28 #[.pointer (some ⟨b, 0, none⟩)] w fun v w' => v = .returned (.pointer (some ⟨b, 0, none⟩)) ∧ TrAt w' (.node b e l r) ∧ Chg (One b) w w' := by
  have n1 := fun x hx => (show ¬ One b x from fun hh => nl (by rw [← show x = b from hh]; exact hx))
  have n2 := fun x hx => (show ¬ One b x from fun hh => nr (by rw [← show x = b from hh]; exact hx))
  have hchg : ∀ (i : Nat) (v : Value) (wx : World), Chg (One b) wx (wx.setCell ⟨b, i, none⟩ v).drew := fun i v wx => ((Chg.refl (One b) wx).setCell (p := ⟨b, i, none⟩) (.inl (show One b b from rfl)) v).drew
  replace n1 := hid n1
  replace n2 := hid n2
  replace hchg := hid hchg
  have c3 := hb.cell 3
  have c4 := hb.cell 4
  have c5 := hb.cell 5
  have f5 := hb.frozen 5
  simp only [nodeC, List.getElem?_cons_succ, List.getElem?_cons_zero] at c3 c4 c5
  have b1 : (l.deep : Int) ≤ 2000 := by have := l.deep_cnt; have := sl.cnt; omega
  have b2 : (r.deep : Int) ≤ 2000 := by have := r.deep_cnt; have := sr.cnt; omega
  have b3 : (l.cnt : Int) ≤ 2000 := by have := sl.cnt; omega
  have b4 : (r.cnt : Int) ≤ 2000 := by have := sr.cnt; omega
  have b5 := sl.pos
  have b6 := sl.sum
  have b7 := sr.pos
  have b8 := sr.sum
  obtain ⟨D, hD⟩ : ∃ D : Int, D = ((Tr.node b e l r).deep : Int) := ⟨_, rfl⟩
  obtain ⟨N, hN⟩ : ∃ N : Int, N = ((Tr.node b e l r).cnt : Int) := ⟨_, rfl⟩
  obtain ⟨S, hS⟩ : ∃ S : Int, S = (Tr.node b e l r).sum := ⟨_, rfl⟩
  have D1 : l.deep < r.deep → 1 + (r.deep : Int) = D := fun h => by rw [hD]; simp only [Tr.deep]; omega
  have D2 : ¬ l.deep < r.deep → 1 + (l.deep : Int) = D := fun h => by rw [hD]; simp only [Tr.deep]; omega
  have N1 : 1 + (l.cnt : Int) + (r.cnt : Int) = N := by rw [hN]; simp only [Tr.cnt]; omega
  have S1 : e.w + l.sum + r.sum = S := by rw [hS]; simp only [Tr.sum]
  replace D1 := hid D1
  replace D2 := hid D2
  replace N1 := hid N1
  replace S1 := hid S1
  replace hD := hid hD
  replace hN := hid hN
  replace hS := hid hS
  have HB := hid hb
  have HL := hid hl
  have HR := hid hr
  clear hb hl hr
  go_enter Try.func28, Try.ntmps28
  go_upto_region 1 with fail
  go_cut [3] (fun _ wx => wx = (w.setCell ⟨b, 5, none⟩ (.int .i64 D)).drew)
  case first =>
    have HL1 := hid (HL.out.drewN 1)
    have HR1 := hid (HR.out.drewN 1)
    go_wp2
    go_still_tail 15, (by kernel_rfl)
    still_call (deep_ok w.drew l HL1.out)
    repeat still_step
    still_call (deep_ok w.drew r HR1.out)
    repeat still_step
    refine wpStill_nil ?_
    change wpList _ _ _ _ _ w.drew
    by_cases hlt : l.deep < r.deep
    · have e1 := D1.out hlt
      replace e1 := hid e1
      go_wp2
      go_meet
      rw [← e1.out]
    · have e1 := D2.out hlt
      replace e1 := hid e1
      go_wp2
      go_meet
      rw [← e1.out]
  case rest =>
  subst hcut
  obtain ⟨w1, hw1⟩ : ∃ w1, w1 = (w.setCell ⟨b, 5, none⟩ (.int .i64 D)).drew := ⟨_, rfl⟩
  have C1 := hchg.out 5 (.int .i64 D) w
  have B1 : Blk w1 b 49 (nodeC e l.ptr r.ptr D n s) := by rw [hw1]; exact (HB.out.set 5 _).drewN 1
  rw [← hw1] at C1 ⊢
  clear hw1 c3 c4 c5 f5
  have c3 := B1.cell 3
  have c4 := B1.cell 4
  have c6 := B1.cell 6
  have f6 := B1.frozen 6
  simp only [nodeC, List.getElem?_cons_succ, List.getElem?_cons_zero] at c3 c4 c6
  have HL1 := hid (HL.out.chg C1 n1.out)
  have HR1 := hid (HR.out.chg C1 n2.out)
  replace C1 := hid C1
  replace B1 := hid B1
  go_upto_region 2 with fail
  go_cut [18] (fun _ wx => wx = (w1.setCell ⟨b, 6, none⟩ (.int .i64 N)).drew)
  case first =>
    have HL2 := hid (HL1.out.drewN 1)
    have HR2 := hid (HR1.out.drewN 1)
    go_wp2
    go_still_tail 15, (by kernel_rfl)
    still_call (count_ok w1.drew l HL2.out)
    repeat still_step
    still_call (count_ok w1.drew r HR2.out)
    repeat still_step
    refine wpStill_nil ?_
    change wpList _ _ _ _ _ w1.drew
    go_wp2
    go_meet
    rw [← N1.out]
  case rest =>
  subst hcut
  obtain ⟨w2, hw2⟩ : ∃ w2, w2 = (w1.setCell ⟨b, 6, none⟩ (.int .i64 N)).drew := ⟨_, rfl⟩
  have C2 := hchg.out 6 (.int .i64 N) w1
  have B2 : Blk w2 b 49 (nodeC e l.ptr r.ptr D N s) := by rw [hw2]; exact (B1.out.set 6 _).drewN 1
  rw [← hw2] at C2 ⊢
  clear hw2 c3 c4 c6 f6
  have c2 := B2.cell 2
  have c3 := B2.cell 3
  have c4 := B2.cell 4
  have c7 := B2.cell 7
  have f7 := B2.frozen 7
  simp only [nodeC, List.getElem?_cons_succ, List.getElem?_cons_zero] at c2 c3 c4 c7
  have HL2 := hid (HL1.out.chg C2 n1.out)
  have HR2 := hid (HR1.out.chg C2 n2.out)
  replace C2 := hid C2
  replace B2 := hid B2
  go_upto_region 3 with fail
  go_cut [33] (fun _ wx => wx = (w2.setCell ⟨b, 7, none⟩ (.int .i64 S)).drew)
  case first =>
    have HL3 := hid (HL2.out.drewN 1)
    have HR3 := hid (HR2.out.drewN 1)
    go_wp2
    go_still_tail 19, (by kernel_rfl)
    still_call (sum_ok w2.drew l HL3.out)
    repeat still_step
    still_call (sum_ok w2.drew r HR3.out)
    repeat still_step
    refine wpStill_nil ?_
    change wpList _ _ _ _ _ w2.drew
    go_wp2
    go_meet
    rw [← S1.out]
  case rest =>
  subst hcut
  go_wp2
  go_ret
  have C3 := hchg.out 7 (.int .i64 S) w2
  have B3 : Blk ((w2.setCell ⟨b, 7, none⟩ (.int .i64 S)).drew) b 49 (nodeC e l.ptr r.ptr D N S) := (B2.out.set 7 _).drewN 1
  rw [hD.out, hN.out, hS.out] at B3
  rw [hS.out] at C3 ⊢
  exact ⟨rfl, ⟨B3, HL2.out.chg C3 n1.out, HR2.out.chg C3 n2.out⟩, (C1.out.trans C2.out (fun _ _ h => h)).trans C3 (fun _ _ h => h)⟩
end Go.Proofs.Ytnibhkeleogjcaa
