/- Contracts of package span: toRight, toLeft. Conditions: few nodes, small weights. -/
import Derived.Test.YtnibhkeleogjcaaTree
namespace Go.Proofs.Ytnibhkeleogjcaa
open Go.ChangeShapes Go.WideShapes Go.ChangeAt Go.RowKit
set_option linter.unusedVariables false
theorem Tr.ptr_is (t : Tr) : ∃ q, t.ptr = .pointer q := by cases t; exact ⟨_, rfl⟩; exact ⟨_, rfl⟩
/-- Few things, and light ones. -/
def Sm (l : List TE) : Prop := l.length ≤ 2000 ∧ ∀ x ∈ l, 0 ≤ x.w ∧ x.w ≤ 1000000
theorem Sm.sub {l m : List TE} (h : Sm m) (hs : l.Sublist m) : Sm l := ⟨Nat.le_trans hs.length_le h.1, fun x hx => h.2 x (hs.subset hx)⟩
theorem sumW_bd {l : List TE} (h : ∀ x ∈ l, 0 ≤ x.w ∧ x.w ≤ 1000000) : 0 ≤ sumW l ∧ sumW l ≤ l.length * 1000000 := by
  induction l with
  | nil => exact ⟨Int.le_refl _, by simp [sumW]⟩
  | cons x l ih =>
    have h1 := h x (by simp)
    have h2 := ih (fun y hy => h y (List.mem_cons_of_mem _ hy))
    rw [sumW_cons, List.length_cons]
    constructor <;> omega
theorem Sm.small {t : Tr} (h : Sm t.els) : Small t := by
  have h1 := sumW_bd h.2
  have h2 := h.1
  refine ⟨by rw [t.cnt_els]; exact h2, by rw [t.sum_els]; exact h1.1, ?_⟩
  rw [t.sum_els]
  omega
theorem Sm.left {l r : List TE} {e : TE} (h : Sm (l ++ e :: r)) : Sm l := h.sub (List.sublist_append_left _ _)
theorem Sm.right {l r : List TE} {e : TE} (h : Sm (l ++ e :: r)) : Sm r := h.sub ((List.sublist_cons_self _ _).trans (List.sublist_append_right _ _))
theorem Sm.mid {l r : List TE} {e : TE} (h : Sm (l ++ e :: r)) : 0 ≤ e.w ∧ e.w ≤ 1000000 := h.2 e (by simp)
/-- The blocks of a list. -/
def Ins (l : List Nat) : Nat → Prop := fun b => b ∈ l
set_option maxRecDepth 100000 in
set_option maxHeartbeats 1000000 in
theorem toRight_ok (w : World) (b bl : Nat) (e el : TE) (ll lr r : Tr) (d n s : Int) (hb : Blk w b 49 (nodeC e (Tr.node bl el ll lr).ptr r.ptr d n s)) (hl : TrAt w (.node bl el ll lr)) (hr : TrAt w r)
    (hn : (b :: bl :: (ll.ads ++ (lr.ads ++ r.ads))).Nodup) (hs : Sm (ll.els ++ el :: (lr.els ++ e :: r.els))) :
    Calls Try.prog 33 #[.pointer (some ⟨b, 0, none⟩)] w fun v w' => v = .returned (.pointer (some ⟨bl, 0, none⟩)) ∧ TrAt w' (.node bl el ll (.node b e lr r)) ∧ Chg (Ins [b, bl]) w w' := by
  obtain ⟨hbl, hll, hlr⟩ := hl
  have hs2 := hs.right
  simp only [List.nodup_cons, List.mem_cons, List.mem_append, not_or, List.nodup_append] at hn
  obtain ⟨⟨n1, n2, n3, n4⟩, ⟨n5, n6, n7⟩, n8, ⟨n9, n10, n11⟩, n12⟩ := hn
  have dl : ((Tr.node bl el ll lr).ptr) = .pointer (some ⟨bl, 0, none⟩) := rfl
  rw [dl] at hb
  have c3 := hb.cell 3
  have k4 := hbl.cell 4
  have f3 := hb.frozen 3
  simp only [nodeC, List.getElem?_cons_succ, List.getElem?_cons_zero] at c3 k4
  have ch1 : Chg (One b) w (w.setCell ⟨b, 3, none⟩ lr.ptr) := (Chg.refl (One b) w).setCell (p := ⟨b, 3, none⟩) (.inl (show One b b from rfl)) _
  have hb1 : Blk (w.setCell ⟨b, 3, none⟩ lr.ptr) b 49 (nodeC e lr.ptr r.ptr d n s) := hb.set 3 _
  have ob : ∀ (t : Tr), b ∉ t.ads → ∀ x ∈ t.ads, ¬ One b x := fun t h x hx hh => h (by rw [← show x = b from hh]; exact hx)
  have obl : ∀ (t : Tr), bl ∉ t.ads → ∀ x ∈ t.ads, ¬ One bl x := fun t h x hx hh => h (by rw [← show x = bl from hh]; exact hx)
  have SET := hid (set_ok (w.setCell ⟨b, 3, none⟩ lr.ptr) b e lr r d n s hb1 (hlr.chg ch1 (ob lr n3)) (hr.chg ch1 (ob r n4)) n3 n4 hs2.left.small hs2.right.small hs2.mid.1 hs2.mid.2)
  have B1 : Hid (Blk (w.setCell ⟨b, 3, none⟩ lr.ptr) bl 49 _) := hid (hbl.chg ch1 (fun hh => n1 (show bl = b from hh).symm))
  have L1 := hid (hll.chg ch1 (ob ll n2))
  have HC1 := hid ch1
  have OBL := hid obl
  have OB := hid ob
  clear hb hbl hll hlr hr ch1 hb1 ob obl dl
  obtain ⟨qp, hqp⟩ := lr.ptr_is
  rw [hqp] at k4 SET B1 L1 HC1
  clear hqp
  go_enter Try.func33, Try.ntmps33
  go_wp2_with fail
  refine SET.out.mono ?_
  rintro v w2 ⟨rfl, t2, ch2⟩
  have B2 := B1.out.chg ch2 (fun hh => n1 (show bl = b from hh).symm)
  have L2 := L1.out.chg ch2 (OB.out ll n2)
  have k4' := B2.cell 4
  have f4' := B2.frozen 4
  simp only [nodeC, List.getElem?_cons_succ, List.getElem?_cons_zero] at k4'
  have ch3 : Chg (One bl) w2 (w2.setCell ⟨bl, 4, none⟩ (Tr.node b e lr r).ptr) := (Chg.refl (One bl) w2).setCell (p := ⟨bl, 4, none⟩) (.inl (show One bl bl from rfl)) _
  have nbl : bl ∉ (Tr.node b e lr r).ads := by
    simp only [Tr.ads, List.mem_cons, List.mem_append, not_or]
    exact ⟨fun hh => n1 hh.symm, n6, n7⟩
  have SET2 := hid (set_ok (w2.setCell ⟨bl, 4, none⟩ (Tr.node b e lr r).ptr) bl el ll (.node b e lr r) _ _ _ (B2.set 4 _) (L2.chg ch3 (OBL.out ll n5)) (t2.chg ch3 (OBL.out _ nbl)) n5 nbl hs.left.small (Sm.small (t := .node b e lr r) hs2) hs.mid.1 hs.mid.2)
  have HC2 := hid ch2
  have HC3 := hid ch3
  clear t2 ch2 B2 L2 ch3 SET
  go_wp2_with fail
  refine SET2.out.mono ?_
  rintro v w3 ⟨rfl, t3, ch4⟩
  have T3 := hid t3
  have HC4 := hid ch4
  clear t3 ch4
  go_wp2
  go_ret
  refine ⟨rfl, T3.out, ((((HC1.out.mono (G := Ins [b, bl]) (fun x _ hx => ?_)).trans HC2.out (fun x _ hx => ?_)).trans HC3.out (fun x _ hx => ?_)).trans HC4.out (fun x _ hx => ?_))⟩
  · rw [show x = b from hx]; exact List.mem_cons_self
  · rw [show x = b from hx]; exact List.mem_cons_self
  · rw [show x = bl from hx]; exact List.mem_cons_of_mem _ List.mem_cons_self
  · rw [show x = bl from hx]; exact List.mem_cons_of_mem _ List.mem_cons_self
set_option maxRecDepth 100000 in
set_option maxHeartbeats 1000000 in
theorem toLeft_ok (w : World) (b br : Nat) (e er : TE) (l rl rr : Tr) (d n s : Int) (hb : Blk w b 49 (nodeC e l.ptr (Tr.node br er rl rr).ptr d n s)) (hl : TrAt w l) (hr : TrAt w (.node br er rl rr))
    (hn : (b :: br :: (l.ads ++ (rl.ads ++ rr.ads))).Nodup) (hs : Sm ((l.els ++ e :: rl.els) ++ er :: rr.els)) :
    Calls Try.prog 32 #[.pointer (some ⟨b, 0, none⟩)] w fun v w' => v = .returned (.pointer (some ⟨br, 0, none⟩)) ∧ TrAt w' (.node br er (.node b e l rl) rr) ∧ Chg (Ins [b, br]) w w' := by
  obtain ⟨hbr, hrl, hrr⟩ := hr
  have hs2 := hs.left
  simp only [List.nodup_cons, List.mem_cons, List.mem_append, not_or, List.nodup_append] at hn
  obtain ⟨⟨n1, n2, n3, n4⟩, ⟨n5, n6, n7⟩, n8, ⟨n9, n10, n11⟩, n12⟩ := hn
  have dl : ((Tr.node br er rl rr).ptr) = .pointer (some ⟨br, 0, none⟩) := rfl
  rw [dl] at hb
  have c4 := hb.cell 4
  have k3 := hbr.cell 3
  have f4 := hb.frozen 4
  simp only [nodeC, List.getElem?_cons_succ, List.getElem?_cons_zero] at c4 k3
  have ch1 : Chg (One b) w (w.setCell ⟨b, 4, none⟩ rl.ptr) := (Chg.refl (One b) w).setCell (p := ⟨b, 4, none⟩) (.inl (show One b b from rfl)) _
  have hb1 : Blk (w.setCell ⟨b, 4, none⟩ rl.ptr) b 49 (nodeC e l.ptr rl.ptr d n s) := hb.set 4 _
  have ob : ∀ (t : Tr), b ∉ t.ads → ∀ x ∈ t.ads, ¬ One b x := fun t h x hx hh => h (by rw [← show x = b from hh]; exact hx)
  have obr : ∀ (t : Tr), br ∉ t.ads → ∀ x ∈ t.ads, ¬ One br x := fun t h x hx hh => h (by rw [← show x = br from hh]; exact hx)
  have SET := hid (set_ok (w.setCell ⟨b, 4, none⟩ rl.ptr) b e l rl d n s hb1 (hl.chg ch1 (ob l n2)) (hrl.chg ch1 (ob rl n3)) n2 n3 hs2.left.small hs2.right.small hs2.mid.1 hs2.mid.2)
  have B1 : Hid (Blk (w.setCell ⟨b, 4, none⟩ rl.ptr) br 49 _) := hid (hbr.chg ch1 (fun hh => n1 (show br = b from hh).symm))
  have R1 := hid (hrr.chg ch1 (ob rr n4))
  have HC1 := hid ch1
  have OBR := hid obr
  have OB := hid ob
  clear hb hbr hrl hrr hl ch1 hb1 ob obr dl
  obtain ⟨qp, hqp⟩ := rl.ptr_is
  rw [hqp] at k3 SET B1 R1 HC1
  clear hqp
  go_enter Try.func32, Try.ntmps32
  go_wp2_with fail
  refine SET.out.mono ?_
  rintro v w2 ⟨rfl, t2, ch2⟩
  have B2 := B1.out.chg ch2 (fun hh => n1 (show br = b from hh).symm)
  have R2 := R1.out.chg ch2 (OB.out rr n4)
  have k3' := B2.cell 3
  have f3' := B2.frozen 3
  simp only [nodeC, List.getElem?_cons_succ, List.getElem?_cons_zero] at k3'
  have ch3 : Chg (One br) w2 (w2.setCell ⟨br, 3, none⟩ (Tr.node b e l rl).ptr) := (Chg.refl (One br) w2).setCell (p := ⟨br, 3, none⟩) (.inl (show One br br from rfl)) _
  have nbr : br ∉ (Tr.node b e l rl).ads := by
    simp only [Tr.ads, List.mem_cons, List.mem_append, not_or]
    exact ⟨fun hh => n1 hh.symm, n5, n6⟩
  have SET2 := hid (set_ok (w2.setCell ⟨br, 3, none⟩ (Tr.node b e l rl).ptr) br er (.node b e l rl) rr _ _ _ (B2.set 3 _) (t2.chg ch3 (OBR.out _ nbr)) (R2.chg ch3 (OBR.out rr n7)) nbr n7 (Sm.small (t := .node b e l rl) hs2) hs.right.small hs.mid.1 hs.mid.2)
  have HC2 := hid ch2
  have HC3 := hid ch3
  clear t2 ch2 B2 R2 ch3 SET
  go_wp2_with fail
  refine SET2.out.mono ?_
  rintro v w3 ⟨rfl, t3, ch4⟩
  have T3 := hid t3
  have HC4 := hid ch4
  clear t3 ch4
  go_wp2
  go_ret
  refine ⟨rfl, T3.out, ((((HC1.out.mono (G := Ins [b, br]) (fun x _ hx => ?_)).trans HC2.out (fun x _ hx => ?_)).trans HC3.out (fun x _ hx => ?_)).trans HC4.out (fun x _ hx => ?_))⟩
  · rw [show x = b from hx]; exact List.mem_cons_self
  · rw [show x = b from hx]; exact List.mem_cons_self
  · rw [show x = br from hx]; exact List.mem_cons_of_mem _ List.mem_cons_self
  · rw [show x = br from hx]; exact List.mem_cons_of_mem _ List.mem_cons_self
end Go.Proofs.Ytnibhkeleogjcaa
