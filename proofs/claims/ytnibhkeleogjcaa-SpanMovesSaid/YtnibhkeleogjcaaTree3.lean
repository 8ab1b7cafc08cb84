/- Contract of package span: even. Conditions: few nodes, small weights; both sides even, and as deep, but for two. -/
import Derived.Test.YtnibhkeleogjcaaTree2
namespace Go.Proofs.Ytnibhkeleogjcaa
open Go.ChangeShapes Go.WideShapes Go.ChangeAt Go.RowKit
set_option linter.unusedVariables false
/-- What even does. -/
def EvenP (w : World) (b : Nat) (e : TE) (l r : Tr) (v : Ending) (w' : World) : Prop :=
  ∃ t' : Tr, v = .returned t'.ptr ∧ TrAt w' t' ∧ t'.even ∧ t'.els = l.els ++ e :: r.els ∧ t'.ads.Perm (b :: (l.ads ++ r.ads)) ∧ (l.deep ≤ t'.deep ∧ r.deep ≤ t'.deep ∧ t'.deep ≤ 1 + max l.deep r.deep ∧ (l.deep ≤ r.deep + 1 → r.deep ≤ l.deep + 1 → t'.deep = 1 + max l.deep r.deep)) ∧ Chg (Ins (b :: (l.ads ++ r.ads))) w w'
theorem ins_mono {l m : List Nat} (h : ∀ x ∈ l, x ∈ m) {w w' : World} (hc : Chg (Ins l) w w') : Chg (Ins m) w w' := hc.mono (fun x _ hx => h x hx)
section
variable (w : World) (b : Nat) (e : TE) (d n s : Int)
set_option maxRecDepth 100000 in
set_option maxHeartbeats 1000000 in
theorem even_same (l r : Tr) (hb : Blk w b 49 (nodeC e l.ptr r.ptr d n s)) (hl : TrAt w l) (hr : TrAt w r) (el : l.even) (er : r.even) (hn : (b :: (l.ads ++ r.ads)).Nodup) (hs : Sm (l.els ++ e :: r.els)) (h1 : l.deep ≤ r.deep + 1) (h2 : r.deep ≤ l.deep + 1) :
    Calls Try.prog 29 #[.pointer (some ⟨b, 0, none⟩)] w (EvenP w b e l r) := by
  have nl : b ∉ l.ads := fun hh => (List.nodup_cons.1 hn).1 (List.mem_append_left _ hh)
  have nr : b ∉ r.ads := fun hh => (List.nodup_cons.1 hn).1 (List.mem_append_right _ hh)
  have SET := hid (set_ok w b e l r d n s hb hl hr nl nr hs.left.small hs.right.small hs.mid.1 hs.mid.2)
  have i1 : (l.deep : Int) - (r.deep : Int) ≤ 1 := by omega
  have i2 : -1 ≤ (l.deep : Int) - (r.deep : Int) := by omega
  have b1 : (l.deep : Int) ≤ 2000 := by have := l.deep_cnt; have := hs.left.small.cnt; omega
  have b2 : (r.deep : Int) ≤ 2000 := by have := r.deep_cnt; have := hs.right.small.cnt; omega
  have hw1 := IntWalk.i64_in ((l.deep : Int) - (r.deep : Int)) (by omega)
  have EL := hid el
  have ER := hid er
  have H1 := hid h1
  have H2 := hid h2
  clear hb hl hr el er hn hs nl nr h1 h2
  go_enter Try.func29, Try.ntmps29
  go_wp2_with fail
  refine SET.out.mono ?_
  rintro v w1 ⟨rfl, t1, ch1⟩
  have c3 := t1.1.cell 3
  have c4 := t1.1.cell 4
  simp only [nodeC, List.getElem?_cons_succ, List.getElem?_cons_zero] at c3 c4
  have D1 := hid (fun k => deep_ok (w1.drewN k) l (t1.2.1.drewN k))
  have D2 := hid (fun k => deep_ok (w1.drewN k) r (t1.2.2.drewN k))
  have T1 := hid t1
  have C1 := hid ch1
  clear t1 ch1 SET
  obtain ⟨ql, hql⟩ := l.ptr_is
  obtain ⟨qr, hqr⟩ := r.ptr_is
  rw [hql] at c3 D1
  rw [hqr] at c4 D2
  clear hql hqr
  go_wp2
  go_quiet ((first | (go_at_call 22; with_reducible exact Calls.quiet_of_same (D1.out _)) | (go_at_call 22; with_reducible exact Calls.quiet_of_same (D2.out _))))
  go_wp2
  go_ret
  exact ⟨.node b e l r, rfl, T1.out.drewN nq, ⟨EL.out, ER.out, H1.out, H2.out⟩, rfl, List.Perm.refl _, ⟨by simp only [Tr.deep]; omega, by simp only [Tr.deep]; omega, by simp only [Tr.deep]; omega, fun _ _ => rfl⟩, (C1.out.mono (G := Ins (b :: (l.ads ++ r.ads))) (fun x _ hx => by rw [show x = b from hx]; exact List.mem_cons_self)).drewN nq⟩
set_option maxRecDepth 100000 in
set_option maxHeartbeats 2000000 in
theorem even_left (bl : Nat) (x : TE) (ll lr r : Tr) (hb : Blk w b 49 (nodeC e (Tr.node bl x ll lr).ptr r.ptr d n s)) (hl : TrAt w (.node bl x ll lr)) (hr : TrAt w r) (el : (Tr.node bl x ll lr).even) (er : r.even) (hn : (b :: ((Tr.node bl x ll lr).ads ++ r.ads)).Nodup) (hs : Sm ((Tr.node bl x ll lr).els ++ e :: r.els)) (h1 : (Tr.node bl x ll lr).deep = r.deep + 2) :
    Calls Try.prog 29 #[.pointer (some ⟨b, 0, none⟩)] w (EvenP w b e (.node bl x ll lr) r) := by
  have nl : b ∉ (Tr.node bl x ll lr).ads := fun hh => (List.nodup_cons.1 hn).1 (List.mem_append_left _ hh)
  have nr : b ∉ r.ads := fun hh => (List.nodup_cons.1 hn).1 (List.mem_append_right _ hh)
  have SET := hid (set_ok w b e (.node bl x ll lr) r d n s hb hl hr nl nr hs.left.small hs.right.small hs.mid.1 hs.mid.2)
  have hdl := (Tr.node bl x ll lr).deep_cnt
  have hsl := hs.left.small.cnt
  have hd2 : (Tr.node bl x ll lr).deep = 1 + max ll.deep lr.deep := rfl
  obtain ⟨dl, hdl2⟩ : ∃ dl, dl = (Tr.node bl x ll lr).deep := ⟨_, rfl⟩
  have i1 : (1 : Int) < (dl : Int) - (r.deep : Int) := by omega
  have b1 : (dl : Int) ≤ 2000 := by omega
  have b2 : (r.deep : Int) ≤ 2000 := by omega
  have b3 : (ll.deep : Int) ≤ 2000 := by omega
  have b4 : (lr.deep : Int) ≤ 2000 := by omega
  have hw1 := IntWalk.i64_in ((dl : Int) - (r.deep : Int)) (by omega)
  obtain ⟨e1, e2, e3, e4⟩ := el
  have E1 := hid e1
  have E2 := hid e2
  have E3 := hid (And.intro e3 e4)
  have ER := hid er
  have HN := hid hn
  have HS := hid hs
  have H1 := hid h1
  have HD := hid hd2
  have HDL := hid hdl2
  clear hb hl hr e1 e2 e3 e4 er hn hs nl nr h1 hd2 hdl hsl
  go_enter Try.func29, Try.ntmps29
  go_wp2_with fail
  refine SET.out.mono ?_
  rintro v w1 ⟨rfl, t1, ch1⟩
  have c3 := t1.1.cell 3
  have c4 := t1.1.cell 4
  have k3 := t1.2.1.1.cell 3
  have k4 := t1.2.1.1.cell 4
  simp only [nodeC, List.getElem?_cons_succ, List.getElem?_cons_zero] at c3 c4 k3 k4
  have hp : (Tr.node bl x ll lr).ptr = .pointer (some ⟨bl, 0, none⟩) := rfl
  have D1 : Hid (∀ k, Calls Try.prog 22 #[.pointer (some ⟨bl, 0, none⟩)] (w1.drewN k) fun e w' => e = .returned (.int .i64 (dl : Int)) ∧ w' = w1.drewN k) := hid (fun k => by rw [hdl2]; exact deep_ok (w1.drewN k) _ (t1.2.1.drewN k))
  have D2 := hid (fun k => deep_ok (w1.drewN k) r (t1.2.2.drewN k))
  have D3 := hid (fun k => deep_ok (w1.drewN k) ll (t1.2.1.2.1.drewN k))
  have D4 := hid (fun k => deep_ok (w1.drewN k) lr (t1.2.1.2.2.drewN k))
  rw [hp] at c3
  have T1 := hid t1
  have C1 := hid ch1
  clear t1 ch1 SET hdl2 hp
  obtain ⟨qr, hqr⟩ := r.ptr_is
  obtain ⟨qll, hqll⟩ := ll.ptr_is
  obtain ⟨qlr, hqlr⟩ := lr.ptr_is
  rw [hqr] at c4 D2
  rw [hqll] at k3 D3
  rw [hqlr] at k4 D4
  have QLR := hid hqlr
  clear hqr hqll hqlr
  go_wp2
  go_quiet ((first | (go_at_call 22; with_reducible exact Calls.quiet_of_same (D1.out _)) | (go_at_call 22; with_reducible exact Calls.quiet_of_same (D2.out _))))
  obtain ⟨n1, rfl⟩ : ∃ n1, n1 = nq := ⟨_, rfl⟩
  clear hw1
  have D5 : Hid (∀ k, Calls Try.prog 22 #[.pointer qll] ((w1.drewN n1).drewN k) fun e w' => e = .returned (.int .i64 (ll.deep : Int)) ∧ w' = (w1.drewN n1).drewN k) := hid (fun k => by have := D3.out (n1 + k); rw [← World.drewN_drewN] at this; exact this)
  have D6 : Hid (∀ k, Calls Try.prog 22 #[.pointer qlr] ((w1.drewN n1).drewN k) fun e w' => e = .returned (.int .i64 (lr.deep : Int)) ∧ w' = (w1.drewN n1).drewN k) := hid (fun k => by have := D4.out (n1 + k); rw [← World.drewN_drewN] at this; exact this)
  have T2 := hid (T1.out.drewN n1)
  have C2 := hid (C1.out.drewN n1)
  obtain ⟨w2, hw2⟩ : ∃ w2, w2 = w1.drewN n1 := ⟨_, rfl⟩
  rw [← hw2] at D5 D6 T2 C2
  have c3' : w2.cell? ⟨b, 3, none⟩ = some (.pointer (some ⟨bl, 0, none⟩)) := by rw [hw2]; exact c3
  have k3' : w2.cell? ⟨bl, 3, none⟩ = some (.pointer qll) := by rw [hw2]; exact k3
  have k4' : w2.cell? ⟨bl, 4, none⟩ = some (.pointer qlr) := by rw [hw2]; exact k4
  by_cases hcmp : ll.deep < lr.deep
  · cases lr with
    | nil => exfalso; simp only [Tr.deep] at hcmp; omega
    | node bm em lrl lrr =>
    have hq := QLR.out
    have hq2 : some ⟨bm, 0, none⟩ = qlr := Value.pointer.inj hq
    subst hq2
    clear hq
    go_wp2
    rw [← hw2]
    clear hw2 c3 c4 k3 k4 D1 D2 D3 D4
    go_quiet ((first | (go_at_call 22; with_reducible exact Calls.quiet_of_same (D5.out _)) | (go_at_call 22; with_reducible exact Calls.quiet_of_same (D6.out _))))
    have hn := HN.out
    simp only [Tr.ads, List.nodup_cons, List.cons_append, List.mem_cons, List.mem_append, not_or, List.nodup_append, List.append_assoc] at hn
    have hb3 := T2.out.1.drewN nq
    have hr3 := T2.out.2.2.drewN nq
    have TL := hid (toLeft_ok (w2.drewN nq) bl bm x em ll lrl lrr _ _ _ (T2.out.2.1.1.drewN nq) (T2.out.2.1.2.1.drewN nq) (T2.out.2.1.2.2.drewN nq) (by
      have := (List.nodup_cons.1 HN.out).2
      have := (List.nodup_append.1 this).1
      simp only [Tr.ads, List.nodup_cons, List.mem_cons, List.mem_append, not_or, List.nodup_append] at this ⊢
      grind) (by
      have := HS.out.left
      simpa [Tr.els, List.append_assoc] using this))
    have NB : Hid (b ∉ [bl, bm]) := hid (by simp only [List.mem_cons, List.not_mem_nil, or_false, not_or]; grind)
    have NR : Hid (∀ y ∈ r.ads, ¬ Ins [bl, bm] y) := hid (by intro y hy hh; simp only [Ins, List.mem_cons, List.not_mem_nil, or_false] at hh; grind)
    have NR2 : Hid (∀ y ∈ r.ads, ¬ One b y) := hid (by intro y hy hh; rw [show y = b from hh] at hy; grind)
    have NT : Hid (∀ y ∈ (Tr.node bm em (.node bl x ll lrl) lrr).ads, ¬ One b y) := hid (by
      intro y hy hh
      rw [show y = b from hh] at hy
      simp only [Tr.ads, List.mem_cons, List.mem_append] at hy
      grind)
    have NN : Hid ((b :: bm :: ((Tr.node bl x ll lrl).ads ++ (lrr.ads ++ r.ads))).Nodup) := hid (by
      have := HN.out
      simp only [Tr.ads, List.nodup_cons, List.cons_append, List.mem_cons, List.mem_append, not_or, List.nodup_append, List.append_assoc] at this ⊢
      grind)
    have B3 := hid hb3
    have R3 := hid hr3
    clear hn hb3 hr3
    go_wp2_with fail
    refine TL.out.mono ?_
    rintro v w3 ⟨rfl, t3, ch3⟩
    have B4 := B3.out.chg ch3 NB.out
    have R4 := R3.out.chg ch3 NR.out
    have f3 := B4.frozen 3
    have x3 := B4.cell 3
    simp only [nodeC, List.getElem?_cons_succ, List.getElem?_cons_zero] at x3
    have ch4 : Chg (One b) w3 (w3.setCell ⟨b, 3, none⟩ (.pointer (some ⟨bm, 0, none⟩))) := (Chg.refl (One b) w3).setCell (p := ⟨b, 3, none⟩) (.inl (show One b b from rfl)) _
    have TR := hid (toRight_ok (w3.setCell ⟨b, 3, none⟩ (.pointer (some ⟨bm, 0, none⟩))) b bm e em (.node bl x ll lrl) lrr r _ _ _ (B4.set 3 _) (t3.chg ch4 NT.out) (R4.chg ch4 NR2.out) NN.out (by
      have := HS.out
      simpa [Tr.els, List.append_assoc] using this))
    have C3 := hid ch3
    have C4 := hid ch4
    clear t3 ch3 ch4 B4 R4 TL
    go_wp2_with fail
    refine TR.out.mono ?_
    rintro v w5 ⟨rfl, t5, ch5⟩
    replace t5 := hid t5
    have C5 := hid ch5
    clear ch5 TR
    go_wp2
    go_ret
    have q1 := H1.out
    have q2 := HD.out
    have q3 := E3.out
    obtain ⟨g1, g2, g3, g4⟩ := E2.out
    simp only [Tr.deep] at q1 q2 q3 hcmp
    refine ⟨.node bm em (.node bl x ll lrl) (.node b e lrr r), rfl, t5.out, ⟨⟨E1.out, g1, by omega, by omega⟩, ⟨g2, ER.out, by omega, by omega⟩, by simp only [Tr.deep]; omega, by simp only [Tr.deep]; omega⟩, by simp [Tr.els, List.append_assoc], ?_, ⟨by simp only [Tr.deep]; omega, by simp only [Tr.deep]; omega, by simp only [Tr.deep]; omega, fun h => by simp only [Tr.deep] at h; omega⟩, ?_⟩
    · simp only [Tr.ads, List.cons_append, List.append_assoc]
      rw [List.perm_iff_count]
      intro y
      simp only [List.count_cons, List.count_append]
      omega
    · refine ((((C2.out.mono (G := Ins (b :: ((Tr.node bl x ll (.node bm em lrl lrr)).ads ++ r.ads))) (fun y _ hy => by rw [show y = b from hy]; exact List.mem_cons_self)).drewN nq).trans C3.out (fun y _ hy => ?_)).trans C4.out (fun y _ hy => ?_)).trans C5.out (fun y _ hy => ?_)
      · simp only [Ins, Tr.ads, List.mem_cons, List.not_mem_nil, or_false, List.cons_append, List.mem_append] at hy ⊢
        grind
      · rw [show y = b from hy]; exact List.mem_cons_self
      · simp only [Ins, Tr.ads, List.mem_cons, List.not_mem_nil, or_false, List.cons_append, List.mem_append] at hy ⊢
        grind
  · go_wp2
    rw [← hw2]
    clear hw2 c3 c4 k3 k4 D1 D2 D3 D4
    go_quiet ((first | (go_at_call 22; with_reducible exact Calls.quiet_of_same (D5.out _)) | (go_at_call 22; with_reducible exact Calls.quiet_of_same (D6.out _))))
    have TR := hid (toRight_ok (w2.drewN nq) b bl e x ll lr r _ _ _ T2.out.1 (T2.out.2.1.drewN nq) (T2.out.2.2.drewN nq) (by
      have := HN.out
      simpa [Tr.ads, List.append_assoc] using this) (by
      have := HS.out
      simpa [Tr.els, List.append_assoc] using this))
    go_wp2_with (go_at_call 33; refine TR.out.mono ?_; rintro v w3 ⟨rfl, t3, ch3⟩; replace t3 := hid t3; replace ch3 := hid ch3)
    go_ret
    have q1 := H1.out
    have q2 := HD.out
    have q3 := E3.out
    refine ⟨.node bl x ll (.node b e lr r), rfl, t3.out, ⟨E1.out, ⟨E2.out, ER.out, by omega, by omega⟩, by simp only [Tr.deep]; omega, by simp only [Tr.deep]; omega⟩, by simp [Tr.els, List.append_assoc], ?_, ⟨by simp only [Tr.deep]; omega, by simp only [Tr.deep]; omega, by simp only [Tr.deep]; omega, fun h => by simp only [Tr.deep] at h; omega⟩, ?_⟩
    · simp only [Tr.ads, List.cons_append, List.append_assoc]
      refine (List.Perm.cons bl List.perm_middle).trans ?_
      exact List.Perm.swap _ _ _
    · refine ((C2.out.mono (G := Ins (b :: ((Tr.node bl x ll lr).ads ++ r.ads))) (fun y _ hy => by rw [show y = b from hy]; exact List.mem_cons_self)).drewN nq).trans ch3.out (fun y _ hy => ?_)
      simp only [Ins, Tr.ads, List.mem_cons, List.not_mem_nil, or_false, List.cons_append] at hy ⊢
      rcases hy with h | h
      · exact .inl h
      · exact .inr (.inl h)
set_option maxRecDepth 100000 in
set_option maxHeartbeats 2000000 in
theorem even_right (br : Nat) (x : TE) (l rl rr : Tr) (hb : Blk w b 49 (nodeC e l.ptr (Tr.node br x rl rr).ptr d n s)) (hl : TrAt w l) (hr : TrAt w (.node br x rl rr)) (el : l.even) (er : (Tr.node br x rl rr).even) (hn : (b :: (l.ads ++ (Tr.node br x rl rr).ads)).Nodup) (hs : Sm (l.els ++ e :: (Tr.node br x rl rr).els)) (h1 : (Tr.node br x rl rr).deep = l.deep + 2) :
    Calls Try.prog 29 #[.pointer (some ⟨b, 0, none⟩)] w (EvenP w b e l (.node br x rl rr)) := by
  have nl : b ∉ l.ads := fun hh => (List.nodup_cons.1 hn).1 (List.mem_append_left _ hh)
  have nr : b ∉ (Tr.node br x rl rr).ads := fun hh => (List.nodup_cons.1 hn).1 (List.mem_append_right _ hh)
  have SET := hid (set_ok w b e l (.node br x rl rr) d n s hb hl hr nl nr hs.left.small hs.right.small hs.mid.1 hs.mid.2)
  have hdl := (Tr.node br x rl rr).deep_cnt
  have hsl := hs.right.small.cnt
  have hd2 : (Tr.node br x rl rr).deep = 1 + max rl.deep rr.deep := rfl
  obtain ⟨dl, hdl2⟩ : ∃ dl, dl = (Tr.node br x rl rr).deep := ⟨_, rfl⟩
  have i1 : (l.deep : Int) - (dl : Int) < -1 := by omega
  have i0 : ¬ (1 : Int) < (l.deep : Int) - (dl : Int) := by omega
  have b1 : (dl : Int) ≤ 2000 := by omega
  have b2 : (l.deep : Int) ≤ 2000 := by omega
  have b3 : (rl.deep : Int) ≤ 2000 := by omega
  have b4 : (rr.deep : Int) ≤ 2000 := by omega
  have hw1 := IntWalk.i64_in ((l.deep : Int) - (dl : Int)) (by omega)
  obtain ⟨e1, e2, e3, e4⟩ := er
  have E1 := hid e1
  have E2 := hid e2
  have E3 := hid (And.intro e3 e4)
  have EL := hid el
  have HN := hid hn
  have HS := hid hs
  have H1 := hid h1
  have HD := hid hd2
  have HDL := hid hdl2
  clear hb hl hr e1 e2 e3 e4 el hn hs nl nr h1 hd2 hdl hsl
  go_enter Try.func29, Try.ntmps29
  go_wp2_with fail
  refine SET.out.mono ?_
  rintro v w1 ⟨rfl, t1, ch1⟩
  have c3 := t1.1.cell 3
  have c4 := t1.1.cell 4
  have k3 := t1.2.2.1.cell 3
  have k4 := t1.2.2.1.cell 4
  simp only [nodeC, List.getElem?_cons_succ, List.getElem?_cons_zero] at c3 c4 k3 k4
  have hp : (Tr.node br x rl rr).ptr = .pointer (some ⟨br, 0, none⟩) := rfl
  have D1 := hid (fun k => deep_ok (w1.drewN k) l (t1.2.1.drewN k))
  have D2 : Hid (∀ k, Calls Try.prog 22 #[.pointer (some ⟨br, 0, none⟩)] (w1.drewN k) fun e w' => e = .returned (.int .i64 (dl : Int)) ∧ w' = w1.drewN k) := hid (fun k => by rw [hdl2]; exact deep_ok (w1.drewN k) _ (t1.2.2.drewN k))
  have D3 := hid (fun k => deep_ok (w1.drewN k) rl (t1.2.2.2.1.drewN k))
  have D4 := hid (fun k => deep_ok (w1.drewN k) rr (t1.2.2.2.2.drewN k))
  rw [hp] at c4
  have T1 := hid t1
  have C1 := hid ch1
  clear t1 ch1 SET hdl2 hp
  obtain ⟨ql, hql⟩ := l.ptr_is
  obtain ⟨qrl, hqrl⟩ := rl.ptr_is
  obtain ⟨qrr, hqrr⟩ := rr.ptr_is
  rw [hql] at c3 D1
  rw [hqrl] at k3 D3
  rw [hqrr] at k4 D4
  have QRL := hid hqrl
  clear hql hqrl hqrr
  go_wp2
  go_quiet ((first | (go_at_call 22; with_reducible exact Calls.quiet_of_same (D1.out _)) | (go_at_call 22; with_reducible exact Calls.quiet_of_same (D2.out _))))
  obtain ⟨n1, rfl⟩ : ∃ n1, n1 = nq := ⟨_, rfl⟩
  clear hw1
  have D5 : Hid (∀ k, Calls Try.prog 22 #[.pointer qrl] ((w1.drewN n1).drewN k) fun e w' => e = .returned (.int .i64 (rl.deep : Int)) ∧ w' = (w1.drewN n1).drewN k) := hid (fun k => by have := D3.out (n1 + k); rw [← World.drewN_drewN] at this; exact this)
  have D6 : Hid (∀ k, Calls Try.prog 22 #[.pointer qrr] ((w1.drewN n1).drewN k) fun e w' => e = .returned (.int .i64 (rr.deep : Int)) ∧ w' = (w1.drewN n1).drewN k) := hid (fun k => by have := D4.out (n1 + k); rw [← World.drewN_drewN] at this; exact this)
  have T2 := hid (T1.out.drewN n1)
  have C2 := hid (C1.out.drewN n1)
  obtain ⟨w2, hw2⟩ : ∃ w2, w2 = w1.drewN n1 := ⟨_, rfl⟩
  rw [← hw2] at D5 D6 T2 C2
  have c4' : w2.cell? ⟨b, 4, none⟩ = some (.pointer (some ⟨br, 0, none⟩)) := by rw [hw2]; exact c4
  have k3' : w2.cell? ⟨br, 3, none⟩ = some (.pointer qrl) := by rw [hw2]; exact k3
  have k4' : w2.cell? ⟨br, 4, none⟩ = some (.pointer qrr) := by rw [hw2]; exact k4
  by_cases hcmp : rr.deep < rl.deep
  · cases rl with
    | nil => exfalso; simp only [Tr.deep] at hcmp; omega
    | node bm em rll rlr =>
    have hq := QRL.out
    have hq2 : some ⟨bm, 0, none⟩ = qrl := Value.pointer.inj hq
    subst hq2
    clear hq
    go_wp2
    rw [← hw2]
    clear hw2 c3 c4 k3 k4 D1 D2 D3 D4
    go_quiet ((first | (go_at_call 22; with_reducible exact Calls.quiet_of_same (D5.out _)) | (go_at_call 22; with_reducible exact Calls.quiet_of_same (D6.out _))))
    have hn := HN.out
    simp only [Tr.ads, List.nodup_cons, List.cons_append, List.mem_cons, List.mem_append, not_or, List.nodup_append, List.append_assoc] at hn
    have hb3 := T2.out.1.drewN nq
    have hl3 := T2.out.2.1.drewN nq
    have TL := hid (toRight_ok (w2.drewN nq) br bm x em rll rlr rr _ _ _ (T2.out.2.2.1.drewN nq) (T2.out.2.2.2.1.drewN nq) (T2.out.2.2.2.2.drewN nq) (by
      have := (List.nodup_cons.1 HN.out).2
      have := (List.nodup_append.1 this).2.1
      simp only [Tr.ads, List.nodup_cons, List.cons_append, List.mem_cons, List.mem_append, not_or, List.nodup_append, List.append_assoc] at this ⊢
      grind) (by
      have := HS.out.right
      simpa [Tr.els, List.append_assoc] using this))
    have NB : Hid (b ∉ [br, bm]) := hid (by simp only [List.mem_cons, List.not_mem_nil, or_false, not_or]; grind)
    have NR : Hid (∀ y ∈ l.ads, ¬ Ins [br, bm] y) := hid (by intro y hy hh; simp only [Ins, List.mem_cons, List.not_mem_nil, or_false] at hh; grind)
    have NR2 : Hid (∀ y ∈ l.ads, ¬ One b y) := hid (by intro y hy hh; rw [show y = b from hh] at hy; grind)
    have NT : Hid (∀ y ∈ (Tr.node bm em rll (.node br x rlr rr)).ads, ¬ One b y) := hid (by
      intro y hy hh
      rw [show y = b from hh] at hy
      simp only [Tr.ads, List.mem_cons, List.mem_append] at hy
      grind)
    have NN : Hid ((b :: bm :: (l.ads ++ (rll.ads ++ (Tr.node br x rlr rr).ads))).Nodup) := hid (by
      have := HN.out
      simp only [Tr.ads, List.nodup_cons, List.cons_append, List.mem_cons, List.mem_append, not_or, List.nodup_append, List.append_assoc] at this ⊢
      grind)
    have B3 := hid hb3
    have L3 := hid hl3
    clear hn hb3 hl3
    go_wp2_with fail
    refine TL.out.mono ?_
    rintro v w3 ⟨rfl, t3, ch3⟩
    have B4 := B3.out.chg ch3 NB.out
    have L4 := L3.out.chg ch3 NR.out
    have f4 := B4.frozen 4
    have x4 := B4.cell 4
    simp only [nodeC, List.getElem?_cons_succ, List.getElem?_cons_zero] at x4
    have ch4 : Chg (One b) w3 (w3.setCell ⟨b, 4, none⟩ (.pointer (some ⟨bm, 0, none⟩))) := (Chg.refl (One b) w3).setCell (p := ⟨b, 4, none⟩) (.inl (show One b b from rfl)) _
    have TR := hid (toLeft_ok (w3.setCell ⟨b, 4, none⟩ (.pointer (some ⟨bm, 0, none⟩))) b bm e em l rll (.node br x rlr rr) _ _ _ (B4.set 4 _) (L4.chg ch4 NR2.out) (t3.chg ch4 NT.out) NN.out (by
      have := HS.out
      simpa [Tr.els, List.append_assoc] using this))
    have C3 := hid ch3
    have C4 := hid ch4
    clear t3 ch3 ch4 B4 L4 TL
    go_wp2_with fail
    refine TR.out.mono ?_
    rintro v w5 ⟨rfl, t5, ch5⟩
    replace t5 := hid t5
    have C5 := hid ch5
    clear ch5 TR
    go_wp2
    go_ret
    have q1 := H1.out
    have q2 := HD.out
    have q3 := E3.out
    obtain ⟨g1, g2, g3, g4⟩ := E1.out
    simp only [Tr.deep] at q1 q2 q3 hcmp
    refine ⟨.node bm em (.node b e l rll) (.node br x rlr rr), rfl, t5.out, ⟨⟨EL.out, g1, by omega, by omega⟩, ⟨g2, E2.out, by omega, by omega⟩, by simp only [Tr.deep]; omega, by simp only [Tr.deep]; omega⟩, by simp [Tr.els, List.append_assoc], ?_, ⟨by simp only [Tr.deep]; omega, by simp only [Tr.deep]; omega, by simp only [Tr.deep]; omega, fun _ h => by simp only [Tr.deep] at h; omega⟩, ?_⟩
    · simp only [Tr.ads, List.cons_append, List.append_assoc]
      rw [List.perm_iff_count]
      intro y
      simp only [List.count_cons, List.count_append]
      omega
    · refine ((((C2.out.mono (G := Ins (b :: (l.ads ++ (Tr.node br x (.node bm em rll rlr) rr).ads))) (fun y _ hy => by rw [show y = b from hy]; exact List.mem_cons_self)).drewN nq).trans C3.out (fun y _ hy => ?_)).trans C4.out (fun y _ hy => ?_)).trans C5.out (fun y _ hy => ?_)
      · simp only [Ins, Tr.ads, List.mem_cons, List.not_mem_nil, or_false, List.cons_append, List.mem_append] at hy ⊢
        grind
      · rw [show y = b from hy]; exact List.mem_cons_self
      · simp only [Ins, Tr.ads, List.mem_cons, List.not_mem_nil, or_false, List.cons_append, List.mem_append] at hy ⊢
        grind
  · go_wp2
    rw [← hw2]
    clear hw2 c3 c4 k3 k4 D1 D2 D3 D4
    go_quiet ((first | (go_at_call 22; with_reducible exact Calls.quiet_of_same (D5.out _)) | (go_at_call 22; with_reducible exact Calls.quiet_of_same (D6.out _))))
    have TR := hid (toLeft_ok (w2.drewN nq) b br e x l rl rr _ _ _ (T2.out.1.drewN nq) (T2.out.2.1.drewN nq) (T2.out.2.2.drewN nq) (by
      have := HN.out
      simp only [Tr.ads, List.nodup_cons, List.mem_cons, List.mem_append, not_or, List.nodup_append] at this ⊢
      grind) (by
      have := HS.out
      simpa [Tr.els, List.append_assoc] using this))
    go_wp2_with (go_at_call 32; refine TR.out.mono ?_; rintro v w3 ⟨rfl, t3, ch3⟩; replace t3 := hid t3; replace ch3 := hid ch3)
    go_ret
    have q1 := H1.out
    have q2 := HD.out
    have q3 := E3.out
    refine ⟨.node br x (.node b e l rl) rr, rfl, t3.out, ⟨⟨EL.out, E1.out, by omega, by omega⟩, E2.out, by simp only [Tr.deep]; omega, by simp only [Tr.deep]; omega⟩, by simp [Tr.els, List.append_assoc], ?_, ⟨by simp only [Tr.deep]; omega, by simp only [Tr.deep]; omega, by simp only [Tr.deep]; omega, fun _ h => by simp only [Tr.deep] at h; omega⟩, ?_⟩
    · simp only [Tr.ads, List.cons_append, List.append_assoc]
      rw [List.perm_iff_count]
      intro y
      simp only [List.count_cons, List.count_append]
      omega
    · refine ((C2.out.mono (G := Ins (b :: (l.ads ++ (Tr.node br x rl rr).ads))) (fun y _ hy => by rw [show y = b from hy]; exact List.mem_cons_self)).drewN nq).trans ch3.out (fun y _ hy => ?_)
      simp only [Ins, Tr.ads, List.mem_cons, List.not_mem_nil, or_false, List.mem_append] at hy ⊢
      grind
/-- even, of both sides. -/
theorem even_ok (l r : Tr) (hb : Blk w b 49 (nodeC e l.ptr r.ptr d n s)) (hl : TrAt w l) (hr : TrAt w r) (el : l.even) (er : r.even) (hn : (b :: (l.ads ++ r.ads)).Nodup) (hs : Sm (l.els ++ e :: r.els)) (h1 : l.deep ≤ r.deep + 2) (h2 : r.deep ≤ l.deep + 2) :
    Calls Try.prog 29 #[.pointer (some ⟨b, 0, none⟩)] w (EvenP w b e l r) := by
  by_cases g1 : l.deep ≤ r.deep + 1
  · by_cases g2 : r.deep ≤ l.deep + 1
    · exact even_same w b e d n s l r hb hl hr el er hn hs g1 g2
    · cases r with
      | nil => exfalso; simp only [Tr.deep] at g2; omega
      | node br x rl rr => exact even_right w b e d n s br x l rl rr hb hl hr el er hn hs (by omega)
  · cases l with
    | nil => exfalso; simp only [Tr.deep] at g1; omega
    | node bl x ll lr => exact even_left w b e d n s bl x ll lr r hb hl hr el er hn hs (by omega)
end
end Go.Proofs.Ytnibhkeleogjcaa
