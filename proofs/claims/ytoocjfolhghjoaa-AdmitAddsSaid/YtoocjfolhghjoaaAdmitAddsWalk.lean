/- The walk of the law AdmitAdds: it returns true and changes nothing that was there. No condition. -/
import Derived.Test.YtoocjfolhghjoaaAdmitMore
namespace Go.Proofs.Ytoocjfolhghjoaa
open Go.ChangeShapes Go.WideShapes Go.ChangeAt Go.RowKit
set_option linter.unusedVariables false
theorem rnd_sub {l m : List Use} (h : ∀ u ∈ l, u ∈ m) : rnd l ∣ rnd m := rnd_dvd fun u hu => mem_rnd (h u hu)
theorem rnd_turn (l : List Use) (r : Nat) : rnd (l.drop r ++ l.take r) = rnd l := by
  refine Nat.dvd_antisymm (rnd_sub fun u hu => ?_) (rnd_sub fun u hu => ?_)
  · rcases List.mem_append.1 hu with h | h
    · exact List.mem_of_mem_drop h
    · exact List.mem_of_mem_take h
  · rw [List.mem_append, or_comm, ← List.mem_append, List.take_append_drop]; exact hu
theorem dem_turn (D : Nat) (l : List Use) (r : Nat) : dem D (l.drop r ++ l.take r) = dem D l := by
  have h0 : dem D l = dem D (l.take r) + dem D (l.drop r) := by rw [← dem_append, List.take_append_drop]
  rw [dem_append, h0, Nat.add_comm]
theorem low_turn (l : List Use) (r : Nat) : lowN (l.drop r ++ l.take r) = lowN l ∧ lowD (l.drop r ++ l.take r) = lowD l := by
  unfold lowN lowD
  rw [rnd_turn, dem_turn]
  exact ⟨rfl, rfl⟩
/-- The share, seen at any common period. -/
theorem low_at {l : List Use} (hok : ∀ u ∈ l, u.ok) {D : Nat} (hD : rnd l ∣ D) : dem D l * lowD l = lowN l * D := by
  obtain ⟨m, rfl⟩ := hD
  have h0 := low_pos hok
  have e1 := lowN_mul l
  have e2 := lowD_mul l
  rw [Nat.mul_comm (rnd l) m, dem_mul m (rnd l) l (fun u hu => mem_rnd hu)]
  generalize Nat.gcd (dem (rnd l) l) (rnd l) = g at *
  conv => lhs; rw [← e1]
  conv => rhs; rw [← e2]
  ac_rfl
theorem share_more (l m : List Use) (hl : ∀ u ∈ l, u.ok) (hlm : ∀ u ∈ l ++ m, u.ok) : lowN l * lowD (l ++ m) ≤ lowN (l ++ m) * lowD l := by
  have hp := rnd_pos hlm
  have h1 := low_at hl (rnd_sub (m := l ++ m) fun u hu => List.mem_append_left _ hu)
  have h2 := low_at hlm (Nat.dvd_refl _)
  have h3 : dem (rnd (l ++ m)) l ≤ dem (rnd (l ++ m)) (l ++ m) := by rw [dem_append]; exact Nat.le_add_right _ _
  generalize rnd (l ++ m) = D at *
  generalize lowN (l ++ m) = n3 at *
  generalize lowD (l ++ m) = d3 at *
  generalize lowN l = n1 at *
  generalize lowD l = d1 at *
  refine Nat.le_of_mul_le_mul_right (c := D) ?_ hp
  have e1 : n1 * d3 * D = dem D l * (d1 * d3) := by rw [Nat.mul_right_comm, ← h1, Nat.mul_assoc]
  have e2 : n3 * d1 * D = dem D (l ++ m) * (d1 * d3) := by rw [Nat.mul_right_comm, ← h2, Nat.mul_assoc, Nat.mul_comm d3]
  rw [e1, e2]
  exact Nat.mul_le_mul_right _ h3
theorem good_app {l m : List Use} (h : Good l) (h' : Good m) (hl : l.length ≤ 8) (hm : m.length ≤ 8) : (∀ u ∈ l ++ m, u.ok) ∧ lowN (l ++ m) ≤ 4000 ∧ lowD (l ++ m) ≤ 4000 := by
  have hok : ∀ u ∈ l ++ m, u.ok := fun u hu => by
    rcases List.mem_append.1 hu with h1 | h1
    · exact h.ok u h1
    · exact h'.ok u h1
  have hr : rnd (l ++ m) ≤ 120 := Nat.le_of_dvd (by decide) (rnd_dvd fun u hu => by
    rcases List.mem_append.1 hu with h1 | h1
    · exact (h.1 u h1).2
    · exact (h'.1 u h1).2)
  have h2 : lowN (l ++ m) ≤ dem (rnd (l ++ m)) (l ++ m) := Nat.div_le_self _ _
  have h3 : lowD (l ++ m) ≤ rnd (l ++ m) := Nat.div_le_self _ _
  have h4 := dem_le (rnd (l ++ m)) (l ++ m) hok
  have h5 : (l ++ m).length * rnd (l ++ m) ≤ 16 * 120 := Nat.mul_le_mul (by simp; omega) hr
  refine ⟨hok, ?_, ?_⟩ <;> omega
theorem low_good {l : List Use} (h : Good l) : lowN l ≤ 120 ∧ lowD l ≤ 120 := by
  have h1 : rnd l ≤ 120 := Nat.le_of_dvd (by decide) (rnd_dvd fun u hu => (h.1 u hu).2)
  have h2 := h.2
  unfold fit at h2
  have h3 : lowN l ≤ dem (rnd l) l := Nat.div_le_self _ _
  have h4 : lowD l ≤ rnd l := Nat.div_le_self _ _
  omega
theorem prod_wrap (a b : Nat) (ha : a ≤ 4000) (hb : b ≤ 4000) : wrap64 ((a : Int) * (b : Int)) = ((a * b : Nat) : Int) := by
  have := Nat.mul_le_mul ha hb
  rw [← Int.natCast_mul, wrap64_nat _ (by omega)]
theorem share_n (R : Nat → Prop) (a : Option Addr) (n c : Nat) (l : List Use) (w : World) (hn : n = l.length) (h : Rd w R 2 a n c (l.flatMap useCells)) (hl : l.length ≤ 16) (hok : ∀ u ∈ l, u.ok) (p q : Nat) (hp : lowN l = p) (hq : lowD l = q) :
    Calls Try.prog 14 #[.slice a n c] w (P3 (p : Nat) (q : Nat) 0 w) := by
  subst hn; subst hp; subst hq
  exact share_ok R a c l w h hl hok
theorem demand_n (R : Nat → Prop) (a : Option Addr) (n c : Nat) (l : List Use) (t : Nat) (w : World) (hn : n = l.length) (h : Rd w R 2 a n c (l.flatMap useCells)) (hl : l.length ≤ 16) (hok : ∀ u ∈ l, u.ok) (ht : t ≤ 100000) (p : Nat) (hp : dem t l = p) :
    Calls Try.prog 15 #[.slice a n c, .int .i64 t] w (P2 (p : Nat) 0 w) := by
  subst hn; subst hp
  exact demand_ok R a c l t w h hl hok ht
set_option maxRecDepth 100000 in
set_option maxHeartbeats 2000000 in
theorem admitAdds_walk (a0 : Option Addr) (len0 cap0 : Nat) (z0 : List Int) (a1 : Option Addr) (len1 cap1 : Nat) (z1 : List Int) (a2 a3 : Int) (w : World) (w0 : IsRow .i64 w a0 len0 cap0 z0) (w1 : IsRow .i64 w a1 len1 cap1 z1) (w2 : (Lit.int .i64 a2).wf = true) (w3 : (Lit.int .i64 a3).wf = true) :
    Calls Try.prog 6 #[.slice a0 len0 cap0, .slice a1 len1 cap1, .int .i64 a2, .int .i64 a3] w fun e w' => e = .returned (.bool true) ∧ Below w.heap.size w w' := by
  have W0 := hid w0.1
  have W1 := hid w1.1
  clear w0 w1
  have HR := hid (Rd.of_blk (n := 1) (s := 2) (Blk.new w 35 (([⟨2, 3⟩] : List Use).flatMap useCells)) rfl (by decide))
  have HO : Hid (∀ u ∈ ([⟨2, 3⟩] : List Use), u.ok) := by
    intro u hu
    rw [List.mem_singleton.1 hu]
    exact ⟨by decide, by decide, by decide⟩
  go_enter Try.func6, Try.ntmps6
  go_wp2_with fail
  refine (demand_ok _ _ _ [⟨2, 3⟩] 7 _ HR.out (by decide) HO.out (by omega)).mono ?_
  rw [show dem 7 [⟨2, 3⟩] = 4 by decide +kernel]
  rintro e w1 ⟨rfl, c1⟩
  have C1 := hid (push_chg c1)
  clear c1 HR HO
  go_wp2_with fail
  refine (sets_ok _ _ _ _ z0 _ (W0.out.chg C1.out (fun _ _ _ h => h))).mono ?_
  rintro e w2 ⟨a, n, c, rfl, l, G, rfl, i2, i3, i4, i5, i6⟩
  have C2 := hid (C1.out.trans i5 (fun _ _ h => h))
  clear i5 i6 C1
  replace i3 := hid i3
  replace i4 := hid i4
  go_wp2_with fail
  refine (sets_ok _ _ _ _ z1 _ (W1.out.chg C2.out (fun _ _ _ h => h))).mono ?_
  rintro e w3 ⟨a', n', c', rfl, l', G', rfl, j2, j3, j4, j5, j6⟩
  have C3 := hid (C2.out.trans j5 (fun _ _ h => h))
  replace i4 := hid (i4.out.chg j5 (fun _ _ h => h))
  clear j5 j6 C2
  replace j3 := hid j3
  replace j4 := hid j4
  go_wp2_with fail
  refine (rest_nat _ ((l.length : Int) + 1) _ (by omega) (by omega)).mono ?_
  rintro e w4 ⟨r, hr, rfl, rfl⟩
  go_wp2_with fail
  refine (rest_nat _ 1000 _ (by omega) (by omega)).mono ?_
  rintro e w4 ⟨t, ht, rfl, rfl⟩
  have hr' : r ≤ l.length := by omega
  have hcap := i4.out.1
  have hcm := i4.out.2.1
  unfold maxLen at hcm
  have hrc : r ≤ c := by omega
  have hn1 : l.length - r + r ≤ 1000 := by omega
  have hsl := run_from eUse a l.length c r (r : Int) rfl hr'
  have hA := i4.out.rd.take_n (k := r) hr'
  have hB := i4.out.rd.drop_n (k := r) hr'
  rw [flat_take useCells 2 use_len] at hA
  rw [flat_drop useCells 2 use_len] at hB
  have hA' := hid (hA.alloc (.cells #[.slice (adv a c r 2) (l.length - r) (c - r), .slice a r c] 24))
  have hB' := hid (hB.alloc (.cells #[.slice (adv a c r 2) (l.length - r) (c - r), .slice a r c] 24))
  have hC := hid (Rd.of_blk (n := 2) (s := 1) (Blk.new w3 24 [.slice (adv a c r 2) (l.length - r) (c - r), .slice a r c]) rfl (by decide))
  clear hA hB
  go_wp2
  go_region_held3 (fun _ => True) (exact trivial)
    (first | (go_at_call 18; refine (cat2 _ _ _ _ _ _ _ _ _ _ (l.drop r) (l.take r) _ (hC.out.drewN 1) (hB'.out.drewN 1) (hA'.out.drewN 1) hn1).mono ?_; rintro e w6 ⟨a4, c4, G4, rfl, y1, y2, y3⟩; replace y1 := hid y1; replace y2 := hid y2; replace y3 := hid y3))
  have c6 : Chg Nil w3 w6 := push_chg (((Chg.refl Nil _).drew).trans y2.out (fun _ _ h => h))
  have C6 := hid (C3.out.trans c6 (fun _ _ h => h))
  replace i4 := hid (i4.out.chg c6 (fun _ _ h => h))
  replace j4 := hid (j4.out.chg c6 (fun _ _ h => h))
  clear c6 y2 y3 C3 hA' hB' hC hsl
  have hL : l.length - r + r = l.length := by omega
  rw [hL] at y1
  obtain ⟨o, ho⟩ : ∃ o, o = l.drop r ++ l.take r := ⟨_, rfl⟩
  rw [← ho] at y1
  have hol : o.length = l.length := by rw [ho]; simp; omega
  have hoo : ∀ u ∈ o, u.ok := fun u hu => by
    rw [ho] at hu
    rcases List.mem_append.1 hu with h | h
    · exact i3.out.ok u (List.mem_of_mem_drop h)
    · exact i3.out.ok u (List.mem_of_mem_take h)
  have hlow := low_turn l r
  rw [← ho] at hlow
  have HOO := hid hoo
  have HLW := hid hlow
  have Y1 := y1
  have hl16 : l.length ≤ 16 := by omega
  have ho16 : o.length ≤ 16 := by omega
  have hl16' : l'.length ≤ 16 := by omega
  clear y1 hoo hlow ho
  have HOL := hid hol
  clear hol
  go_wp2_with fail
  refine (share_ok _ _ _ l _ i4.out.rd hl16 i3.out.ok).mono ?_
  rintro e w7 ⟨rfl, c7⟩
  replace i4 := hid (i4.out.chg c7 (fun _ _ h => h))
  replace j4 := hid (j4.out.chg c7 (fun _ _ h => h))
  replace Y1 := hid (Y1.out.chg c7 (fun _ _ h => h))
  replace C6 := hid (C6.out.trans c7 (fun _ _ h => h))
  clear c7
  go_wp2_with fail
  refine (share_n _ _ _ _ o _ HOL.out.symm Y1.out.rd ho16 HOO.out _ _ HLW.out.1 HLW.out.2).mono ?_
  rintro e w8 ⟨rfl, c8⟩
  replace i4 := hid (i4.out.chg c8 (fun _ _ h => h))
  replace j4 := hid (j4.out.chg c8 (fun _ _ h => h))
  replace C6 := hid (C6.out.trans c8 (fun _ _ h => h))
  clear c8 Y1 HOO HLW
  go_wp2_with fail
  refine (demand_ok _ _ _ l t _ i4.out.rd hl16 i3.out.ok (by omega)).mono ?_
  rintro e w9 ⟨rfl, c9⟩
  replace i4 := hid (i4.out.chg c9 (fun _ _ h => h))
  replace j4 := hid (j4.out.chg c9 (fun _ _ h => h))
  replace C6 := hid (C6.out.trans c9 (fun _ _ h => h))
  clear c9
  go_wp2_with fail
  refine (demand_ok _ _ _ l' t _ j4.out.rd hl16' j3.out.ok (by omega)).mono ?_
  rintro e w10 ⟨rfl, c10⟩
  replace i4 := hid (i4.out.chg c10 (fun _ _ h => h))
  replace j4 := hid (j4.out.chg c10 (fun _ _ h => h))
  replace C6 := hid (C6.out.trans c10 (fun _ _ h => h))
  clear c10
  obtain ⟨g1, g2, g3⟩ := good_app i3.out j3.out i2 j2
  replace g1 := hid g1
  have hlen := hid (show (l ++ l').length = l.length + l'.length by simp)
  have h16 : (l ++ l').length ≤ 16 := by rw [hlen.out]; omega
  have cA := hid (i4.out.rd.alloc (.cells #[.slice a l.length c, .slice a' l'.length c'] 24))
  have cB := hid (j4.out.rd.alloc (.cells #[.slice a l.length c, .slice a' l'.length c'] 24))
  have cC := hid (Rd.of_blk (n := 2) (s := 1) (Blk.new w10 24 [.slice a l.length c, .slice a' l'.length c']) rfl (by decide))
  go_wp2_with fail
  refine (cat2 _ _ _ _ _ _ _ _ _ _ l l' _ cC.out cA.out cB.out (by omega)).mono ?_
  rintro e w11 ⟨a5, c5, G5, rfl, x1, x2, x3⟩
  clear cA cB cC x3
  replace x2 := push_chg x2
  replace i4 := hid (i4.out.chg x2 (fun _ _ h => h))
  replace j4 := hid (j4.out.chg x2 (fun _ _ h => h))
  replace C6 := hid (C6.out.trans x2 (fun _ _ h => h))
  clear x2
  replace x1 := hid x1
  go_wp2_with fail
  refine (demand_n _ _ _ _ (l ++ l') t _ hlen.out.symm x1.out.rd h16 g1.out (by omega) _ (dem_append t l l')).mono ?_
  rintro e w12 ⟨rfl, c12⟩
  replace i4 := hid (i4.out.chg c12 (fun _ _ h => h))
  replace j4 := hid (j4.out.chg c12 (fun _ _ h => h))
  replace C6 := hid (C6.out.trans c12 (fun _ _ h => h))
  clear c12 x1
  have cA := hid (i4.out.rd.alloc (.cells #[.slice a l.length c, .slice a' l'.length c'] 24))
  have cB := hid (j4.out.rd.alloc (.cells #[.slice a l.length c, .slice a' l'.length c'] 24))
  have cC := hid (Rd.of_blk (n := 2) (s := 1) (Blk.new w12 24 [.slice a l.length c, .slice a' l'.length c']) rfl (by decide))
  go_wp2_with fail
  refine (cat2 _ _ _ _ _ _ _ _ _ _ l l' _ cC.out cA.out cB.out (by omega)).mono ?_
  rintro e w13 ⟨a6, c6, G6, rfl, x1, x2, x3⟩
  clear cA cB cC x3
  replace x2 := push_chg x2
  replace C6 := hid (C6.out.trans x2 (fun _ _ h => h))
  clear x2
  replace x1 := hid x1
  go_wp2_with fail
  refine (share_n _ _ _ _ (l ++ l') _ hlen.out.symm x1.out.rd h16 g1.out _ _ rfl rfl).mono ?_
  rintro e w14 ⟨rfl, c14⟩
  replace C6 := hid (C6.out.trans c14 (fun _ _ h => h))
  clear c14 x1
  have hsm := share_more l l' i3.out.ok g1.out
  obtain ⟨b1, b2⟩ := low_good i3.out
  have d1 := dem_take_le t l i3.out.ok hl16 l.length
  have d2 := dem_take_le t l' j3.out.ok hl16' l'.length
  rw [List.take_length] at d1 d2
  generalize lowN l = n1 at *
  generalize lowD l = d1' at *
  generalize lowN (l ++ l') = n3 at *
  generalize lowD (l ++ l') = d3 at *
  generalize dem t l = x at *
  generalize dem t l' = y at *
  have p1 := prod_wrap n1 d3 (by omega) (by omega)
  have p2 := prod_wrap n3 d1' (by omega) (by omega)
  have hsi : (n1 : Int) * (d3 : Int) ≤ (n3 : Int) * (d1' : Int) := by rw [← Int.natCast_mul, ← Int.natCast_mul]; exact Int.ofNat_le.2 hsm
  clear hsm
  have hE := hid (Blk.new w14 27 [.int .i64 0, .int .i64 0, .int .i64 0, .int .i64 0, .int .i64 0, .int .i64 0])
  replace p1 := hid p1
  replace p2 := hid p2
  replace hsi := hid hsi
  go_wp2
  go_loop [112] (fun s112 => ∃ k : Nat, k ≤ 6 ∧ s112 = .int .i64 k) (fun s112 => 6 - (intOf s112).toNat)
  case atStart => exact ⟨0, by omega, rfl⟩
  case round =>
    obtain ⟨k, hk, rfl⟩ := hrel
    by_cases hlt : k < 6
    · have hc1 := hE.out.cell k
      have hv : ([.int .i64 0, .int .i64 0, .int .i64 0, .int .i64 0, .int .i64 0, .int .i64 0] : List Value)[k]? = some (.int .i64 0) := by
        rcases k with _ | _ | _ | _ | _ | _ | k <;> first | rfl | omega
      rw [hv] at hc1
      clear hv
      go_wp2
      go_round
      case rel => exact ⟨k + 1, by omega, by go_num⟩
      case measure => simp [intOf]; omega
    · have q1 := p1.out
      have q2 := p2.out
      have q3 := hsi.out
      go_wp2
      go_ret
      exact ⟨rfl, Chg.below (C6.out.alloc _) (fun i hi h => h) (Nat.le_refl _)⟩
end Go.Proofs.Ytoocjfolhghjoaa
