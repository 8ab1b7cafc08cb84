/- The walk of the law AdmitDemand: it returns true and changes nothing that was there. No condition. -/
import Derived.Test.YtoocjfolhghjoaaSets
namespace Go.Proofs.Ytoocjfolhghjoaa
open Go.ChangeShapes Go.WideShapes Go.ChangeAt Go.RowKit
set_option linter.unusedVariables false
theorem good_rnd {l : List Use} (h : Good l) : rnd l ≤ 120 ∧ dem (rnd l) l ≤ rnd l := by
  refine ⟨Nat.le_of_dvd (by decide) (rnd_dvd fun u hu => (h.1 u hu).2), ?_⟩
  have := h.2
  unfold fit at this
  omega
theorem good_dem {l : List Use} (h : Good l) (t : Nat) : dem t l ≤ t ∧ dem t l * lowD l ≤ lowN l * t ∧ dem (rnd l) l * lowD l = lowN l * rnd l := by
  have h1 := dem_share t (rnd l) l (fun u hu => mem_rnd hu)
  have h2 := (good_rnd h).2
  have h3 := rnd_pos h.ok
  refine ⟨?_, ?_, ?_⟩
  · have h4 : dem (rnd l) l * t ≤ rnd l * t := Nat.mul_le_mul_right _ h2
    have h5 : dem t l * rnd l ≤ t * rnd l := by rw [Nat.mul_comm t]; exact Nat.le_trans h1 h4
    exact Nat.le_of_mul_le_mul_right h5 h3
  · have h0 := low_pos h.ok
    have e1 := lowN_mul l
    have e2 := lowD_mul l
    generalize Nat.gcd (dem (rnd l) l) (rnd l) = g at *
    refine Nat.le_of_mul_le_mul_right (c := g) ?_ h0
    rw [Nat.mul_assoc, e2, Nat.mul_right_comm, e1]
    exact h1
  · have e1 := lowN_mul l
    have e2 := lowD_mul l
    generalize Nat.gcd (dem (rnd l) l) (rnd l) = g at *
    conv => lhs; rw [← e1]
    conv => rhs; rw [← e2]
    rw [Nat.mul_assoc, Nat.mul_comm g]
theorem low_le {l : List Use} (h : Good l) : lowN l ≤ 120 ∧ lowD l ≤ 120 := by
  have h1 := good_rnd h
  have h2 : lowN l ≤ dem (rnd l) l := Nat.div_le_self _ _
  have h3 : lowD l ≤ rnd l := Nat.div_le_self _ _
  omega
/-- Both products that the law compares, as the machine reckons them. -/
theorem prod_wrap (a b : Nat) (ha : a ≤ 4000) (hb : b ≤ 4000) : wrap64 ((a : Int) * (b : Int)) = ((a * b : Nat) : Int) := by
  have := Nat.mul_le_mul ha hb
  rw [← Int.natCast_mul, wrap64_nat _ (by omega)]
set_option maxRecDepth 100000 in
set_option maxHeartbeats 1000000 in
theorem admitDemand_walk (a0 : Option Addr) (len0 cap0 : Nat) (z0 : List Int) (a1 : Int) (w : World) (w0 : IsRow .i64 w a0 len0 cap0 z0) (w1 : (Lit.int .i64 a1).wf = true) :
    Calls Try.prog 3 #[.slice a0 len0 cap0, .int .i64 a1] w fun e w' => e = .returned (.bool true) ∧ Below w.heap.size w w' := by
  have W0 := hid w0.1
  clear w0
  go_enter Try.func3, Try.ntmps3
  go_wp2_with fail
  refine (begun_ok _).mono ?_
  rintro e w1 ⟨rfl, c1⟩
  replace W0 := hid (W0.out.chg c1 (fun _ _ _ h => h))
  replace c1 := hid c1
  go_wp2_with fail
  refine (sets_ok _ _ _ _ z0 _ W0.out).mono ?_
  rintro e w2 ⟨a, n, c, rfl, l, G, rfl, i2, i3, i4, i5, i6⟩
  have C2 := hid (c1.out.trans i5 (fun _ _ h => h))
  clear i5 i6
  replace i3 := hid i3
  replace i4 := hid i4
  have hl16 : l.length ≤ 16 := by omega
  go_wp2_with fail
  refine (rest_nat _ 2000 _ (by omega) (by omega)).mono ?_
  rintro e w3 ⟨t, ht, rfl, rfl⟩
  go_wp2_with fail
  refine (share_ok _ _ _ l _ i4.out.rd hl16 i3.out.ok).mono ?_
  rintro e w3 ⟨rfl, c3⟩
  have i4' := hid (i4.out.chg c3 (fun _ _ h => h))
  have C3 := hid (C2.out.trans c3 (fun _ _ h => h))
  clear c3 i4 C2
  go_wp2_with fail
  refine (demand_ok _ _ _ l t _ i4'.out.rd hl16 i3.out.ok (by omega)).mono ?_
  rintro e w4 ⟨rfl, c4⟩
  have i4 := hid (i4'.out.chg c4 (fun _ _ h => h))
  have C4 := hid (C3.out.trans c4 (fun _ _ h => h))
  clear c4 i4' C3
  go_wp2_with fail
  refine (round_ok _ _ _ l _ i4.out.rd hl16 i3.out.ok).mono ?_
  rintro e w5 ⟨rfl, c5⟩
  have i4' := hid (i4.out.chg c5 (fun _ _ h => h))
  have C5 := hid (C4.out.trans c5 (fun _ _ h => h))
  clear c5 i4 C4
  obtain ⟨b1, b2⟩ := good_rnd i3.out
  have b3 := rnd_pos i3.out.ok
  obtain ⟨b4, b5⟩ := low_le i3.out
  go_wp2_with fail
  refine (demand_ok _ _ _ l (rnd l) _ i4'.out.rd hl16 i3.out.ok (by omega)).mono ?_
  rintro e w6 ⟨rfl, c6⟩
  have C6 := hid (C5.out.trans c6 (fun _ _ h => h))
  clear c6 C5
  obtain ⟨d1, d2, d3⟩ := good_dem i3.out t
  generalize lowN l = N at *
  generalize lowD l = D at *
  generalize hX : dem t l = X at *
  generalize hR : rnd l = r at *
  generalize hY : dem r l = Y at *
  clear hX hR hY
  have p1 := prod_wrap X D (by omega) (by omega)
  have p2 := prod_wrap N t (by omega) (by omega)
  have p3 := prod_wrap Y D (by omega) (by omega)
  have p4 := prod_wrap N r (by omega) (by omega)
  rw [d3] at p3
  have d2i : (X : Int) * (D : Int) ≤ (N : Int) * (t : Int) := by rw [← Int.natCast_mul, ← Int.natCast_mul]; exact Int.ofNat_le.2 d2
  replace d3 := hid d3
  replace d2 := hid d2
  go_wp2
  go_ret
  exact ⟨rfl, ((Chg.below C6.out (fun i hi h => h) (Nat.le_refl _)))⟩
end Go.Proofs.Ytoocjfolhghjoaa
