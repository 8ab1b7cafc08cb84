/- The walk of the law FairWeights: it returns true and changes nothing that was there. No condition. -/
import Derived.Test.YtpafafleepcjdaaFairSharesWalk
namespace Go.Proofs.Ytpafafleepcjdaa
open Go.ChangeShapes Go.WideShapes Go.ChangeAt Go.RowKit
set_option linter.unusedVariables false
theorem pow_ok (a : Nat) (h : a < 7) : (2 : Int) ^ a = ((2 ^ a : Nat) : Int) ∧ 1 ≤ 2 ^ a ∧ 2 ^ a ≤ 64 ∧ 1048576 / 2 ^ a * 2 ^ a = 1048576 := by
  rcases a with _ | _ | _ | _ | _ | _ | _ | a
  all_goals first | decide | omega
theorem wtF_sub (A : Nat) (h1 : 1 ≤ A) (h2 : A ≤ 64) : wtF ((A : Int) - 1) = A := by
  have e : rest ((A : Int) - 1) 100 = (A : Int) - 1 := by unfold rest; omega
  unfold wtF
  rw [e]
  omega
/-- Twice as heavy, twice as many. -/
theorem weigh {A B cA cB x y v u most : Nat} (hA : cA * A = 1048576) (hB : cB * B = 1048576) (hv : v = cA * x) (hu : u = cB * y) (hn : v ≤ u + most) (hm : most ≤ cA ∨ most ≤ cB) (M : Nat) (hMA : A ≤ M) (hMB : B ≤ M) : x * B ≤ y * A + M := by
  have e1 : v * (A * B) = 1048576 * (x * B) := by rw [hv, ← hA]; ac_rfl
  have e2 : u * (A * B) = 1048576 * (y * A) := by rw [hu, ← hB]; ac_rfl
  have e3 : most * (A * B) ≤ 1048576 * M := by
    rcases hm with hm | hm
    · refine Nat.le_trans (Nat.mul_le_mul_right _ hm) ?_
      have : cA * (A * B) = 1048576 * B := by rw [← hA]; ac_rfl
      rw [this]; exact Nat.mul_le_mul_left _ hMB
    · refine Nat.le_trans (Nat.mul_le_mul_right _ hm) ?_
      have : cB * (A * B) = 1048576 * A := by rw [← hB]; ac_rfl
      rw [this]; exact Nat.mul_le_mul_left _ hMA
  have h1 := Nat.mul_le_mul_right (A * B) hn
  rw [Nat.add_mul, e1, e2] at h1
  have h2 : 1048576 * (x * B) ≤ 1048576 * (y * A + M) := by rw [Nat.mul_add]; omega
  exact Nat.le_of_mul_le_mul_left h2 (by omega)
theorem si_weigh {A B m : Nat} {ts : List FT} {g : Nat → Nat} (hA1 : 1 ≤ A) (hA2 : A ≤ 64) (hB1 : 1 ≤ B) (hB2 : B ≤ 64) (hA : 1048576 / A * A = 1048576) (hB : 1048576 / B * B = 1048576) (h : SI [(A : Int) - 1, (B : Int) - 1] (max (cost A) (cost B)) m ts g) (M : Nat) (hMA : A ≤ M) (hMB : B ≤ M) : g 0 * B ≤ g 1 * A + M ∧ g 1 * A ≤ g 0 * B + M := by
  have hl : ts.length = 2 := h.inv.len
  have h0 := List.getElem?_eq_getElem (l := ts) (i := 0) (by omega)
  have h1 := List.getElem?_eq_getElem (l := ts) (i := 1) (by omega)
  have e0 := (h.each 0 _ h0).2.2
  have e1 := (h.each 1 _ h1).2.2
  simp only [List.getD_cons_zero, List.getD_cons_succ, wtF_sub A hA1 hA2, wtF_sub B hB1 hB2] at e0 e1
  have n1 := h.near 0 1 _ _ h0 h1
  have n2 := h.near 1 0 _ _ h1 h0
  have hm : max (cost A) (cost B) ≤ cost A ∨ max (cost A) (cost B) ≤ cost B := by omega
  exact ⟨weigh hA hB e0 e1 n1 hm M hMA hMB, weigh hB hA e1 e0 n2 hm.symm M hMB hMA⟩
set_option maxRecDepth 100000 in
set_option maxHeartbeats 4000000 in
theorem fairWeights_walk (a0 a1 a2 : Int) (w : World) (w0 : (Lit.int .i64 a0).wf = true) (w1 : (Lit.int .i64 a1).wf = true) (w2 : (Lit.int .i64 a2).wf = true) :
    Calls Try.prog 4 #[.int .i64 a0, .int .i64 a1, .int .i64 a2] w fun e w' => e = .returned (.bool true) ∧ Below w.heap.size w w' := by
  go_enter Try.func4, Try.ntmps4
  go_wp2_with fail
  refine (fbegun_ok _).mono ?_
  rintro e w1 ⟨rfl, c1⟩
  have C1 := hid (Chg.below c1 (fun i hi h => h) (Nat.le_refl _))
  clear c1
  go_wp2_with fail
  refine (rest_nat _ 7 _ (by omega) (by omega)).mono ?_
  rintro e w2 ⟨a, ha, rfl, rfl⟩
  go_wp2_with fail
  refine (rest_nat _ 7 _ (by omega) (by omega)).mono ?_
  rintro e w2 ⟨b, hb, rfl, rfl⟩
  obtain ⟨pa1, pa2, pa3, pa4⟩ := pow_ok a (by omega)
  obtain ⟨pb1, pb2, pb3, pb4⟩ := pow_ok b (by omega)
  obtain ⟨A, hA⟩ : ∃ A, A = 2 ^ a := ⟨_, rfl⟩
  obtain ⟨B, hB⟩ : ∃ B, B = 2 ^ b := ⟨_, rfl⟩
  rw [← hA] at pa1 pa2 pa3 pa4
  rw [← hB] at pb1 pb2 pb3 pb4
  have HAB : Hid (a ≤ b → A ≤ B) := fun h => by rw [hA, hB]; exact Nat.pow_le_pow_right (by omega) h
  have HBA : Hid (b ≤ a → B ≤ A) := fun h => by rw [hA, hB]; exact Nat.pow_le_pow_right (by omega) h
  have HP4 := hid pa4
  have HQ4 := hid pb4
  clear hA hB pa4 pb4
  have wA := IntWalk.i64_in (A : Int) (by omega)
  have wB := IntWalk.i64_in (B : Int) (by omega)
  have wA1 := IntWalk.i64_in ((A : Int) - 1) (by omega)
  have wB1 := IntWalk.i64_in ((B : Int) - 1) (by omega)
  have HR := hid ((Rd.of_blk (n := 2) (s := 1) (Blk.new w1 3 (ints .i64 [(A : Int) - 1, (B : Int) - 1])) rfl (by decide)).drewN 1)
  have h216 : 2 ≤ 16 := by omega
  go_wp2
  go_region_held3 (fun _ => True) (exact trivial)
    (first | (go_at_call 11; refine (fairs_ok _ _ 2 2 [(A : Int) - 1, (B : Int) - 1] _ HR.out h216).mono ?_; rintro e w2 ⟨F, p, rfl, h2⟩; replace h2 := hid h2))
  have hM : FMem w.heap.size w F p (mkF [(A : Int) - 1, (B : Int) - 1] 2) w2 := by
    have h3 := h2.out
    have c0 := C1.out.size
    have hs : (w1.alloc (.cells (ints .i64 [(A : Int) - 1, (B : Int) - 1]).toArray 3)).heap.size = w1.heap.size + 1 := by simp
    have hbel : Below w.heap.size w ((w1.alloc (.cells (ints .i64 [(A : Int) - 1, (B : Int) - 1]).toArray 3)).drewN 1) := by
      have := C1.out.alloc c0 (.cells (ints .i64 [(A : Int) - 1, (B : Int) - 1]).toArray 3)
      exact ⟨this.os, this.tape, this.output, this.size, this.block⟩
    have hsz := hbel.size
    exact ⟨h3.fair, fun k hk => by have := h3.new k hk; exact Nat.le_trans hsz this, hbel.trans (h3.bel.mono hsz), Nat.le_trans hsz h3.sz⟩
  replace hM := hid hM
  have hS := hid (si_new [(A : Int) - 1, (B : Int) - 1] (max (cost A) (cost B)) (by simp))
  clear h2 C1 HR wA1 wB1 wA wB
  have HMX : Hid (∀ i, i < [(A : Int) - 1, (B : Int) - 1].length → cost (wtF ([(A : Int) - 1, (B : Int) - 1].getD i 0)) ≤ max (cost A) (cost B)) := fun i hi => by
    rcases i with _ | _ | i
    · rw [List.getD_cons_zero, wtF_sub A pa2 pa3]; omega
    · rw [List.getD_cons_succ, List.getD_cons_zero, wtF_sub B pb2 pb3]; omega
    · simp at hi; omega
  have r1 := rest_nonneg a2 1000 (by omega)
  have r2 := rest_lt a2 1000 (by omega)
  obtain ⟨T, hT⟩ := Int.eq_ofNat_of_zero_le r1
  rw [hT] at r2
  replace hT := hid hT
  clear r1
  go_wp2_with fail
  refine (rest_any _ _ _ (by omega) (by omega)).mono ?_
  rw [hT.out]
  rintro e w3 ⟨rfl, rfl⟩
  go_wp2
  go_loopw [9, 10, 35] (fun s9 s10 s35 wr => ∃ (m x y : Nat) (ts : List FT) (g : Nat → Nat), m ≤ T ∧ x ≤ m ∧ y ≤ m ∧ s9 = .int .i64 x ∧ s10 = .int .i64 y ∧ s35 = .int .i64 m ∧ Hid (g 0 = x ∧ g 1 = y) ∧ Hid (SI [(A : Int) - 1, (B : Int) - 1] (max (cost A) (cost B)) m ts g) ∧ Hid (FMem w.heap.size w F p ts wr)) (fun _ _ s35 _ => T - (intOf s35).toNat)
  case atStart => exact ⟨0, 0, 0, _, fun _ => 0, by omega, by omega, by omega, rfl, rfl, rfl, ⟨rfl, rfl⟩, hS, hM⟩
  case round =>
    clear hS hM
    obtain ⟨m, x, y, ts, g, hm, hxm, hym, rfl, rfl, rfl, hg, hS, hM⟩ := hrel
    by_cases hlt : m < T
    · have htl : ts.length ≤ 1000 := by have := hS.out.inv.len; simp at this; omega
      go_wp2_with fail
      refine (ftick_ok _ F p (m * 1048576) ts hM.out.fair htl (by omega) hS.out.inv.ok).mono ?_
      rintro e w4 ⟨bb, hbb, rfl, h4, c4⟩
      obtain ⟨j, hj, rfl, hS2⟩ := si_tick hS.out HMX.out (by simp) hbb
      have hM2 := hid (hM.out.step h4 c4 (Grew.refl _ _))
      rw [hS.out.inv.numF hj]
      simp only [Option.isSome_some, if_true]
      have hj2 : j < 2 := by simpa using hj
      replace hS2 := hid hS2
      replace hbb := hid hbb
      clear h4 c4 hj
      obtain ⟨g1, g2⟩ := hg.out
      rcases j with _ | _ | j
      · have hg' : (if 0 = 0 then g 0 + 1 else g 0) = x + 1 ∧ (if 1 = 0 then g 1 + 1 else g 1) = y := by simp [g1, g2]
        replace hg' := hid hg'
        replace g1 := hid g1
        replace g2 := hid g2
        go_wp2
        go_roundw
        case rel => exact ⟨m + 1, x + 1, y, _, _, by omega, by omega, by omega, by go_num, rfl, by go_num, hg', hS2, hM2⟩
        case measure => simp [intOf]; omega
      · have hg' : (if 0 = 0 + 1 then g 0 + 1 else g 0) = x ∧ (if 1 = 0 + 1 then g 1 + 1 else g 1) = y + 1 := by simp [g1, g2]
        replace hg' := hid hg'
        replace g1 := hid g1
        replace g2 := hid g2
        go_wp2
        go_roundw
        case rel => exact ⟨m + 1, x, y + 1, _, _, by omega, by omega, by omega, rfl, by go_num, by go_num, hg', hS2, hM2⟩
        case measure => simp [intOf]; omega
      · omega
    · obtain ⟨M, hMA, hMB, hME⟩ : ∃ M : Nat, A ≤ M ∧ B ≤ M ∧ (a < b ∧ M = B ∨ b ≤ a ∧ M = A) := by
        by_cases h : a < b
        · exact ⟨B, HAB.out (by omega), Nat.le_refl _, .inl ⟨h, rfl⟩⟩
        · exact ⟨A, Nat.le_refl _, HBA.out (by omega), .inr ⟨by omega, rfl⟩⟩
      obtain ⟨k1, k2⟩ := si_weigh pa2 pa3 pb2 pb3 HP4.out HQ4.out hS.out M hMA hMB
      rw [hg.out.1, hg.out.2] at k1 k2
      have mX : x * B ≤ 1000 * 64 := Nat.mul_le_mul (by omega) pb3
      have mY : y * A ≤ 1000 * 64 := Nat.mul_le_mul (by omega) pa3
      have eX : (x : Int) * (B : Int) = ((x * B : Nat) : Int) := (Int.natCast_mul x B).symm
      have eY : (y : Int) * (A : Int) = ((y * A : Nat) : Int) := (Int.natCast_mul y A).symm
      generalize x * B = X at *
      generalize y * A = Y at *
      have wX := IntWalk.i64_in (X : Int) (by omega)
      have wY := IntWalk.i64_in (Y : Int) (by omega)
      have wXY := IntWalk.i64_in ((X : Int) - (Y : Int)) (by omega)
      have wA := IntWalk.i64_in (A : Int) (by omega)
      have wB := IntWalk.i64_in (B : Int) (by omega)
      clear mX mY
      rcases hME with ⟨hab, hMM⟩ | ⟨hab, hMM⟩
      all_goals
        subst hMM
        go_wp2
        go_quiet (fail)
        clear wX wY wXY wA wB
        have d1 : decide ((X : Int) - (Y : Int) ≤ (M : Int)) = true := by simp; omega
        have d2 : decide (-((X : Int) - (Y : Int)) ≤ (M : Int)) = true := by simp; omega
        go_wp2
        go_ret
        exact ⟨rfl, (hM.out.drewN _).bel⟩
end Go.Proofs.Ytpafafleepcjdaa
