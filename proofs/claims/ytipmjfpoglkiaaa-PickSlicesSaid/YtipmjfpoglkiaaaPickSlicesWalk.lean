/- The walk of the law PickSlices: it returns true and changes nothing that was there. No condition. -/
import Derived.Test.YtipmjfpoglkiaaaPk5
namespace Go.Proofs.Ytipmjfpoglkiaaa
open Go.ChangeShapes Go.WideShapes Go.ChangeAt Go.RowKit
set_option linter.unusedVariables false
theorem rest_np (k n : Int) (w : World) (h1 : 1 ≤ n) (h2 : n ≤ 9223372036854775807) :
    Calls Try.prog 8 #[.int .i64 k, .int .i64 n] w fun e w' => ∃ q : Nat, (q : Int) < n ∧ e = .returned (.int .i64 q) ∧ w = w' := by
  have h3 := rest_nonneg k n h1
  have h4 := rest_lt k n h1
  obtain ⟨t, ht⟩ := Int.eq_ofNat_of_zero_le h3
  refine (rest_any k n w h1 h2).mono ?_
  rintro e w' ⟨rfl, rfl⟩
  exact ⟨t, by omega, by rw [ht], rfl⟩
theorem prio_out {v k : Nat} {s : PKS} (h : SlA v k s) : prOf s.q ((k + 1 : Nat) : Int) 8 = -1 := by
  refine prOf_none _ _ (fun i hi hm => ?_) 8 (by omega)
  by_cases hv : i = v
  · subst hv
    rw [h.q] at hm
    obtain ⟨m, hm2, he⟩ := List.mem_map.1 hm
    rw [List.mem_range] at hm2
    omega
  · rw [h.qo i hv] at hm
    cases hm
theorem prio_len {v k : Nat} {s : PKS} (h : SlA v k s) (hk : k ≤ 16) : ∀ i, i < 8 → (s.q i).length ≤ 999 := fun i hi => by
  by_cases hv : i = v
  · subst hv
    rw [h.q, List.length_map, List.length_range]
    omega
  · rw [h.qo i hv]
    simp
theorem prio_b {v k : Nat} {s : PKS} (h : SlA v k s) (hv : v < 8) : s.b < 256 := by
  rw [h.b]
  split
  · omega
  · exact Nat.lt_of_le_of_lt (Nat.pow_le_pow_right (by omega) (show v ≤ 7 by omega)) (by omega)
set_option maxRecDepth 100000 in
set_option maxHeartbeats 4000000 in
theorem pickSlices_walk (a0 a1 a2 : Int) (w : World) (w0 : (Lit.int .i64 a0).wf = true) (w1 : (Lit.int .i64 a1).wf = true) (w2 : (Lit.int .i64 a2).wf = true) :
    Calls Try.prog 3 #[.int .i64 a0, .int .i64 a1, .int .i64 a2] w fun e w' => e = .returned (.bool true) ∧ Below w.heap.size w w' := by
  clear w0 w1 w2
  go_enter Try.func3, Try.ntmps3
  go_wp2_with fail
  refine (pickBegun_ok _).mono ?_
  rintro e w1 ⟨rfl, b1⟩
  have NW := hid (pknew_ok b1)
  clear b1
  go_wp2_with fail
  refine NW.out.mono ?_
  rintro e w2 ⟨p, rfl, h1⟩
  have I0 : Hid (∃ s, PkM w p 0 s w2 ∧ SlA 0 0 s) := hid ⟨_, h1, sla_new 0⟩
  have J0 := hid h1
  clear NW h1 I0
  go_wp2_with fail
  refine (rest_np a0 16 _ (by omega) (by omega)).mono ?_
  rintro e w3 ⟨q, hq, rfl, rfl⟩
  go_wp2_with fail
  refine (rest_np a1 8 _ (by omega) (by omega)).mono ?_
  rintro e w3 ⟨v, hv, rfl, rfl⟩
  go_upto_region 5 with fail
  obtain ⟨N, hN⟩ : ∃ N : Nat, N = q + 1 := ⟨_, rfl⟩
  have hNq : (1 : Int) + (q : Int) = (N : Int) := by omega
  rw [hNq]
  have hN1 : 1 ≤ N := by omega
  have hN16 : N ≤ 16 := by omega
  have hv8 : v < 8 := by omega
  clear hNq hN hq hv
  have I1 : Hid (∃ s, PkM w p 0 s w2 ∧ SlA v 0 s) := hid ⟨_, J0.out, sla_new v⟩
  clear J0
  go_wp2
  go_loopw [8] (fun s8 wr => ∃ k : Nat, k ≤ N ∧ s8 = .int .i64 ((k : Int) + 1) ∧ Hid (∃ s, PkM w p k s wr ∧ SlA v k s)) (fun s8 _ => N + 1 - (intOf s8).toNat)
  case atStart => exact ⟨0, by omega, rfl, I1⟩
  case round =>
    clear I1
    obtain ⟨k, hk, rfl, hJ⟩ := hrel
    by_cases hlt : k < N
    · obtain ⟨s, j1, j2⟩ := id hJ.out
      have A := pkPrio_ok j1 (by omega) (k + 1) v (by omega) (by omega) hv8 (j2.co (k + 1) (by omega)).1 (j2.co (k + 1) (by omega)).2 (prio_len j2 (by omega)) (prio_b j2 hv8) (prio_out j2)
      have J2 := hid j2.add
      rw [show ((k + 1 : Nat) : Int) = (k : Int) + 1 by omega] at A
      replace A := hid A
      have i1 : (k : Int) + 1 ≤ (N : Int) := by omega
      clear j1 j2 hJ
      go_wp2_with fail
      refine A.out.mono ?_
      rintro e w5 ⟨rfl, y1⟩
      have Y : Hid (∃ s, PkM w p (k + 1) s w5 ∧ SlA v (k + 1) s) := hid ⟨_, y1, by have := J2.out; rw [show ((k + 1 : Nat) : Int) = (k : Int) + 1 by omega] at this; exact this⟩
      clear y1 A
      go_wp2
      go_roundw
      case rel => exact ⟨k + 1, by omega, by go_num, Y⟩
      case measure => simp [intOf]; omega
    · have hkN : k = N := by omega
      have i1 : (N : Int) < (k : Int) + 1 := by omega
      have I2 : Hid (∃ s, PkM w p N s wr ∧ SlS N v 0 s) := by
        obtain ⟨s, j1, j2⟩ := hJ.out
        rw [hkN] at j1 j2
        exact hid ⟨s, j1, j2.done (by omega)⟩
      clear hJ hkN
      obtain ⟨wq, rfl⟩ : ∃ wq : World, wq = wr := ⟨_, rfl⟩
      go_wp2_with fail
      refine (rest_np a2 200 _ (by omega) (by omega)).mono ?_
      rintro e w5 ⟨T, hT, rfl, rfl⟩
      have hT2 : T < 200 := by omega
      go_wp2
      go_loopw [30] (fun s30 wr => ∃ i : Nat, i ≤ T ∧ s30 = .int .i64 i ∧ Hid (∃ s, PkM w p N s wr ∧ SlS N v i s)) (fun s30 _ => T - (intOf s30).toNat)
      case atStart => exact ⟨0, by omega, rfl, I2⟩
      case round =>
        clear I2
        obtain ⟨i, hi, rfl, hJ⟩ := hrel
        by_cases hlt2 : i < T
        · obtain ⟨s, j1, j2⟩ := id hJ.out
          obtain ⟨r, hr1, hr2⟩ := j2.tick (by omega)
          have hmn : i / 3 % N < N := Nat.mod_lt _ (by omega)
          have hcl := j2.cl (i / 3 % N + 1) (by omega) (by omega)
          rw [show ((i / 3 % N + 1 : Nat) : Int) = ((i / 3 % N : Nat) : Int) + 1 by omega] at hcl
          have A := fun (w' : World) (hc : Chg Nil wr w') => pktick_prio (j1.nil hc) j2.ds (by rw [j2.b]; exact Nat.lt_of_le_of_lt (Nat.pow_le_pow_right (by omega) (show v ≤ 7 by omega)) (by omega)) (by rw [j2.b]; exact Nat.ne_of_gt (Nat.two_pow_pos v)) (((i / 3 % N : Nat) : Int) + 1) (by omega) (by omega) v hv8 (by rw [j2.b]; exact top_pow hv8) r hr1 (by rw [j2.q, rotL_len]; omega) hcl.1 hcl.2 j2.u.2.1 (by have := j2.u.2.2; omega) (by rw [j2.nw]; omega)
          rw [show ((i / 3 % N : Nat) : Int) = (i : Int) / 3 % (N : Int) by push_cast; rfl] at A hr2
          have A1 := hid (A wr.drew ((Chg.refl Nil wr).drew))
          have HR := hid hr2
          clear A hr2 hcl hr1 j1 j2 hJ hmn
          obtain ⟨wo, rfl⟩ : ∃ wo : World, wo = wr := ⟨_, rfl⟩
          go_upto_region 13 with fail
          have hNz : ¬ N = 0 := by omega
          have m1 : 0 ≤ (i : Int) / 3 % (N : Int) := Int.emod_nonneg _ (by omega)
          have m2 : (i : Int) / 3 % (N : Int) < (N : Int) := Int.emod_lt_of_pos _ (by omega)
          have htm : ((i : Int) / 3).tmod (N : Int) = (i : Int) / 3 % (N : Int) := Int.tmod_eq_emod_of_nonneg (by omega)
          have hw1 := IntWalk.i64_in ((i : Int) / 3) (by omega)
          have hw2 := IntWalk.i64_in ((i : Int) / 3 % (N : Int)) (by omega)
          have hw3 := IntWalk.i64_in ((i : Int) / 3 % (N : Int) + 1) (by omega)
          go_region_law (go_simp; go_at_call 10; refine A1.out.mono ?_; rintro e w7 ⟨rfl, y1⟩; replace y1 := hid y1)
          all_goals
            go_wp2
            go_roundw
            case rel => exact ⟨i + 1, by omega, by go_num, hid ⟨_, y1.out, HR.out⟩⟩
            case measure => simp [intOf]; omega
        · obtain ⟨s, j1, j2⟩ := id hJ.out
          have hb := hid j1.bel
          clear j1 j2
          go_wp2
          go_ret
          exact ⟨rfl, hb.out⟩
end Go.Proofs.Ytipmjfpoglkiaaa
