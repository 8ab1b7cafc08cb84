/- The walk of the law GraceOrder: it returns true and changes nothing that was there. No condition. -/
import Derived.Test.YtnbojhmlgnfneaaGraceRun
import Derived.Deep.DeepCutAuto
namespace Go.Proofs.Ytnbojhmlgnfneaa
open Go.ChangeShapes Go.WideShapes Go.ChangeAt Go.RowKit
set_option linter.unusedVariables false
/-- What holds ahead of each round: the calls that wait stand as they were called. -/
def OrdInv (w0 : World) (p : Nat) (k : Nat) (next : Int) (w : World) : Prop :=
  ∃ F dp tn l, GrAt w F p dp tn l ∧ Below w0.heap.size w0 w ∧ (∀ k, F k → w0.heap.size ≤ k) ∧ (l.map GCall.id).Pairwise (· < ·) ∧ (∀ x ∈ l, x.id < next) ∧ (l.length : Int) ≤ next ∧ next ≤ k ∧ ∀ i, i < 4 → tn i ≤ k
theorem upI_le (f : Nat → Int) (i : Nat) (v b : Int) (h : ∀ j, j < 4 → f j ≤ b) (hv : v ≤ b) : ∀ j, j < 4 → upI f i v j ≤ b := by
  intro j hj
  unfold upI
  split
  · exact hv
  · exact h j hj
theorem enterT_le (dp tn : Nat → Int) (i : Nat) (b : Int) (hi : i < 4) (h : ∀ j, j < 4 → tn j ≤ b) : ∀ j, j < 4 → enterT dp tn i j ≤ b + 1 := by
  intro j hj
  unfold enterT
  split
  · exact upI_le tn i _ _ (fun j hj => by have := h j hj; omega) (by have := h i hi; omega) j hj
  · have := h j hj; omega
theorem grAt_p {w : World} {F : Nat → Prop} {p : Nat} {dp tn : Nat → Int} {l : List GCall} (h : GrAt w F p dp tn l) : F p := by
  obtain ⟨_, _, _, _, _, h3, _⟩ := h
  exact h3
theorem hasId_lt {l : List GCall} {t : Int} (h : ∀ x ∈ l, x.id < t) : hasId l t = false := by
  refine hasId_false fun j hj => ?_
  have := h l[j] (List.getElem_mem hj)
  omega
theorem doneIds_sorted (dp tn : Nat → Int) (l : List GCall) (h : (l.map GCall.id).Pairwise (· < ·)) : ∀ j (hj : j + 1 < (doneIds dp tn l).length), (doneIds dp tn l)[j] ≤ (doneIds dp tn l)[j + 1] := by
  intro j hj
  have hs : (doneIds dp tn l).Sublist (l.map GCall.id) := (List.filter_sublist (p := ovr dp tn) (l := l)).map GCall.id
  have hp := h.sublist hs
  have := List.pairwise_iff_getElem.1 hp j (j + 1) (by omega) hj (by omega)
  omega
set_option maxRecDepth 100000 in
set_option maxHeartbeats 1000000 in
theorem graceOrder_walk (a0 : Option Addr) (len0 cap0 : Nat) (z0 : List Int) (w : World) (w0 : IsRow .i64 w a0 len0 cap0 z0) :
    Calls Try.prog 10 #[.slice a0 len0 cap0] w fun e w' => e = .returned (.bool true) ∧ Below w.heap.size w w' := by
  have hl1 := w0.1.1
  have hl2 := w0.1.2.1
  unfold maxLen at hl2
  have W0 := hid w0
  clear w0
  go_enter Try.func10, Try.ntmps10
  go_wp2_with fail
  refine (graceBegun_ok _).mono ?_
  rintro e w1 ⟨rfl, c1⟩
  go_wp2_with fail
  refine (newGrace_ok _).mono ?_
  rintro e w2 ⟨F, p, rfl, s2, c2, g2⟩
  have hI : OrdInv w p 0 0 w2 := by
    have x1 := below_nil (Below.refl _ w) c1
    exact ⟨F, _, _, [], s2, below_nil x1 c2, grew_ge g2 (fun _ h => h.elim) x1.size, by simp, by simp, by simp, by simp, by simp⟩
  replace hI := hid hI
  clear s2 c1 c2 g2
  go_upto_region 5 with fail
  go_cut [17, 18, 19] (fun s17 s18 s19 wx => wx = w2 ∧ ∃ N : Nat, N ≤ 200 ∧ N ≤ len0 ∧ s17 = .slice a0 N cap0 ∧ s18 = .int .i64 N ∧ s19 = .int .i64 0)
  case first =>
    go_wp2
    · go_meet
      exact ⟨rfl, 200, by omega, by omega, rfl, rfl, rfl⟩
    · go_meet
      exact ⟨rfl, len0, by omega, by omega, by simp, by simp, rfl⟩
  case rest =>
    obtain ⟨rfl, N, hN1, hN2, rfl, rfl, rfl⟩ := hcut
    go_wp2
    go_loopw [4, 19] (fun s4 s19 wr => ∃ (k : Nat) (next : Int), k ≤ N ∧ 0 ≤ next ∧ next ≤ k ∧ s19 = .int .i64 k ∧ s4 = .int .i64 next ∧ Hid (OrdInv w p k next wr)) (fun _ s19 _ => N - (intOf s19).toNat)
    case atStart => exact ⟨0, 0, by omega, by omega, by simp, rfl, rfl, hI⟩
    case round =>
      obtain ⟨k, next, hk, hn0, hnk, rfl, rfl, hJ⟩ := hrel
      clear hI
      obtain ⟨F, dp, tn, l, i1, i2, i3, i4, i5, i6, i7, i8⟩ := id hJ.out
      by_cases hlt : k < N
      · have hz : k < z0.length := by have := W0.out.1.ilen; omega
        have HA : Rd wr (Upto w.heap.size) 1 a0 len0 cap0 (ints .i64 z0) := W0.out.1.chg (Chg.of_below i2 Nil) (fun _ _ _ h => h)
        obtain ⟨g, off, rfl, _, _, hc⟩ := HA.at hz
        have hc1 := hc k hz
        clear hc HA
        have r1 := rest_nonneg z0[k] 4 (by omega)
        have r2 := rest_lt z0[k] 4 (by omega)
        have r3 := rest_nonneg (wrap64 (z0[k].tdiv 4)) 4 (by omega)
        have r4 := rest_lt (wrap64 (z0[k].tdiv 4)) 4 (by omega)
        obtain ⟨i, hi⟩ := Int.eq_ofNat_of_zero_le r3
        have hi4 : i < 4 := by omega
        have HI := hid hi
        rw [hi] at r3 r4
        clear hi
        have hp := i3 p (grAt_p i1)
        have hfp : Hid (∀ k, One p k → w.heap.size ≤ k) := fun k hk => by rw [show k = p from hk]; exact hp
        have hbd := i1.bd i hi4
        have hti := i8 i hi4
        replace i3 := hid i3
        replace i4 := hid i4
        replace i5 := hid i5
        replace i8 := hid i8
        have hr4 : rest z0[k] 4 = 0 ∨ rest z0[k] 4 = 1 ∨ rest z0[k] 4 = 2 ∨ rest z0[k] 4 = 3 := by omega
        rcases hr4 with hr4 | hr4 | hr4 | hr4
        · have b0 : (rest z0[k] 4 == 0) = true := by rw [beq_iff_eq]; exact hr4
          clear hr4
          by_cases hd : dp i = 8
          · replace hd := hid hd
            go_wp2_with (first | (go_at_call 13; refine (rest_any _ _ _ (by omega) (by omega)).mono ?_; (first | rw [HI.out] | skip); rintro e w' ⟨rfl, rfl⟩) | (go_at_call 34; refine (enter_full _ F p i dp tn l i1 hi4 hd.out).mono ?_; rintro e w' ⟨rfl, rfl⟩))
            go_roundw
            case rel => exact ⟨k + 1, next, by omega, by omega, by omega, by go_num, rfl, F, dp, tn, l, i1, i2, i3.out, i4.out, i5.out, i6, by omega, fun i hi => by have := i8.out i hi; omega⟩
            case measure => simp [intOf]; omega
          · go_wp2_with (first | (go_at_call 13; refine (rest_any _ _ _ (by omega) (by omega)).mono ?_; (first | rw [HI.out] | skip); rintro e w' ⟨rfl, rfl⟩) | (go_at_call 34; refine (enter_ok _ F p i dp tn l i1 hi4 (by omega) (by omega)).mono ?_; rintro e w3 ⟨rfl, q1, q2⟩))
            go_roundw
            case rel => exact ⟨k + 1, next, by omega, by omega, by omega, by go_num, rfl, F, _, _, l, q1, below_chg i2 q2 hfp.out, i3.out, i4.out, i5.out, i6, by omega, fun j hj => by have := enterT_le dp tn i k hi4 i8.out j hj; omega⟩
            case measure => simp [intOf]; omega
        · have b0 : (rest z0[k] 4 == 0) = false := by rw [beq_eq_false_iff_ne]; omega
          have b1 : (rest z0[k] 4 == 1) = true := by rw [beq_iff_eq]; exact hr4
          clear hr4
          by_cases hd : dp i = 0
          · replace hd := hid hd
            go_wp2_with (first | (go_at_call 13; refine (rest_any _ _ _ (by omega) (by omega)).mono ?_; (first | rw [HI.out] | skip); rintro e w' ⟨rfl, rfl⟩) | (go_at_call 35; refine (leave_none _ F p i dp tn l i1 hi4 hd.out).mono ?_; rintro e w' ⟨rfl, rfl⟩))
            go_roundw
            case rel => exact ⟨k + 1, next, by omega, by omega, by omega, by go_num, rfl, F, dp, tn, l, i1, i2, i3.out, i4.out, i5.out, i6, by omega, fun i hi => by have := i8.out i hi; omega⟩
            case measure => simp [intOf]; omega
          · go_wp2_with (first | (go_at_call 13; refine (rest_any _ _ _ (by omega) (by omega)).mono ?_; (first | rw [HI.out] | skip); rintro e w' ⟨rfl, rfl⟩) | (go_at_call 35; refine (leave_ok _ F p i dp tn l i1 hi4 (by omega)).mono ?_; rintro e w3 ⟨rfl, q1, q2⟩))
            go_roundw
            case rel => exact ⟨k + 1, next, by omega, by omega, by omega, by go_num, rfl, F, _, _, l, q1, below_chg i2 q2 hfp.out, i3.out, i4.out, i5.out, i6, by omega, fun i hi => by have := i8.out i hi; omega⟩
            case measure => simp [intOf]; omega
        · have b0 : (rest z0[k] 4 == 0) = false := by rw [beq_eq_false_iff_ne]; omega
          have b1 : (rest z0[k] 4 == 1) = false := by rw [beq_eq_false_iff_ne]; omega
          have b2 : (rest z0[k] 4 == 2) = true := by rw [beq_iff_eq]; exact hr4
          clear hr4
          go_wp2_with (first | (go_at_call 13; refine (rest_any _ _ _ (by omega) (by omega)).mono ?_; (first | rw [HI.out] | skip); rintro e w' ⟨rfl, rfl⟩) | (go_at_call 32; refine (gcall_ok _ F p dp tn l _ i1 (by omega) (hasId_lt i5.out)).mono ?_; rintro e w3 ⟨F3, rfl, q1, q2, q3⟩))
          go_roundw
          case rel =>
            refine ⟨k + 1, next + 1, by omega, by omega, by omega, by go_num, by go_num, F3, dp, tn, _, q1, below_chg i2 q2 i3.out, grew_ge q3 i3.out i2.size, ?_, ?_, by simp; omega, by omega, fun i hi => by have := i8.out i hi; omega⟩
            · rw [List.map_append, List.pairwise_append]
              refine ⟨i4.out, by simp, fun x hx y hy => ?_⟩
              obtain ⟨z, hz, rfl⟩ := List.mem_map.1 hx
              have h1 := i5.out z hz
              have h2 : y = next := by simpa using hy
              omega
            · intro x hx
              rcases List.mem_append.1 hx with hx | hx
              · have := i5.out x hx; omega
              · have : x = ⟨next, waitsFor dp tn⟩ := by simpa using hx
                subst this
                dsimp only
                omega
          case measure => simp [intOf]; omega
        · have b0 : (rest z0[k] 4 == 0) = false := by rw [beq_eq_false_iff_ne]; omega
          have b1 : (rest z0[k] 4 == 1) = false := by rw [beq_eq_false_iff_ne]; omega
          have b2 : (rest z0[k] 4 == 2) = false := by rw [beq_eq_false_iff_ne]; omega
          clear hr4
          have hdl : (doneIds dp tn l).length ≤ 256 := by
            unfold doneIds
            rw [List.length_map]
            have := List.length_filter_le (ovr dp tn) l
            omega
          go_wp2_with (first | (go_at_call 13; refine (rest_any _ _ _ (by omega) (by omega)).mono ?_; (first | rw [HI.out] | skip); rintro e w' ⟨rfl, rfl⟩) | (go_at_call 33; refine (run_any _ F p dp tn l i1 (by omega)).mono ?_; rintro e w3 ⟨F3, a3, c3, G3, rfl, q0, q1, q2, q3, q4⟩; replace q4 := hid q4) | (go_at_call 38; refine (isSorted_yes _ _ _ _ _ _ q0.rd (by omega) (doneIds_sorted dp tn l i4.out)).mono ?_; rintro e w4 ⟨rfl, kq, rfl⟩))
          go_roundw
          case rel =>
            have hll : (leftOf dp tn l).length ≤ l.length := List.length_filter_le _ _
            refine ⟨k + 1, next, by omega, by omega, by omega, by go_num, rfl, F3, dp, tn, leftOf dp tn l, q1.chg ((Chg.refl Nil w3).drewN kq) (fun _ _ h => h), below_nil (below_chg i2 q2 i3.out) ((Chg.refl Nil w3).drewN kq), grew_ge q3 i3.out i2.size, ?_, ?_, by omega, by omega, fun i hi => by have := i8.out i hi; omega⟩
            · exact i4.out.sublist ((List.filter_sublist (l := l)).map GCall.id)
            · intro x hx
              exact i5.out x (List.mem_filter.1 hx).1
          case measure => simp [intOf]; omega
      · have hle : decide ((l.length : Int) ≤ next) = true := by simpa using i6
        go_wp2_with (go_at_call 37; refine (reads_any _ F p dp tn l i1 (by omega)).mono ?_; rintro e w3 ⟨m, rfl, _, kq, rfl⟩)
        go_ret
        exact ⟨rfl, below_nil i2 ((Chg.refl Nil wr).drewN kq)⟩
end Go.Proofs.Ytnbojhmlgnfneaa
