/- The walk of the law GraceNests: it returns true and changes nothing that was there. No condition. -/
import Derived.Test.YtnbojhmlgnfneaaGraceRun
import Derived.Deep.DeepCutAuto
namespace Go.Proofs.Ytnbojhmlgnfneaa
open Go.ChangeShapes Go.WideShapes Go.ChangeAt Go.RowKit
set_option linter.unusedVariables false
/-- Just one processor has a number other than nothing. -/
def fD (c : Nat) (v : Int) : Nat → Int := fun i => if i = c then v else 0
theorem fD_zero (c : Nat) : (fun _ => (0 : Int)) = fD c 0 := by funext i; unfold fD; split <;> rfl
theorem fD_at (c : Nat) (v : Int) : fD c v c = v := by simp [fD]
theorem fD_enterD (c : Nat) (v : Int) : enterD (fD c v) c = fD c (v + 1) := by
  funext i; unfold enterD upI fD; split <;> simp_all
theorem fD_enterT0 (c : Nat) (t : Int) : enterT (fD c 0) (fD c t) c = fD c (t + 1) := by
  unfold enterT; rw [if_pos (fD_at c 0)]; funext i; unfold upI fD; split <;> simp_all
theorem fD_enterT (c : Nat) (v t : Int) (h : v ≠ 0) : enterT (fD c v) (fD c t) c = fD c t := by
  unfold enterT; rw [if_neg (by rw [fD_at]; exact h)]
theorem fD_up (c : Nat) (v u : Int) : upI (fD c v) c u = fD c u := by funext i; unfold upI fD; split <;> simp_all
theorem fD_waits (c : Nat) (v t : Int) (h : 0 < v) : waitsFor (fD c v) (fD c t) = fD c t := by
  funext i
  unfold waitsFor fD
  by_cases hi : i = c
  · simp [hi, h]
  · simp [hi]
theorem fD_blocked (c : Nat) (v t id : Int) (hc : c < 4) (h : 0 < v) (ht : 0 < t) : ovr (fD c v) (fD c t) ⟨id, fD c t⟩ = false := by
  refine ovr_blk hc ?_
  unfold blk1
  simp [fD_at, h, ht]
theorem fD_idle (c : Nat) : ∀ i, i < 4 → fD c 0 i = 0 := fun i _ => by unfold fD; split <;> rfl
/-- The calls of the first rounds. -/
def callsTo (c j : Nat) : List GCall := (List.range j).map (fun m : Nat => (⟨(m : Int), fD c 1⟩ : GCall))
theorem callsTo_succ (c j : Nat) : callsTo c (j + 1) = callsTo c j ++ [⟨(j : Int), fD c 1⟩] := by simp [callsTo, List.range_succ]
theorem callsTo_len (c j : Nat) : (callsTo c j).length = j := by simp [callsTo]
def natsTo (j : Nat) : List Int := (List.range j).map (fun m : Nat => (m : Int))
theorem natsTo_len (j : Nat) : (natsTo j).length = j := by simp [natsTo]
theorem callsTo_ids (c j : Nat) : (callsTo c j).map GCall.id = natsTo j := by simp [callsTo, natsTo, List.map_map, Function.comp_def]
/-- And the one that may come later. -/
def later (c d r j : Nat) : List GCall := if r < j ∧ r + 1 < d then [⟨100, fD c 1⟩] else []
def laterId (d r : Nat) : List Int := if r + 1 < d then [100] else []
theorem calls_blocked (c d r j : Nat) (v : Int) (hc : c < 4) (hv : 0 < v) : ∀ x ∈ callsTo c d ++ later c d r j, ovr (fD c v) (fD c 1) x = false := by
  intro x hx
  rcases List.mem_append.1 hx with hx | hx
  · obtain ⟨m, _, rfl⟩ := List.mem_map.1 hx
    exact fD_blocked c v 1 _ hc hv (by omega)
  · unfold later at hx
    split at hx
    · obtain rfl : x = ⟨100, fD c 1⟩ := by simpa using hx
      exact fD_blocked c v 1 _ hc hv (by omega)
    · simp at hx
theorem later_len (c d r j : Nat) : (later c d r j).length ≤ 1 := by unfold later; split <;> simp
/-- What is there, beside nothing else. -/
def NInv (w0 : World) (p c : Nat) (v t : Int) (l : List GCall) (w : World) : Prop :=
  ∃ F, GrAt w F p (fD c v) (fD c t) l ∧ Below w0.heap.size w0 w ∧ ∀ k, F k → w0.heap.size ≤ k
theorem grAt_p {w : World} {F : Nat → Prop} {p : Nat} {dp tn : Nat → Int} {l : List GCall} (h : GrAt w F p dp tn l) : F p := by
  obtain ⟨_, _, _, _, _, h3, _⟩ := h
  exact h3
theorem one_ge {B p : Nat} {F : Nat → Prop} (hF : ∀ k, F k → B ≤ k) (hp : F p) : ∀ k, One p k → B ≤ k := fun k hk => by rw [show k = p from hk]; exact hF p hp
theorem callsTo_no (c j : Nat) (t : Int) (h : (j : Int) ≤ t) : hasId (callsTo c j) t = false := by
  refine hasId_false fun m hm => ?_
  simp only [callsTo, List.length_map, List.length_range] at hm
  simp [callsTo]
  omega
theorem opt_some {a b : Nat} (h : Opt (some a) b) : b = a := by injection h with h; exact h.symm
theorem g_not_F {wo wr : World} {o : Obj} {F : Nat → Prop} {G' : Option Nat} (hlt : ∀ k, F k → k < wo.heap.size) (hsz : wo.heap.size ≤ wr.heap.size) (y3 : G' = some wo.heap.size ∨ G' = some (wr.alloc o).heap.size) : ∀ g, G' = some g → ¬ F g := by
  intro g hg hF
  have h1 := hlt g hF
  rcases push_grew y3 g hg with h | h
  · have := opt_some h
    omega
  · omega
theorem later_skip {c d r b : Nat} (h : ¬ (b = r ∧ b + 1 < d)) : later c d r (b + 1) = later c d r b := by
  unfold later
  by_cases h1 : r < b ∧ r + 1 < d
  · rw [if_pos h1, if_pos ⟨by omega, h1.2⟩]
  · rw [if_neg h1, if_neg (by omega)]
theorem later_now {c d r b : Nat} (h : b = r ∧ b + 1 < d) : later c d r b = [] ∧ later c d r (b + 1) = [⟨100, fD c 1⟩] := by
  unfold later
  exact ⟨if_neg (by omega), if_pos (by omega)⟩
theorem calls_no100 (c d : Nat) (h : d ≤ 8) : hasId (callsTo c d) 100 = false := callsTo_no c d 100 (by omega)
theorem all_ids (c d r : Nat) (h : r < d) : (callsTo c d ++ later c d r d).map GCall.id = natsTo d ++ laterId d r := by
  rw [List.map_append, callsTo_ids]
  unfold later laterId
  by_cases h1 : r + 1 < d
  · rw [if_pos ⟨h, h1⟩, if_pos h1]; rfl
  · rw [if_neg (by omega), if_neg h1]; rfl
theorem natsTo_set (d k : Nat) (h : k < d) : (natsTo k ++ List.replicate (d - k) 0).set k (k : Int) = natsTo (k + 1) ++ List.replicate (d - (k + 1)) 0 := by
  obtain ⟨m, hm⟩ : ∃ m, d - k = m + 1 := ⟨d - k - 1, by omega⟩
  rw [hm, show d - (k + 1) = m by omega, List.replicate_succ, List.set_append_right _ _ (by rw [natsTo_len]; omega), natsTo_len, Nat.sub_self, List.set_cons_zero]
  simp [natsTo, List.range_succ]
set_option maxRecDepth 100000 in
set_option maxHeartbeats 1000000 in
theorem graceNests_walk (a0 a1 a2 : Int) (w : World) (w0 : (Lit.int .i64 a0).wf = true) (w1 : (Lit.int .i64 a1).wf = true) (w2 : (Lit.int .i64 a2).wf = true) :
    Calls Try.prog 8 #[.int .i64 a0, .int .i64 a1, .int .i64 a2] w fun e w' => e = .returned (.bool true) ∧ Below w.heap.size w w' := by
  have r1 := rest_nonneg a0 4 (by omega)
  have r2 := rest_lt a0 4 (by omega)
  have r3 := rest_nonneg a1 8 (by omega)
  have r4 := rest_lt a1 8 (by omega)
  obtain ⟨c, hc⟩ := Int.eq_ofNat_of_zero_le r1
  have hc4 : c < 4 := by omega
  obtain ⟨d, hd⟩ : ∃ d : Nat, 1 + rest a1 8 = (d : Int) := Int.eq_ofNat_of_zero_le (by omega)
  have d1 : 1 ≤ d := by omega
  have d8 : d ≤ 8 := by omega
  have r5 := rest_nonneg a2 d (by omega)
  have r6 := rest_lt a2 d (by omega)
  obtain ⟨r, hr⟩ := Int.eq_ofNat_of_zero_le r5
  have rd : r < d := by omega
  have HC := hid hc
  have HD := hid hd
  have HR := hid hr
  clear hc hd hr r5 r6
  go_enter Try.func8, Try.ntmps8
  go_wp2_with fail
  refine (graceBegun_ok _).mono ?_
  rintro e w1 ⟨rfl, c1⟩
  go_wp2_with fail
  refine (newGrace_ok _).mono ?_
  rintro e w2 ⟨F2, p, rfl, s2, c2, g2⟩
  go_wp2_with (go_at_call 13; refine (rest_any _ _ _ (by omega) (by omega)).mono ?_; rintro e w' ⟨rfl, rfl⟩)
  rw [HC.out, HD.out]
  have f2 : ∀ k, F2 k → w.heap.size ≤ k := grew_ge g2 (fun _ h => h.elim) c1.size
  have x2 := below_nil (below_nil (Below.refl _ w) c1) c2
  go_wp2_with fail
  refine (gcall_ok _ F2 p _ _ [] 0 s2 (by simp) rfl).mono ?_
  rintro e w3 ⟨F3, rfl, s3, c3, g3⟩
  have f3 := grew_ge g3 f2 x2.size
  have x3 := below_chg x2 c3 f2
  obtain ⟨v1, v2⟩ := done_idle (fun _ => 0) (fun _ => 0) ([] ++ [(⟨0, waitsFor (fun _ => 0) (fun _ => 0)⟩ : GCall)]) (fun _ _ => rfl)
  replace v1 : doneIds (fun _ => 0) (fun _ => 0) ([] ++ [(⟨0, waitsFor (fun _ => 0) (fun _ => 0)⟩ : GCall)]) = [0] := v1
  go_wp2_with fail
  refine (run_any _ F3 p _ _ _ s3 (by simp)).mono ?_
  rw [v1, v2]
  rintro e w4 ⟨F4, a4, c4, G4, rfl, y4, s4, d4, g4, z4⟩
  clear v1 v2
  have f4 := grew_ge g4 f3 x3.size
  have x4 := below_chg x3 d4 f3
  replace z4 := hid z4
  have he : eqI [0] [0] = true := by decide
  have HN := hid (Rd.of_blk (n := 1) (s := 1) (Blk.new w4 3 (ints .i64 [(0 : Int)])) rfl (by decide))
  have HY := hid (y4.rd.alloc (.cells #[.int .i64 0] 3))
  go_wp2_with fail
  refine (equal_int _ _ _ _ _ _ _ _ _ _ _ HY.out HN.out (by simp) (by simp)).mono ?_
  rw [he]
  rintro e w5 ⟨rfl, kq, rfl⟩
  have hI : NInv w p c 0 0 (callsTo c 0) ((w4.alloc (.cells #[.int .i64 0] 3)).drewN kq) := by
    refine ⟨F4, ?_, below_nil x4 (((Chg.refl Nil w4).alloc _).drewN kq), f4⟩
    have := s4.chg (((Chg.refl Nil w4).alloc (.cells #[.int .i64 0] 3)).drewN kq) (fun _ _ h => h)
    rw [fD_zero c] at this
    exact this
  replace hI := hid hI
  clear s2 c2 g2 f2 x2 s3 c3 g3 f3 x3 s4 d4 g4 z4 f4 x4 y4 HN HY he c1
  go_wp2
  go_loopw [31] (fun s31 wr => ∃ j : Nat, j ≤ d ∧ s31 = .int .i64 j ∧ Hid (NInv w p c j (if j = 0 then 0 else 1) (callsTo c j) wr)) (fun s31 _ => d - (intOf s31).toNat)
  case atStart => exact ⟨0, by omega, rfl, hI⟩
  case round =>
    clear hI
    obtain ⟨j, hj, rfl, hJ⟩ := hrel
    by_cases hlt : j < d
    · obtain ⟨F, i1, i2, i3⟩ := id hJ.out
      have hE : enterT (fD c j) (fD c (if j = 0 then 0 else 1)) c = fD c 1 := by
        by_cases h0 : j = 0
        · subst h0; exact fD_enterT0 c 0
        · rw [if_neg h0]; exact fD_enterT c j 1 (by omega)
      have hp := grAt_p i1
      replace i3 := hid i3
      go_wp2_with fail
      refine (enter_ok _ F p c _ _ _ i1 hc4 (by rw [fD_at]; omega) (by rw [fD_at]; split <;> omega)).mono ?_
      rw [fD_enterD, hE]
      rintro e w6 ⟨rfl, q1, q2⟩
      clear hE
      go_wp2_with fail
      refine (gcall_ok _ F p _ _ _ j q1 (by rw [callsTo_len]; omega) (callsTo_no c j j (by omega))).mono ?_
      rw [fD_waits c _ 1 (by omega), ← callsTo_succ]
      rintro e w7 ⟨F7, rfl, y1, y2, y3⟩
      go_wp2
      go_roundw
      case rel =>
        have x6 := below_chg i2 q2 (one_ge i3.out hp)
        refine ⟨j + 1, by omega, by go_num, F7, ?_, below_chg x6 y2 i3.out, grew_ge y3 i3.out x6.size⟩
        rw [if_neg (by omega)]
        exact y1
      case measure => simp [intOf]; omega
    · obtain rfl : j = d := by omega
      rw [if_neg (by omega)] at hJ
      have hI : NInv w p c j 1 (callsTo c j ++ later c j r 0) wr := by
        have := hJ.out
        simpa [later] using this
      replace hI := hid hI
      clear hJ
      have hmk := fun W => run_make1 (P := Try.prog) (t := 23) (e := 3) (z := .int .i64 0) (bytes := 8) Try.underlying23 (by kernel_rfl) rfl (by omega) j (by omega) W
      replace hmk := hid hmk
      obtain ⟨F, i1, i2, i3⟩ := id hI.out
      have hp := grAt_p i1
      by_cases h8 : j = 8
      have h8b : ((j : Int) == 8) = true := by rw [beq_iff_eq]; omega
      have hnl : decide ((j : Int) < 8) = false := by simp; omega
      replace i3 := hid i3
      replace h8 := hid h8
      go_wp2_with (go_at_call 34; refine (enter_full _ F p c _ _ _ i1 hc4 (by rw [fD_at]; have := h8.out; omega)).mono ?_; rintro e w6 ⟨rfl, rfl⟩)
      clear i1 i2 i3 hp h8b hnl h8
      rotate_left
      have h8b : ((j : Int) == 8) = false := by rw [beq_eq_false_iff_ne]; omega
      have hlt8 : decide ((j : Int) < 8) = true := by simp; omega
      replace i3 := hid i3
      go_wp2_with fail
      refine (enter_ok _ F p c _ _ _ i1 hc4 (by rw [fD_at]; omega) (by rw [fD_at]; omega)).mono ?_
      rw [fD_enterD, fD_enterT c j 1 (by omega)]
      rintro e w6 ⟨rfl, q1, q2⟩
      go_wp2_with fail
      refine (leave_ok _ F p c _ _ _ q1 hc4 (by rw [fD_at]; omega)).mono ?_
      rw [fD_up, fD_at, show (j : Int) + 1 - 1 = j by omega]
      rintro e w7 ⟨rfl, y1, y2⟩
      have hI2 : NInv w p c j 1 (callsTo c j ++ later c j r 0) w7 := ⟨F, y1, below_chg (below_chg i2 q2 (one_ge i3.out hp)) y2 (one_ge i3.out hp), i3.out⟩
      clear hI
      have hI := hid hI2
      clear i1 i2 i3 hp q1 q2 y1 y2 hI2
      go_wp2
      clear h8b hlt8 h8
      all_goals
        go_loopw [61] (fun s61 wz => ∃ b : Nat, b ≤ j ∧ s61 = .int .i64 b ∧ Hid (NInv w p c ((j - b : Nat) : Int) 1 (callsTo c j ++ later c j r b) wz)) (fun s61 _ => j - (intOf s61).toNat)
        case atStart => exact ⟨0, by omega, rfl, hI⟩
        case round =>
          clear hI
          obtain ⟨b, hb, rfl, hJ⟩ := hrel
          obtain ⟨F, i1, i2, i3⟩ := id hJ.out
          have hp := grAt_p i1
          have hll : (callsTo c j ++ later c j r b).length ≤ 9 := by rw [List.length_append, callsTo_len]; have := later_len c j r b; omega
          replace i3 := hid i3
          by_cases hbl : b < j
          · obtain ⟨v1, v2⟩ := done_none _ _ _ (calls_blocked c j r b ((j - b : Nat) : Int) hc4 (by omega))
            go_wp2_with fail
            refine (run_any _ F p _ _ _ i1 (by omega)).mono ?_
            rw [v1, v2]
            rintro e w8 ⟨F8, a8, c8, G8, rfl, y8, s8, d8, g8, z8⟩
            clear v1 v2
            replace z8 := hid z8
            go_wp2_with fail
            refine (leave_ok _ F8 p c _ _ _ s8 hc4 (by rw [fD_at]; omega)).mono ?_
            rw [fD_up, fD_at, show ((j - b : Nat) : Int) - 1 = ((j - (b + 1) : Nat) : Int) by omega]
            rintro e w9 ⟨rfl, q1, q2⟩
            have f8 := hid (grew_ge g8 i3.out i2.size)
            have x9 := hid (below_chg (below_chg i2 d8 i3.out) q2 (one_ge f8.out (grAt_p q1)))
            by_cases hbr : b = r ∧ b + 1 < j
            · have e1 : ((b : Int) == (r : Int)) = true := by rw [beq_iff_eq]; omega
              have e2 : decide ((b : Int) < (j : Int) - 1) = true := by simp; omega
              obtain ⟨l1, l2⟩ := later_now (c := c) hbr
              rw [l1, List.append_nil] at q1
              replace l1 := hid l1
              replace l2 := hid l2
              replace hbr := hid hbr
              go_wp2_with (first | (go_at_call 13; refine (rest_any _ _ _ (by omega) (by omega)).mono ?_; (first | rw [HR.out] | skip); rintro e w' ⟨rfl, rfl⟩) | (go_at_call 32; refine (gcall_ok _ F8 p _ _ _ 100 q1 (by rw [callsTo_len]; omega) (calls_no100 c j (by omega))).mono ?_; rw [fD_waits c _ 1 (by have := hbr.out; omega)]; rintro e w10 ⟨F10, rfl, t1, t2, t3⟩))
              go_roundw
              case rel => exact ⟨b + 1, by omega, by go_num, F10, by rw [l2.out]; exact t1, below_chg x9.out t2 f8.out, grew_ge t3 f8.out x9.out.size⟩
              case measure => simp [intOf]; omega
            · have hsk := hid (later_skip (c := c) hbr)
              by_cases hbr2 : b = r
              · have e1 : ((b : Int) == (r : Int)) = true := by rw [beq_iff_eq]; omega
                have e2 : decide ((b : Int) < (j : Int) - 1) = false := by simp; omega
                replace hbr := hid hbr
                replace hbr2 := hid hbr2
                go_wp2_with (go_at_call 13; refine (rest_any _ _ _ (by omega) (by omega)).mono ?_; (first | rw [HR.out] | skip); rintro e w' ⟨rfl, rfl⟩)
                go_roundw
                case rel => exact ⟨b + 1, by omega, by go_num, F8, by rw [hsk.out]; exact q1, x9.out, f8.out⟩
                case measure => simp [intOf]; omega
              · have e1 : ((b : Int) == (r : Int)) = false := by rw [beq_eq_false_iff_ne]; omega
                replace hbr := hid hbr
                go_wp2_with (go_at_call 13; refine (rest_any _ _ _ (by omega) (by omega)).mono ?_; (first | rw [HR.out] | skip); rintro e w' ⟨rfl, rfl⟩)
                go_roundw
                case rel => exact ⟨b + 1, by omega, by go_num, F8, by rw [hsk.out]; exact q1, x9.out, f8.out⟩
                case measure => simp [intOf]; omega
          · obtain rfl : b = j := by omega
            rw [show (((b - b : Nat)) : Int) = 0 by omega] at i1
            have HM := hmk.out
            go_wp2
            have hS : Sl (wr.alloc (.cells (List.replicate b (.int .i64 0)).toArray 3)) 3 1 (some ⟨wr.heap.size, 0, none⟩) b b (ints .i64 (natsTo 0 ++ List.replicate (b - 0) 0)) (some wr.heap.size) := by
              have hbk := Sl.of_blk (n := b) (s := 1) (Blk.new wr 3 (List.replicate b (.int .i64 0))) (by simp) (by unfold maxLen; omega)
              simpa [ints, natsTo] using hbk
            have hK := hid (show Chg Nil wr (wr.alloc (.cells (List.replicate b (.int .i64 0)).toArray 3)) ∧ _ from ⟨(Chg.refl Nil wr).alloc _, hS⟩)
            clear hS HM
            obtain ⟨wo, rfl⟩ : ∃ wo : World, wo = wr := ⟨_, rfl⟩
            go_loopw [95] (fun s95 wy => ∃ k : Nat, k ≤ b ∧ s95 = .int .i64 k ∧ Hid (Chg Nil wo wy ∧ Sl wy 3 1 (some ⟨wo.heap.size, 0, none⟩) b b (ints .i64 (natsTo k ++ List.replicate (b - k) 0)) (some wo.heap.size))) (fun s95 _ => b - (intOf s95).toNat)
            case atStart => exact ⟨0, by omega, rfl, hK⟩
            case round =>
              clear hK
              obtain ⟨k, hk, rfl, hK⟩ := hrel
              obtain ⟨k1, k2⟩ := id hK.out
              by_cases hkb : k < b
              · have hcl : wr.cell? ⟨wo.heap.size, k, none⟩ = some (.int .i64 ((natsTo k ++ List.replicate (b - k) 0)[k]'(by rw [List.length_append, natsTo_len, List.length_replicate]; omega))) := by
                  obtain ⟨g, off, h1, _, _, h4⟩ := k2.rd.at (i := k) (by rw [List.length_append, natsTo_len, List.length_replicate]; omega)
                  injection h1 with h1
                  injection h1 with h1 h1'
                  subst h1; subst h1'
                  have := h4 k (by rw [List.length_append, natsTo_len, List.length_replicate]; omega)
                  rw [Nat.zero_add] at this
                  exact this
                have hfr : wr.frozen? ⟨wo.heap.size, k, none⟩ = false := by
                  obtain ⟨_, _, _, ⟨h4, _⟩ | ⟨g', off, cur, _, r2, r3, _⟩⟩ := k2
                  · omega
                  · injection r2 with r2
                    subst r2
                    simp [World.frozen?, r3]
                replace k1 := hid k1
                replace k2 := hid k2
                go_wp2
                go_roundw
                case rel =>
                  refine ⟨k + 1, by omega, by go_num, k1.out.setCell (p := ⟨wo.heap.size, k, none⟩) (.inr (Nat.le_refl _)) _, ?_⟩
                  have h1 := k2.out.put (i := k) hkb (.int .i64 (k : Int))
                  have h2 : (ints .i64 (natsTo k ++ List.replicate (b - k) 0)).set k (.int .i64 (k : Int)) = ints .i64 (natsTo (k + 1) ++ List.replicate (b - (k + 1)) 0) := by
                    rw [← natsTo_set b k hkb, ints, ints, List.map_set]
                  rw [h2, Nat.zero_add] at h1
                  exact h1
                case measure => simp [intOf]; omega
              · obtain rfl : k = b := by omega
                rw [Nat.sub_self, List.replicate_zero, List.append_nil] at k2
                have hB := i2.size
                obtain ⟨v1, v2⟩ := done_idle (fD c 0) (fD c 1) (callsTo c k ++ later c k r k) (fD_idle c)
                rw [all_ids c k r rd] at v1
                have i1' := i1.chg k1 (fun _ _ h => h)
                have x1 := below_nil i2 k1
                have hnl := natsTo_len k
                by_cases hr1 : r + 1 < k
                · have hli : laterId k r = [100] := if_pos hr1
                  rw [hli] at v1
                  have e2 : decide ((r : Int) < (k : Int) - 1) = true := by simp; omega
                  have HS := hid (k2.alloc (.cells #[.int .i64 100] 3))
                  have HN := hid (Rd.of_blk (n := 1) (s := 1) (Blk.new wr 3 (ints .i64 [(100 : Int)])) rfl (by decide))
                  replace v1 := hid v1
                  replace v2 := hid v2
                  replace hnl := hid hnl
                  have hlen := hid (show (natsTo k ++ [100]).length = k + 1 by rw [List.length_append, natsTo_len]; rfl)
                  have he : eqI (natsTo k ++ [100]) (natsTo k ++ [100]) = true := eqI_true rfl
                  go_wp2_with (first | (go_at_call 13; refine (rest_any _ _ _ (by omega) (by omega)).mono ?_; (first | rw [HR.out] | skip); rintro e w' ⟨rfl, rfl⟩) | (at_builtin; refine wpList_append_sl rfl _ _ eInt rfl rfl rfl HS.out HN.out (ints_one _ _) (by omega) (by omega) ?_; intro a' c' w3 G' y1 y2 y3; replace y3 := hid y3; have i3' := hid (i1'.chg (push_chg y2) (fun k hF hG => by have h1 := i1.lt k hF; have h2 := opt_some hG; omega)); rw [ints_append] at y1) | (go_at_call 33; refine (run_any _ F p _ _ _ i3'.out (by omega)).mono ?_; rw [v1.out, v2.out, hlen.out]; rintro e w8 ⟨F8, a8, c8, G8, rfl, y8, s8, d8, g8, z8⟩; replace z8 := hid z8; have y1' := y1.chg d8 (g_not_F i1.lt k1.size y3.out)) | (go_at_call 16; refine (equal_int _ _ _ _ _ _ _ _ _ _ _ y8.rd y1'.rd (by omega) (by omega)).mono ?_; rw [he]; rintro e w9 ⟨rfl, kq, rfl⟩))
                  go_ret
                  have x3 := below_chg x1 (push_chg y2) (fun g hg => by have h2 := opt_some hg; omega)
                  exact ⟨rfl, below_nil (below_chg x3 d8 i3.out) ((Chg.refl Nil w8).drewN kq)⟩
                · have hli : laterId k r = [] := if_neg hr1
                  rw [hli, List.append_nil] at v1
                  have e2 : decide ((r : Int) < (k : Int) - 1) = false := by simp; omega
                  replace v1 := hid v1
                  replace v2 := hid v2
                  have hl8 := hid hnl
                  clear hnl
                  have he : eqI (natsTo k) (natsTo k) = true := eqI_true rfl
                  go_wp2_with (first | (go_at_call 13; refine (rest_any _ _ _ (by omega) (by omega)).mono ?_; (first | rw [HR.out] | skip); rintro e w' ⟨rfl, rfl⟩) | (go_at_call 33; refine (run_any _ F p _ _ _ i1' (by omega)).mono ?_; rw [v1.out, v2.out, hl8.out]; rintro e w8 ⟨F8, a8, c8, G8, rfl, y8, s8, d8, g8, z8⟩; replace z8 := hid z8; have y1' := k2.chg d8 (fun g hg hF => by have h1 := i1.lt g hF; have h2 := opt_some hg; omega)) | (go_at_call 16; refine (equal_int _ _ _ _ _ _ _ _ _ _ _ y8.rd y1'.rd (by omega) (by omega)).mono ?_; rw [he]; rintro e w9 ⟨rfl, kq, rfl⟩))
                  go_ret
                  exact ⟨rfl, below_nil (below_chg x1 d8 i3.out) ((Chg.refl Nil w8).drewN kq)⟩
end Go.Proofs.Ytnbojhmlgnfneaa
