/- The walk of the law WheelSteps: it returns true and changes nothing that was there. No condition. -/
import Derived.Test.YtaffkdoiooablaaWheelNextWalk
namespace Go.Proofs.Ytaffkdoiooablaa
open Go.ChangeShapes Go.WideShapes Go.ChangeAt Go.RowKit
set_option linter.unusedVariables false
/-- Two wheels, and the row of all that went. -/
structure WSt (w0 : World) (F1 : Nat → Prop) (p1 : Nat) (b : Int) (e : Nat) (r : List RT) (F2 : Nat → Prop) (p2 : Nat) (l : List RT) (aa : Option Addr) (ac : Nat) (A : List RT) (G : Option Nat) (w : World) : Prop where
  two : W2 w0 F1 p1 b e r F2 p2 b 0 l w
  sl : Sl w 3 1 aa A.length ac (ints .i64 (idsR A)) G
  gf : ∀ g, G = some g → ¬ F1 g ∧ ¬ F2 g ∧ w0.heap.size ≤ g
section
variable {w0 w w1 : World} {F1 F2 F1' : Nat → Prop} {p1 p2 e e' ac : Nat} {b : Int} {r r' l A A' : List RT} {aa : Option Addr} {G : Option Nat}
theorem WSt.step (h : WSt w0 F1 p1 b e r F2 p2 l aa ac A G w) (hd : WR w1 F1' p1 b e' r') (hc : Chg F1 w w1) (hg : Grew w.heap.size F1 F1') : WSt w0 F1' p1 b e' r' F2 p2 l aa ac A G w1 :=
  ⟨h.two.step1 hd hc hg, h.sl.chg hc (fun g hG => (h.gf g hG).1), fun g hG => ⟨fun hh => (hg g hh).elim (h.gf g hG).1 (fun k3 => by have := h.sl.lt g hG; omega), (h.gf g hG).2⟩⟩
theorem WSt.push {a' : Option Addr} {c' : Nat} {G' : Option Nat} (h : WSt w0 F1 p1 b e r F2 p2 l aa ac A G w) (hs : Sl w1 3 1 a' A'.length c' (ints .i64 (idsR A')) G') (hc : Chg (Opt G) w w1) (hG : G' = G ∨ G' = some w.heap.size) : WSt w0 F1 p1 b e r F2 p2 l a' c' A' G' w1 := by
  refine ⟨h.two.far hc (fun k k1 k2 => (h.gf k k2).1 k1) (fun k k1 k2 => (h.gf k k2).2.1 k1) (fun k hk => (h.gf k hk).2.2), hs, fun g hg => ?_⟩
  rcases hG with h1 | h1 <;> rw [h1] at hg
  · exact h.gf g hg
  · injection hg with hg
    subst hg
    exact ⟨fun hh => by have := WhAt.lt h.two.m1 _ hh; omega, fun hh => by have := WhAt.lt h.two.m2 _ hh; omega, h.two.bel.size⟩
end
theorem tw_append {α : Type} (f : α → Bool) : ∀ (A r : List α), (∀ x ∈ A, f x = true) → (A ++ r).takeWhile f = A ++ r.takeWhile f ∧ (A ++ r).dropWhile f = r.dropWhile f
  | [], r, _ => ⟨rfl, rfl⟩
  | x :: A, r, h => by
    obtain ⟨h1, h2⟩ := tw_append f A r (fun y hy => h y (List.mem_cons_of_mem _ hy))
    have h0 := h x List.mem_cons_self
    rw [List.cons_append, List.takeWhile_cons_of_pos h0, List.dropWhile_cons_of_pos h0, h1, h2]
    exact ⟨rfl, rfl⟩
/-- What went, and what is left, when it is e later. -/
structure Went (e : Nat) (l A r : List RT) : Prop where
  all : l = A ++ r
  did : ∀ x ∈ A, x.k ≤ e
  left : 0 < e → ∀ x ∈ r, e < x.k
theorem Went.sort {e : Nat} {l A r : List RT} (h : Went e l A r) (hs : SortR l) : SortR r := by
  unfold SortR at *
  rw [h.all] at hs
  exact (List.pairwise_append.1 hs).2.1
theorem Went.step {e : Nat} {l A r : List RT} (h : Went e l A r) (hs : SortR l) (n : Nat) : Went (e + n) l (A ++ r.takeWhile (dueR (e + n))) (r.dropWhile (dueR (e + n))) := by
  refine ⟨?_, fun x hx => ?_, fun _ x hx => from_dw (e := 0) (h.sort hs) (fun y _ => by omega) x hx⟩
  · rw [List.append_assoc, List.takeWhile_append_dropWhile]; exact h.all
  · rcases List.mem_append.1 hx with h1 | h1
    · have := h.did x h1; omega
    · have := tw_all _ _ x h1; simpa [dueR] using this
theorem Went.fin {e : Nat} {l A r : List RT} (h : Went e l A r) : l.takeWhile (dueR e) = A ++ r.takeWhile (dueR e) ∧ l.dropWhile (dueR e) = r.dropWhile (dueR e) := by
  rw [h.all]
  exact tw_append _ A r (fun x hx => by simp [dueR, h.did x hx])
theorem idsR_append (A r : List RT) : ints .i64 (idsR A) ++ ints .i64 (idsR r) = ints .i64 (idsR (A ++ r)) := by simp [ints, idsR]
theorem idsR_get (A : List RT) (i : Nat) (h : i < A.length) : (idsR A)[i]'(by simpa [idsR] using h) = (A[i].id : Int) := by simp [idsR]
set_option maxRecDepth 100000 in
set_option maxHeartbeats 2000000 in
theorem wheelSteps_walk (a0 : Int) (a1 : Option Addr) (len1 cap1 : Nat) (z1 : List Int) (a2 : Option Addr) (len2 cap2 : Nat) (z2 : List Int) (w : World) (w0 : (Lit.int .u32 a0).wf = true) (w1 : IsRow .i64 w a1 len1 cap1 z1) (w2 : IsRow .i64 w a2 len2 cap2 z2) :
    Calls Try.prog 8 #[.int .u32 a0, .slice a1 len1 cap1, .slice a2 len2 cap2] w fun e w' => e = .returned (.bool true) ∧ Below w.heap.size w w' := by
  have hu0 : 0 ≤ a0 ∧ a0 < 4294967296 := by have := bounds_u32 w0; omega
  have hl1 := w1.1.1
  have hl2 := w1.1.2.1
  have hm1 := w2.1.1
  have hm2 := w2.1.2.1
  unfold maxLen at hl2 hm2
  have W1_ := hid w1.1
  have ZZ1 := hid w1.1.ilen
  have Z2 := hid w2.1.ilen
  have W2_ := hid w2.1
  clear w0 w1 w2
  go_enter Try.func8, Try.ntmps8
  go_wp2_with fail
  refine (wbegun_ok _).mono ?_
  rintro e w1 ⟨rfl, c1⟩
  have C1 := hid (Chg.below c1 (fun i hi h => h) (Nat.le_refl _))
  clear c1
  go_upto_region 3 with fail
  go_cut [1] (fun s1 wx => wx = w1 ∧ ∃ N : Nat, N ≤ 100 ∧ N ≤ len1 ∧ s1 = .slice a1 N cap1)
  case first =>
    go_wp2
    · go_meet
      exact ⟨rfl, 100, by omega, by omega, rfl⟩
    · go_meet
      exact ⟨rfl, len1, by omega, by omega, by simp⟩
  case rest =>
    obtain ⟨rfl, N, hN1, hN2, rfl⟩ := hcut
    have hR := W1_.out.take_n hN2
    rw [Nat.mul_one, ints_take] at hR
    have W1 := hid hR
    have Z1 : Hid ((z1.take N).length = N) := hid (by rw [List.length_take, ZZ1.out]; omega)
    clear hR W1_ ZZ1
    generalize z1.take N = z1 at W1 Z1
    have HR := hid (W1.out.belowP C1.out (fun _ h => h))
    go_wp2_with fail
    refine (timers_ok _ a0 hu0.1 hu0.2 _ _ _ z1 _ HR.out (by omega)).mono ?_
    rintro e w4 ⟨F1, p1, rfl, q1, q2, q3⟩
    replace q1 := hid q1
    replace q2 := hid q2
    replace q3 := hid q3
    go_wp2_with fail
    refine (timers_ok _ a0 hu0.1 hu0.2 _ _ _ z1 _ (HR.out.chg q2.out (fun _ _ _ h => h)) (by omega)).mono ?_
    rintro e w5 ⟨F2, p2, rfl, r1, r2, r3⟩
    have hW : Hid (WSt w F1 p1 a0 0 (bld z1 N) F2 p2 (bld z1 N) none 0 [] none w5) := hid ⟨W2.start C1.out q1.out q2.out q3.out r1 r2 r3, Sl.empty _ _ _ _, fun g h => by cases h⟩
    have HN3 := hid (bld_len z1 N)
    have hSm := hid (bld_small z1 N)
    have hSo := hid (bld_sort z1 N)
    have hMe := hid (fun y => bld_mem z1 y N)
    clear q1 q2 q3 r1 r2 r3 HR C1
    generalize bld z1 N = l at hW HN3 hSm hSo hMe
    go_upto_region 10 with fail
    go_cut [58, 59, 60] (fun s52 s53 s54 wx => wx = w5 ∧ ∃ M : Nat, M ≤ 50 ∧ M ≤ len2 ∧ s52 = .slice a2 M cap2 ∧ s53 = .int .i64 M ∧ s54 = .int .i64 0)
    case first =>
      go_wp2
      · go_meet
        exact ⟨rfl, 50, by omega, by omega, rfl, rfl, rfl⟩
      · go_meet
        exact ⟨rfl, len2, by omega, by omega, by simp, by simp, rfl⟩
    case rest =>
      obtain ⟨rfl, M, hM1, hM2, rfl, rfl, rfl⟩ := hcut
      go_wp2
      go_loopw [11, 12, 60] (fun s11 s12 s60 wr => ∃ (j e n ac : Nat) (F1 : Nat → Prop) (A r : List RT) (aa : Option Addr) (G : Option Nat), j ≤ M ∧ e ≤ 1000 * j ∧ s60 = .int .i64 j ∧ s12 = .int .i64 e ∧ s11 = .slice aa n ac ∧ n ≤ 100 ∧ Hid (n = A.length) ∧ Hid (Went e l A r) ∧ Hid (WSt w F1 p1 a0 e r F2 p2 l aa ac A G wr)) (fun _ _ s60 _ => M - (intOf s60).toNat)
      case atStart => exact ⟨0, 0, 0, 0, F1, [], l, none, none, by omega, by omega, rfl, rfl, rfl, by omega, rfl, ⟨rfl, (fun x h => by cases h), fun h => by omega⟩, hW⟩
      case round =>
        clear hW
        obtain ⟨j, e, n0, ac, F1, A, r, aa, G, hj, he, rfl, rfl, rfl, hn100, HNA, hWe, hW⟩ := hrel
        have hrl : r.length ≤ 100 := by have := HN3.out; rw [hWe.out.all, List.length_append] at this; omega
        have hSr : Hid (Small r) := hid (fun x hx => hSm.out x (by rw [hWe.out.all]; exact List.mem_append_right _ hx))
        by_cases hlt : j < M
        · have hz : j < z2.length := by have := Z2.out; omega
          obtain ⟨g, off, rfl, _, _, hc⟩ := (W2_.out.belowP hW.out.two.bel (fun _ h => h)).at hz
          have hc1 := hc j hz
          clear hc
          generalize z2[j] = z at hc1
          go_wp2_with fail
          refine (prest_nat _ 1000 _ (by omega) (by omega)).mono ?_
          rintro e' w6 ⟨n, hn, rfl, rfl⟩
          have hn1 := hid (rstep_ok wr F1 p1 a0 e (e + n) r hW.out.two.m1 (by omega) (by omega) (by omega) hSr.out)
          have hA1 : (a0 + ((e : Int) + (n : Int))) % 4294967296 = nowOf a0 (e + n) := by unfold nowOf; omega
          go_wp2_with fail
          refine hn1.out.mono ?_
          rintro e' w7 ⟨F1', oa, oc, G1, rfl, s1, s2, s3, s4, _⟩
          have hW7 := hid (hW.out.step s1 s2 s3)
          have S4 := hid s4.rd
          have hWe7 := hid (hWe.out.step hSo.out n)
          have htl : (r.takeWhile (dueR (e + n))).length ≤ 100 := Nat.le_trans (List.takeWhile_sublist _).length_le hrl
          have HD : Hid (∀ i (hi : i < (r.takeWhile (dueR (e + n))).length), (r.takeWhile (dueR (e + n)))[i].id < N ∧ kOf z1 (r.takeWhile (dueR (e + n)))[i].id ≤ e + n ∧ (0 < e → e < kOf z1 (r.takeWhile (dueR (e + n)))[i].id)) := hid (fun i hi => by
            have hm := List.getElem_mem hi
            have hm2 : (r.takeWhile (dueR (e + n)))[i] ∈ r := (List.takeWhile_sublist _).subset hm
            have hm3 : (r.takeWhile (dueR (e + n)))[i] ∈ l := by rw [hWe.out.all]; exact List.mem_append_right _ hm2
            obtain ⟨y, hy, hy2⟩ := (hMe.out _).1 hm3
            have hk1 := tw_all _ _ _ hm
            simp only [dueR, decide_eq_true_eq] at hk1
            have hk2 := hWe.out.left
            have e1 : (r.takeWhile (dueR (e + n)))[i].id = y := by rw [hy2]
            have e2 : (r.takeWhile (dueR (e + n)))[i].k = kOf z1 y := by rw [hy2]
            rw [e1, ← e2]
            exact ⟨hy, hk1, fun h0 => hk2 h0 _ hm2⟩)
          have HA2 : Hid (n0 + (r.takeWhile (dueR (e + n))).length = (A ++ r.takeWhile (dueR (e + n))).length) := hid (by rw [List.length_append, HNA.out])
          have hn2 : n0 + (r.takeWhile (dueR (e + n))).length ≤ 100 := by
            have h1 := HA2.out
            have h2 := congrArg List.length hWe7.out.all
            rw [List.length_append, HN3.out] at h2
            omega
          clear s1 s2 s3 s4 hn1
          generalize r.takeWhile (dueR (e + n)) = d at S4 hWe7 htl HD HA2 hn2
          generalize r.dropWhile (dueR (e + n)) = r' at hW7 hWe7
          obtain ⟨D, hD⟩ : ∃ D, D = d.length := ⟨_, rfl⟩
          rw [← hD] at S4 htl HA2 hn2
          rw [← hD]
          have HDL := hid hD
          clear hD
          go_wp2
          go_loop [82] (fun s82 => ∃ i : Nat, i ≤ D ∧ s82 = .int .i64 i) (fun s82 => D - (intOf s82).toNat)
          case atStart => exact ⟨0, by omega, rfl⟩
          case round =>
            obtain ⟨i, hi, rfl⟩ := hrel
            by_cases hlt2 : i < D
            · have hid1 : i < d.length := by have := HDL.out; omega
              obtain ⟨g2, off2, hoa, _, _, hc2⟩ := S4.out.at (i := i) (by simpa [idsR] using hid1)
              have hcp := hc2 i (by simpa [idsR] using hid1)
              rw [idsR_get d i hid1] at hcp
              obtain ⟨k1, k2, k3⟩ := HD.out i hid1
              obtain ⟨y, hy⟩ : ∃ y, y = d[i].id := ⟨_, rfl⟩
              rw [← hy] at hcp k1 k2 k3
              have hzy : y < z1.length := by have := Z1.out; omega
              obtain ⟨g3, off3, ha1, _, _, hc3⟩ := (W1.out.belowP hW7.out.two.bel (fun _ h => h)).at hzy
              have hcz := hc3 y hzy
              have hky : Hid (rest z1[y] 5000 = (kOf z1 y : Int)) := hid (kOf_eq z1 y hzy)
              have hky5 := kOf_lt z1 y
              subst hoa
              subst ha1
              clear hc2 hc3 hy
              generalize z1[y] = zz at hcz hky
              generalize kOf z1 y = K at hky k2 k3 hky5
              have hyN : (y : Int) < N := by omega
              have hK1 : ¬ ((e : Int) + (n : Int)) < (K : Int) := by omega
              go_wp2_with fail
              refine (rest_any _ 5000 _ (by omega) (by omega)).mono ?_
              rw [hky.out]
              rintro e' w9 ⟨rfl, rfl⟩
              by_cases hKe : K ≤ e
              · have hKe2 : (K : Int) ≤ e := by omega
                have he0 : ¬ (0 : Int) < e := by omega
                go_wp2
                go_round
                case rel => exact ⟨i + 1, by omega, by go_num⟩
                case measure => simp [intOf]; omega
              · have hKe2 : ¬ (K : Int) ≤ e := by omega
                go_wp2
                go_round
                case rel => exact ⟨i + 1, by omega, by go_num⟩
                case measure => simp [intOf]; omega
            · have hA3 := HNA.out
              have S8 := hW7.out.sl
              rw [← hA3] at S8
              replace S8 := hid S8
              clear hA3
              go_wp2_with (at_builtin; refine wpList_append_sl rfl _ _ eInt rfl rfl rfl S8.out S4.out (ints_one _ _) (by omega) (by omega) ?_; intro a' c' w9 G' y1 y2 y3; replace y1 := hid y1; replace y2 := hid y2; replace y3 := hid y3)
              go_roundw
              case rel =>
                have y4 := y1.out
                rw [idsR_append, HA2.out] at y4
                exact ⟨j + 1, e + n, n0 + D, c', F1', A ++ d, r', a', G', by omega, by omega, by go_num, by go_num, rfl, hn2, HA2, hWe7, hW7.out.push y4 y2.out y3.out⟩
              case measure => simp [intOf]; omega
        · have hn1 := hid (rstep_ok wr F1 p1 a0 e e r hW.out.two.m1 (by omega) (by omega) (by omega) hSr.out)
          have hA1 : (a0 + (e : Int)) % 4294967296 = nowOf a0 e := rfl
          go_wp2_with fail
          refine hn1.out.mono ?_
          rintro e' w7 ⟨F1', oa, oc, G1, rfl, s1, s2, s3, s4, _⟩
          have hW7 := hid (hW.out.step s1 s2 s3)
          have S4 := hid s4.rd
          have hWe7 := hid (hWe.out.step hSo.out 0)
          rw [Nat.add_zero] at hWe7
          have hfin := hWe.out.fin
          have htl : (r.takeWhile (dueR e)).length ≤ 100 := Nat.le_trans (List.takeWhile_sublist _).length_le hrl
          have HA2 : Hid (n0 + (r.takeWhile (dueR e)).length = (A ++ r.takeWhile (dueR e)).length) := hid (by rw [List.length_append, HNA.out])
          have HTW := hid hfin.1
          have HDW := hid hfin.2
          clear s1 s2 s3 s4 hn1 hfin
          generalize r.takeWhile (dueR e) = d at S4 hWe7 htl HA2 HTW
          generalize r.dropWhile (dueR e) = r' at hW7 hWe7 HDW
          have S8 := hW7.out.sl
          rw [← HNA.out] at S8
          replace S8 := hid S8
          go_wp2_with (at_builtin; refine wpList_append_sl rfl _ _ eInt rfl rfl rfl S8.out S4.out (ints_one _ _) (by omega) (by omega) ?_; intro a' c' w9 G' y1 y2 y3; replace y1 := hid y1; replace y2 := hid y2; replace y3 := hid y3)
          have y4 := y1.out
          rw [idsR_append, HA2.out] at y4
          have hW9 := hid (hW7.out.push y4 y2.out y3.out)
          have hlen2 : (A ++ d).length + r'.length = N := by
            have h2 := congrArg List.length hWe7.out.all
            rw [List.length_append, HN3.out] at h2
            omega
          have hn2 := rstep_ok w9 F2 p2 a0 0 e l hW9.out.two.m2 (by have := HN3.out; omega) (by omega) (by omega) hSm.out
          unfold RStep at hn2
          rw [HTW.out, HDW.out, ← HA2.out] at hn2
          rw [← HA2.out] at hlen2
          replace hn2 := hid hn2
          clear y4 y1 y2 y3 S8 hW7 HDW HTW
          go_wp2_with fail
          refine hn2.out.mono ?_
          rintro e' w10 ⟨F2', oa2, oc2, G2, rfl, s1, s2, s3, s4, _⟩
          have hW10 := hid (hW9.out.two.step2 s1 s2 s3)
          have R1 := (hW9.out.sl.chg s2 (fun g hg => (hW9.out.gf g hg).2.1)).rd
          rw [← HA2.out] at R1
          replace R1 := hid R1
          have R2 := hid s4.rd
          clear s1 s2 s3 s4 hn2 hW9
          cases r' with
          | nil =>
            have hNN : ((n0 : Int) + (d.length : Int) == (N : Int)) = true := by rw [beq_iff_eq]; simp at hlen2; omega
            clear hlen2
            have HX1 := hid (rnext_none w10 F1' p1 a0 e hW10.out.m1)
            have HX2 := hid (rnext_none w10 F2' p2 a0 e hW10.out.m2)
            go_wp2_with fail
            refine HX1.out.mono ?_
            rintro e' w11 ⟨rfl, rfl⟩
            go_wp2_with fail
            refine HX2.out.mono ?_
            rintro e' w11 ⟨rfl, rfl⟩
            go_wp2_with fail
            refine (equal_int _ _ _ _ _ _ _ _ (idsR (A ++ d)) (idsR (A ++ d)) _ R1.out R2.out (by omega) (by omega)).mono ?_
            rw [eqI_true rfl]
            rintro e' w11 ⟨rfl, m, rfl⟩
            go_wp2
            go_ret
            exact ⟨rfl, (hW10.out.nil ((Chg.refl _ _).drewN m)).bel⟩
          | cons x r' =>
            have hNN : ((n0 : Int) + (d.length : Int) == (N : Int)) = false := by rw [beq_eq_false_iff_ne]; simp at hlen2; omega
            clear hlen2
            have HX1 := hid (rnext_ok w10 F1' p1 a0 e x r' hW10.out.m1)
            have HX2 := hid (rnext_ok w10 F2' p2 a0 e x r' hW10.out.m2)
            go_wp2_with fail
            refine HX1.out.mono ?_
            rintro e' w11 ⟨rfl, rfl⟩
            go_wp2_with fail
            refine HX2.out.mono ?_
            rintro e' w11 ⟨rfl, rfl⟩
            go_wp2_with fail
            refine (equal_int _ _ _ _ _ _ _ _ (idsR (A ++ d)) (idsR (A ++ d)) _ R1.out R2.out (by omega) (by omega)).mono ?_
            rw [eqI_true rfl]
            rintro e' w11 ⟨rfl, m, rfl⟩
            go_wp2
            go_ret
            exact ⟨rfl, (hW10.out.nil ((Chg.refl _ _).drewN m)).bel⟩
end Go.Proofs.Ytaffkdoiooablaa
