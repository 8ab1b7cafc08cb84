/- The walk of the law SpreadRound: it returns true and changes nothing that was there. No condition. -/
import Derived.Test.YthcgeigijnbpkaaSprR2
namespace Go.Proofs.Ythcgeigijnbpkaa
open Go.ChangeShapes Go.WideShapes Go.ChangeAt Go.RowKit
set_option linter.unusedVariables false
/-- The run and the row, in memory, after S ticks. -/
def RdM (w0 : World) (c n p b : Nat) (v : Int) (S q : Nat) (w : World) : Prop := ∃ s, RunX w0 [b] p s w ∧ Blk w b 3 (ints .i64 (rowR n S)) ∧ RoS c n v (S % n) q s ∧ SOk (16 + (S : Int)) s
theorem max_same {R : Nat → Prop} {a : Option Addr} {n c : Nat} {l : List Int} {K : Int} {w : World} (h : Rd w R 1 a n c (ints .i64 l)) (h0 : 0 < n) (hn : n ≤ 4294967296) (hK : ∀ x ∈ l, x = K) :
    Calls Try.prog 19 #[.slice a n c] w fun e w' => e = .returned (.int .i64 K) ∧ w' = w := by
  refine (max_int R a n c l w h h0 hn).mono ?_
  rintro e w' ⟨m, hm, rfl, rfl⟩
  rw [hK m hm.1]
  exact ⟨rfl, rfl⟩
theorem min_same {R : Nat → Prop} {a : Option Addr} {n c : Nat} {l : List Int} {K : Int} {w : World} (h : Rd w R 1 a n c (ints .i64 l)) (h0 : 0 < n) (hn : n ≤ 4294967296) (hK : ∀ x ∈ l, x = K) :
    Calls Try.prog 20 #[.slice a n c] w fun e w' => e = .returned (.int .i64 K) ∧ w' = w := by
  refine (min_int R a n c l w h h0 hn).mono ?_
  rintro e w' ⟨m, hm, rfl, rfl⟩
  rw [hK m hm.1]
  exact ⟨rfl, rfl⟩
set_option maxRecDepth 100000 in
set_option maxHeartbeats 2000000 in
theorem spreadRound_walk (a0 a1 a2 a3 : Int) (w : World) (w0 : (Lit.int .i64 a0).wf = true) (w1 : (Lit.int .i64 a1).wf = true) (w2 : (Lit.int .i64 a2).wf = true) (w3 : (Lit.int .i64 a3).wf = true) :
    Calls Try.prog 5 #[.int .i64 a0, .int .i64 a1, .int .i64 a2, .int .i64 a3] w fun e w' => e = .returned (.bool true) ∧ Below w.heap.size w w' := by
  clear w0 w1 w2 w3
  have emk : ∀ (n : Nat) (hn : n ≤ 100) (w : World), (Instr.makeSlice 22 (.int .i64 ((n : Int) + 1)) (.int .i64 ((n : Int) + 1))).run Try.prog w = .ok (.slice (some ⟨w.heap.size, 0, none⟩) (n + 1) (n + 1)) (w.alloc (.cells (List.replicate (n + 1) (.int .i64 0)).toArray 3)) := fun n hn w =>
    run_make1 (P := Try.prog) (t := 22) (e := 3) (z := .int .i64 0) (bytes := 8) Try.underlying22 (by kernel_rfl) rfl (by omega) (n + 1) (by omega) w
  have eints : ∀ n : Nat, ints .i64 (List.replicate n 0) = List.replicate n (.int .i64 0) := fun n => by unfold ints; rw [List.map_replicate]
  replace emk := hid emk
  replace eints := hid eints
  go_enter Try.func5, Try.ntmps5
  go_wp2_with fail
  refine (sbegun_ok _).mono ?_
  rintro e w1 ⟨rfl, c1⟩
  have B1 := hid (below_nil (Below.refl _ w) c1)
  clear c1
  go_wp2_with fail
  refine (rest_nat a0 4 _ (by omega) (by omega)).mono ?_
  rintro e w2 ⟨q, hq, rfl, rfl⟩
  go_upto_region 4 with fail
  obtain ⟨c, hc⟩ : ∃ c : Nat, c = q + 1 := ⟨_, rfl⟩
  have hcq : 1 + (q : Int) = (c : Int) := by omega
  have hc1 : 1 ≤ c := by omega
  have hc4 : c ≤ 4 := by omega
  rw [hcq]
  clear hcq hc hq
  go_wp2_with fail
  refine (rest_nat a1 (16 - (c : Int) + 1) _ (by omega) (by omega)).mono ?_
  rintro e w2 ⟨q2, hq2, rfl, rfl⟩
  go_wp2_with fail
  refine (rest_nat a2 8 _ (by omega) (by omega)).mono ?_
  rintro e w2 ⟨v, hv8, rfl, rfl⟩
  go_upto_region 5 with fail
  obtain ⟨n, hn⟩ : ∃ n : Nat, n = c + q2 := ⟨_, rfl⟩
  have hnq : (c : Int) + (q2 : Int) = (n : Int) := by omega
  have hcn : c ≤ n := by omega
  have hn16 : n ≤ 16 := by omega
  rw [hnq]
  clear hnq hn hq2
  go_wp2_with fail
  refine (rx_new B1.out c hc1 hc4).mono ?_
  rintro e w3 ⟨p, rfl, h1, _⟩
  have I0 : Hid (∃ s, RunX w [] p s w3 ∧ RoS c 0 v 0 0 s ∧ SOk 0 s) := hid ⟨_, h1, ro_new c v, new_ok c hc1 hc4⟩
  clear h1 B1
  go_wp2
  go_loopw [11] (fun s11 wr => ∃ k : Nat, k ≤ n ∧ s11 = .int .i64 ((k : Int) + 1) ∧ Hid (∃ s, RunX w [] p s wr ∧ RoS c k v 0 0 s ∧ SOk k s)) (fun s11 _ => n + 1 - (intOf s11).toNat)
  case atStart => exact ⟨0, by omega, rfl, I0⟩
  case round =>
    obtain ⟨k, hk, rfl, hJ⟩ := hrel
    clear I0
    by_cases hlt : k < n
    · obtain ⟨s, j1, j2, j3⟩ := id hJ.out
      obtain ⟨e1, e2⟩ := ro_add j2 hc1
      have hvb : valB 2 (v : Int) = true := by unfold valB; simp; omega
      have A := rx_add j1 j3 (by omega) (by rw [j2.len]; omega) ((k : Int) + 1) 2 v (by omega) (by omega) hvb
      rw [e1] at A
      have OK := j3.add (by rw [j2.len]; omega) (t := (k : Int) + 1) (cl := 2) (va := (v : Int)) (by omega) (by omega) hvb
      replace A := hid A
      replace e2 := hid e2
      replace OK := hid OK
      clear j1 j2 j3 e1 hJ hvb
      have i1 : (k : Int) + 1 ≤ (n : Int) := by omega
      go_wp2_with fail
      refine A.out.mono ?_
      rintro e w4 ⟨rfl, h1, _⟩
      replace h1 := hid h1
      go_wp2
      go_roundw
      case rel => exact ⟨k + 1, by omega, by go_num, _, h1.out, e2.out, OK.out⟩
      case measure => simp [intOf]; omega
    · obtain hkn : k = n := by omega
      have hmk := emk.out n (by omega)
      obtain ⟨b, hb⟩ : ∃ b, b = wr.heap.size := ⟨_, rfl⟩
      have I1 : Hid (RdM w c n p b v 0 0 (wr.alloc (.cells (List.replicate (n + 1) (.int .i64 0)).toArray 3))) := hid (by
        obtain ⟨s, j1, j2, j3⟩ := hJ.out
        refine ⟨s, by rw [hb]; exact j1.alloc _, ?_, by rw [Nat.zero_mod, ← hkn]; exact j2, j3.more (by show (k : Int) ≤ 16 + 0; omega)⟩
        rw [rowR_zero (by omega), eints.out, hb]
        exact Blk.new wr 3 _)
      rw [show (List.replicate (n + 1) (Value.int .i64 0)).toArray = Array.replicate (n + 1) (.int .i64 0) by simp] at I1
      replace hb := hid hb
      have HKN := hid hkn
      clear hkn
      go_upto_region 14 with fail
      clear hmk hJ
      rw [← hb.out]
      generalize World.alloc wr _ = w4 at I1 ⊢
      clear hb emk eints
      go_wp2_with fail
      refine (rest_nat a3 5 _ (by omega) (by omega)).mono ?_
      rintro e w5 ⟨K, hK, rfl, rfl⟩
      clear hk hlt HKN
      go_wp2
      go_loopw [53] (fun s53 wr => ∃ R : Nat, R ≤ K + 1 ∧ s53 = .int .i64 R ∧ Hid (RdM w c n p b v (n * (R * c)) 0 wr)) (fun s53 _ => K + 1 - (intOf s53).toNat)
      case atStart => exact ⟨0, by omega, rfl, by rw [Nat.zero_mul, Nat.mul_zero]; exact I1⟩
      case round =>
        obtain ⟨R, hR, rfl, hJ⟩ := hrel
        clear I1
        by_cases hlR : R < K + 1
        · have hS1 : Hid (n * (R * c) ≤ 256) := hid (by
            have h1 : R * c ≤ 4 * 4 := Nat.mul_le_mul (by omega) hc4
            have h2 : n * (R * c) ≤ 16 * (4 * 4) := Nat.mul_le_mul hn16 h1
            omega)
          obtain ⟨S1, hS⟩ : ∃ S1, S1 = n * (R * c) := ⟨_, rfl⟩
          rw [← hS] at hJ hS1
          have HS1 := hid hS
          clear hS
          have i1 : (R : Int) < 1 + (K : Int) := by omega
          go_wp2
          go_loopw [56] (fun s56 wr => ∃ a : Nat, a ≤ n ∧ s56 = .int .i64 a ∧ Hid (RdM w c n p b v (S1 + a * c) 0 wr)) (fun s56 _ => n - (intOf s56).toNat)
          case atStart => exact ⟨0, by omega, rfl, by rw [Nat.zero_mul, Nat.add_zero]; exact hJ⟩
          case round =>
            obtain ⟨a, ha, rfl, hL⟩ := hrel
            clear hJ
            by_cases hla : a < n
            · have hS2 : Hid (S1 + a * c ≤ 320) := hid (by
                have h1 : a * c ≤ 16 * 4 := Nat.mul_le_mul (by omega) hc4
                have := hS1.out
                omega)
              obtain ⟨S2, hS⟩ : ∃ S2, S2 = S1 + a * c := ⟨_, rfl⟩
              rw [← hS] at hL hS2
              have HS2 := hid hS
              clear hS
              go_wp2
              go_loopw [59] (fun s59 wr => ∃ q qq : Nat, q ≤ c ∧ s59 = .int .i64 q ∧ Hid ((q < c ∧ qq = q) ∨ (q = c ∧ qq = 0)) ∧ Hid (RdM w c n p b v (S2 + q) qq wr)) (fun s59 _ => c - (intOf s59).toNat)
              case atStart => exact ⟨0, 0, by omega, rfl, .inl ⟨by omega, rfl⟩, hL⟩
              case round =>
                obtain ⟨q, qq, hq, rfl, hqq, hM⟩ := hrel
                clear hL
                by_cases hlq : q < c
                · obtain rfl : qq = q := by rcases hqq.out with h | h <;> omega
                  obtain ⟨s, j1, j2, j3, j4⟩ := id hM.out
                  have hS2' := hS2.out
                  have hn0 : 0 < n := by omega
                  have hml : (S2 + qq) % n < n := Nat.mod_lt _ hn0
                  obtain ⟨nq, hnq⟩ : ∃ nq : Nat, (qq + 1 = c ∧ nq = 0) ∨ (qq + 1 < c ∧ nq = qq + 1) := by
                    by_cases h : qq + 1 = c
                    · exact ⟨0, .inl ⟨h, rfl⟩⟩
                    · exact ⟨qq + 1, .inr ⟨by omega, rfl⟩⟩
                  obtain ⟨PK0, RO⟩ := ro_tick (h' := (S2 + qq + 1) % n) (q' := nq) j3 hcn hml hlq (by rcases mod_succ (S := S2 + qq) hn0 with ⟨h1, h2, _⟩ | ⟨h1, h2, _⟩ <;> omega) hnq
                  have PK := rx_pick j1 j4 qq (by rw [j3.nn]; exact hlq)
                  rw [PK0] at PK
                  have TK : Hid (Calls Try.prog 16 #[.pointer (some ⟨p, 0, none⟩), .int .i64 (qq : Nat)] wr (PX w [b] p (s.tick qq) 0 wr)) := hid (rx_tick j1 j4 (by omega) qq (by rw [j3.nn]; exact hlq))
                  have OK2 := hid (j4.tick qq)
                  have RS := hid (rowR_succ (S := S2 + qq) hn0)
                  have RG := hid (rowR_get (S := S2 + qq) hn0)
                  have cb := cntR_bd n (S2 + qq) ((S2 + qq) % n)
                  obtain ⟨h, hh⟩ : ∃ h, h = (S2 + qq) % n := ⟨_, rfl⟩
                  rw [← hh] at PK RS RG cb hml
                  obtain ⟨g, hg⟩ : ∃ g, g = cntR n (S2 + qq) h := ⟨_, rfl⟩
                  rw [← hg] at RS RG cb
                  obtain ⟨cb1, cb2⟩ := cb
                  have J2 := hid j2
                  have ROH := hid RO
                  have HNQ := hid hnq
                  replace PK := hid PK
                  have i2 : (h : Int) + 1 < (n : Int) + 1 := by omega
                  have hto : ((h : Int) + 1).toNat = h + 1 := by omega
                  have g2 : g ≤ 1000 := by omega
                  clear j1 j2 j3 j4 PK0 RO hh hg hnq hM hqq cb2
                  go_wp2_with fail
                  refine PK.out.mono ?_
                  rintro e w7 ⟨rfl, hw⟩
                  subst hw
                  go_wp2_with fail
                  refine TK.out.mono ?_
                  rintro e w8 ⟨rfl, h1, h2⟩
                  have BG := h2 b (by simp) _ _ J2.out
                  have cg := BG.cell (h + 1)
                  have fg := BG.frozen (h + 1)
                  rw [show (ints .i64 (rowR n (S2 + qq)))[h + 1]? = some (.int .i64 g) by unfold ints; rw [List.getElem?_map, RG.out]; rfl] at cg
                  have B2 := BG.set (h + 1) (.int .i64 (g + 1))
                  rw [row_set, RS.out] at B2
                  have HB2 := hid B2
                  have HX := hid (h1.put (g := b) (i := h + 1) (by simp) (.int .i64 (g + 1)))
                  clear h1 h2 BG B2 PK TK
                  go_wp2
                  go_roundw
                  case rel => exact ⟨qq + 1, nq, by omega, by go_num, by rcases HNQ.out with h | h; exact .inr h; exact .inl h, _, HX.out, HB2.out, ROH.out, OK2.out.more (by push_cast; omega)⟩
                  case measure => simp [intOf]; omega
                · obtain rfl : q = c := by omega
                  obtain ⟨qz, hqz⟩ : ∃ qz, qz = qq := ⟨_, rfl⟩
                  have hz : qq = 0 := by rcases hqq.out with h | h <;> omega
                  rw [hz] at hM
                  replace hz := hid hz
                  go_wp2
                  go_roundw
                  case rel => exact ⟨a + 1, by omega, by go_num, by rw [Nat.succ_mul, ← Nat.add_assoc, ← HS2.out]; exact hM⟩
                  case measure => simp [intOf]; omega
            · obtain hna : a = n := by omega
              have hSe : S1 + a * c = n * ((R + 1) * c) := by rw [hna, HS1.out, Nat.add_mul, Nat.one_mul, Nat.mul_add]
              rw [hSe] at hL
              obtain ⟨s, j1, j2, j3, j4⟩ := id hL.out
              have RD := (Rd.of_blk (n := n + 1) (s := 1) j2 (by rw [ints_length, rowR_len]; omega) (by unfold maxLen; omega)).drop_n (k := 1) (by omega)
              rw [Nat.mul_one, show (ints .i64 (rowR n (n * ((R + 1) * c)))).drop 1 = ints .i64 (rowG n (cntR n (n * ((R + 1) * c)))) from rfl] at RD
              have hall : ∀ x ∈ rowG n (cntR n (n * ((R + 1) * c))), x = (((R + 1) * c : Nat) : Int) := fun x hx => by
                obtain ⟨i, _, rfl⟩ := List.mem_map.1 hx
                exact cntR_full (by omega) i
              have hsl := run_from eInt (some ⟨b, 0, none⟩) (n + 1) (n + 1) 1 1 rfl (by omega)
              obtain ⟨A, hA⟩ : ∃ A, A = adv (some (⟨b, 0, none⟩ : Addr)) (n + 1) 1 1 := ⟨_, rfl⟩
              rw [← hA] at RD hsl
              rw [Nat.add_sub_cancel] at RD hsl
              obtain ⟨C, hC⟩ : ∃ C : Int, C = (((R + 1) * c : Nat) : Int) := ⟨_, rfl⟩
              rw [← hC] at hall
              have MXC := hid (fun q => max_same (RD.drewN q) (by omega) (by omega) hall)
              have MNC := hid (fun q => min_same (RD.drewN q) (by omega) (by omega) hall)
              clear RD hall hA hC j1 j2 j3 j4 hSe hna
              have hN2 : (1 : Int) ≤ (n : Int) + 1 := by omega
              go_wp2
              go_quiet (first | (go_at_call 19; with_reducible exact Calls.quiet_of_same (MXC.out _)) | (go_at_call 20; with_reducible exact Calls.quiet_of_same (MNC.out _)))
              go_wp2
              go_roundw
              case rel => exact ⟨R + 1, by omega, by go_num, by obtain ⟨s, j1, j2, j3, j4⟩ := hL.out; exact ⟨s, j1.drewN _, j2.drewN _, j3, j4⟩⟩
              case measure => simp [intOf]; omega
        · go_wp2
          go_ret
          obtain ⟨s, j1, _⟩ := hJ.out
          exact ⟨rfl, j1.bel⟩
end Go.Proofs.Ythcgeigijnbpkaa
