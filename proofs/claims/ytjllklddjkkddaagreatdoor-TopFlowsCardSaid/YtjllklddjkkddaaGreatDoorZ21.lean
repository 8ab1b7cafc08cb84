/- Contracts of package open: Fork, Drop. Conditions: processes from 1 to 16 · Contracts of package proc: who lives, and whose child he is. Conditions: processes from 1 to 16 · Contracts of package proc: Fork, Exit, Wait. Conditions: processes from 1 to 16. -/
import Derived.Test.YtjllklddjkkddaaGreatDoorZ20
namespace Go.Proofs.YtjllklddjkkddaaGreatDoor
open Go.ChangeShapes Go.WideShapes Go.ChangeAt Go.RowKit
set_option linter.unusedVariables false
/-- What is open when the first j descriptors have been shared. -/
def forkF (fl : Nat → Fl) (row : Nat → Nat) : Nat → Nat → Fl
  | 0 => fl
  | j + 1 => if row j = 0 then forkF fl row j else updF (forkF fl row j) (row j - 1) { forkF fl row j (row j - 1) with n := wrap64 ((forkF fl row j (row j - 1)).n + 1) }
/-- A process has the descriptors of another one. -/
def rowD (fd : Nat → Nat → Nat) (c : Nat) (row : Nat → Nat) : Nat → Nat → Nat := fun a b => if a = c then row b else fd a b
set_option maxRecDepth 100000 in
set_option maxHeartbeats 2000000 in
theorem opfork_ok (w : World) (p : Nat) (fl : Nat → Fl) (fd : Nat → Nat → Nat) (h : OpAt w p fl fd) (q c : Nat) (hq1 : 1 ≤ q) (hq : q ≤ 16) (hc1 : 1 ≤ c) (hc : c ≤ 16) (hne : q ≠ c) (h0 : ∀ d, d < 8 → fd c d = 0) (hr : ∀ d, d < 8 → fd q d ≤ 32) :
    Calls Tryz.prog 178 #[.pointer (some ⟨p, 0, none⟩), .int .i64 (q : Int), .int .i64 (c : Int)] w fun e w' => e = .returned (.int .i64 0) ∧ OpAt w' p (forkF fl (fd q) 8) (rowD fd c (fd q)) ∧ Chg (One p) w w' := by
  have HO := hid (fun w => owner_ok w q hq1 hq)
  have HO2 := hid (fun w => owner_ok w c hc1 hc)
  have L1 := load_part (P := Tryz.prog) (ty := 173) (lo := 192 + c * 8) (n := 8) h (by rw [tab_len]; omega) Tryz.underlying173 rfl (by kernel_rfl)
  rw [tab_part (by omega)] at L1
  have H := hid h
  have H0 := hid h0
  have HR := hid hr
  have i1 : ((q : Int) == (c : Int)) = false := by rw [beq_eq_false_iff_ne]; omega
  clear h h0 hr
  go_enter Tryz.func178, Tryz.ntmps178
  go_wp2_with (first | (go_at_call 145; first | (refine (HO.out _).mono ?_; rintro e w' ⟨rfl, rfl⟩) | (refine (HO2.out _).mono ?_; rintro e w' ⟨rfl, rfl⟩)) | (refine wpList_load_run L1 (by rfl) (by rfl) (by rfl) ?_))
  go_loop [25] (fun i => ∃ j : Nat, j ≤ 8 ∧ i = .int .i64 j) (fun i => 8 - (intOf i).toNat)
  case atStart => exact ⟨0, by omega, rfl⟩
  case round =>
    obtain ⟨j, hj, rfl⟩ := hrel
    by_cases hlt : j < 8
    · have hix := fun w => index_arr (P := Tryz.prog) (t := 173) (n := 8) w Tryz.underlying173 (by kernel_rfl) (fun w => Tryz.isAgg3 w) hlt (tab_get (n := 8) (fun i => opV fl fd (192 + c * 8 + i)) hlt)
      simp only [opV_fd fl fd hlt, H0.out j hlt] at hix
      clear L1
      go_wp2
      go_round
      case rel => exact ⟨j + 1, by omega, by go_num⟩
      case measure => simp [intOf]; omega
    · clear L1
      have hcr : ∀ w : World, True := fun _ => trivial
      have s0 := H.out.fd (q := q) (d := 0) (by omega) (by omega)
      have s1 := H.out.fd (q := q) (d := 1) (by omega) (by omega)
      have s2 := H.out.fd (q := q) (d := 2) (by omega) (by omega)
      have s3 := H.out.fd (q := q) (d := 3) (by omega) (by omega)
      have s4 := H.out.fd (q := q) (d := 4) (by omega) (by omega)
      have s5 := H.out.fd (q := q) (d := 5) (by omega) (by omega)
      have s6 := H.out.fd (q := q) (d := 6) (by omega) (by omega)
      have s7 := H.out.fd (q := q) (d := 7) (by omega) (by omega)
      have d0 := H.out.fd (q := c) (d := 0) (by omega) (by omega)
      have e0 := Blk.frozen H.out (192 + c * 8 + 0)
      have d1 := H.out.fd (q := c) (d := 1) (by omega) (by omega)
      have e1 := Blk.frozen H.out (192 + c * 8 + 1)
      have d2 := H.out.fd (q := c) (d := 2) (by omega) (by omega)
      have e2 := Blk.frozen H.out (192 + c * 8 + 2)
      have d3 := H.out.fd (q := c) (d := 3) (by omega) (by omega)
      have e3 := Blk.frozen H.out (192 + c * 8 + 3)
      have d4 := H.out.fd (q := c) (d := 4) (by omega) (by omega)
      have e4 := Blk.frozen H.out (192 + c * 8 + 4)
      have d5 := H.out.fd (q := c) (d := 5) (by omega) (by omega)
      have e5 := Blk.frozen H.out (192 + c * 8 + 5)
      have d6 := H.out.fd (q := c) (d := 6) (by omega) (by omega)
      have e6 := Blk.frozen H.out (192 + c * 8 + 6)
      have d7 := H.out.fd (q := c) (d := 7) (by omega) (by omega)
      have e7 := Blk.frozen H.out (192 + c * 8 + 7)
      simp only [Nat.add_zero] at s0 d0 e0
      have R1 := Blk.cells (lo := 192 + c * 8) (vs := tab 8 (fun i => .int .i64 ((fd q i : Nat) : Int))) H.out (by rw [tab_len, tab_len]; omega)
      rw [tab_over (by omega)] at R1
      have A1 : OpAt (w.setCells p (192 + c * 8) (tab 8 (fun i => .int .i64 ((fd q i : Nat) : Int)))) p fl (rowD fd c (fd q)) := by
        refine Blk.tabEq R1 (fun i hi => ?_)
        unfold opV
        by_cases h1 : 192 + c * 8 ≤ i ∧ i < 192 + c * 8 + 8
        · rw [if_pos h1, if_neg (by omega)]
          unfold rowD
          rw [if_pos (by omega), show (i - 192) % 8 = i - (192 + c * 8) by omega]
        · rw [if_neg h1]
          by_cases h2 : i < 192
          · rw [if_pos h2, if_pos h2]
          · rw [if_neg h2, if_neg h2]
            unfold rowD
            rw [if_neg (by omega)]
      have S1 : Chg (One p) w (w.setCells p (192 + c * 8) (tab 8 (fun i => .int .i64 ((fd q i : Nat) : Int)))) := setCells_chg _ _ _ _ _ rfl
      have HE : ((((((((w.setCell ⟨p, 192 + c * 8, none⟩ (.int .i64 ((fd q 0 : Nat) : Int))).setCell ⟨p, 192 + c * 8 + 1, none⟩ (.int .i64 ((fd q 1 : Nat) : Int))).setCell ⟨p, 192 + c * 8 + 2, none⟩ (.int .i64 ((fd q 2 : Nat) : Int))).setCell ⟨p, 192 + c * 8 + 3, none⟩ (.int .i64 ((fd q 3 : Nat) : Int))).setCell ⟨p, 192 + c * 8 + 4, none⟩ (.int .i64 ((fd q 4 : Nat) : Int))).setCell ⟨p, 192 + c * 8 + 5, none⟩ (.int .i64 ((fd q 5 : Nat) : Int))).setCell ⟨p, 192 + c * 8 + 6, none⟩ (.int .i64 ((fd q 6 : Nat) : Int))).setCell ⟨p, 192 + c * 8 + 7, none⟩ (.int .i64 ((fd q 7 : Nat) : Int))) = w.setCells p (192 + c * 8) (tab 8 (fun i => .int .i64 ((fd q i : Nat) : Int))) := by
        rw [show tab 8 (fun i => .int .i64 ((fd q i : Nat) : Int)) = [.int .i64 ((fd q 0 : Nat) : Int), .int .i64 ((fd q 1 : Nat) : Int), .int .i64 ((fd q 2 : Nat) : Int), .int .i64 ((fd q 3 : Nat) : Int), .int .i64 ((fd q 4 : Nat) : Int), .int .i64 ((fd q 5 : Nat) : Int), .int .i64 ((fd q 6 : Nat) : Int), .int .i64 ((fd q 7 : Nat) : Int)] from rfl]
        simp only [World.setCells, Nat.add_assoc]
      obtain ⟨V, hV⟩ : ∃ V, V = (w.setCells p (192 + c * 8) (tab 8 (fun i => .int .i64 ((fd q i : Nat) : Int)))).drew := ⟨_, rfl⟩
      have A2 : OpAt V p fl (rowD fd c (fd q)) := by rw [hV]; exact Blk.drew A1
      have S2 : Chg (One p) w V := by rw [hV]; exact S1.drew
      rw [← HE] at hV
      replace hV := hid hV
      replace A2 := hid A2
      replace S2 := hid S2
      clear A1 S1 HE R1 hcr
      go_wp2
      go_cut [35] (fun _ wx => wx = World.drew ((((((((w.setCell ⟨p, 192 + c * 8, none⟩ (.int .i64 ((fd q 0 : Nat) : Int))).setCell ⟨p, 192 + c * 8 + 1, none⟩ (.int .i64 ((fd q 1 : Nat) : Int))).setCell ⟨p, 192 + c * 8 + 2, none⟩ (.int .i64 ((fd q 2 : Nat) : Int))).setCell ⟨p, 192 + c * 8 + 3, none⟩ (.int .i64 ((fd q 3 : Nat) : Int))).setCell ⟨p, 192 + c * 8 + 4, none⟩ (.int .i64 ((fd q 4 : Nat) : Int))).setCell ⟨p, 192 + c * 8 + 5, none⟩ (.int .i64 ((fd q 5 : Nat) : Int))).setCell ⟨p, 192 + c * 8 + 6, none⟩ (.int .i64 ((fd q 6 : Nat) : Int))).setCell ⟨p, 192 + c * 8 + 7, none⟩ (.int .i64 ((fd q 7 : Nat) : Int))))
      case first =>
        go_region
        go_wp2
        go_meet
        rfl
      case rest =>
        rw [← hV.out] at hcut
        subst hcut
        clear s0 s1 s2 s3 s4 s5 s6 s7 d0 d1 d2 d3 d4 d5 d6 d7 e0 e1 e2 e3 e4 e5 e6 e7
        have L2 := load_part (P := Tryz.prog) (ty := 173) (lo := 192 + q * 8) (n := 8) A2.out (by rw [tab_len]; omega) Tryz.underlying173 rfl (by kernel_rfl)
        rw [tab_part (by omega), tab_ext (g := fun i => .int .i64 ((fd q i : Nat) : Int)) (fun i hi => by rw [opV_fd _ _ hi]; unfold rowD; rw [if_neg hne])] at L2
        go_wp2_with (refine wpList_load_run L2 (by rfl) (by rfl) (by rfl) ?_)
        clear L2
        obtain ⟨wo, rfl⟩ : ∃ wo : World, wo = wc := ⟨_, rfl⟩
        go_loopw [51] (fun i wr => ∃ j : Nat, j ≤ 8 ∧ i = .int .i64 j ∧ Hid (OpAt wr p (forkF fl (fd q) j) (rowD fd c (fd q))) ∧ Hid (Chg (One p) w wr)) (fun i _ => 8 - (intOf i).toNat)
        case atStart => exact ⟨0, by omega, rfl, A2.out, S2.out⟩
        case round =>
          clear A2 S2
          obtain ⟨i, hi, rfl, hA, hC⟩ := hrel
          by_cases hlt2 : i < 8
          · have hix := fun w => index_arr (P := Tryz.prog) (t := 173) (n := 8) w Tryz.underlying173 (by kernel_rfl) (fun w => Tryz.isAgg3 w) hlt2 (tab_get (n := 8) (fun i => .int .i64 ((fd q i : Nat) : Int)) hlt2)
            have hr := HR.out i hlt2
            rcases Nat.eq_zero_or_pos (fd q i) with h0 | h0
            · simp only [h0] at hix
              replace h0 := hid h0
              clear hr
              go_wp2
              go_roundw
              case rel =>
                refine ⟨i + 1, by omega, by go_num, ?_, hC⟩
                refine hid ?_
                unfold forkF
                rw [if_pos h0.out]
                exact hA.out
              case measure => simp [intOf]; omega
            · obtain ⟨k, hk⟩ : ∃ k, fd q i = k + 1 := ⟨fd q i - 1, by omega⟩
              have k32 : k < 32 := by omega
              have hix2 : ∀ w, (Instr.index 173 (.agg (tab 8 (fun i => .int .i64 ((fd q i : Nat) : Int))).toArray) (.int .i64 (i : Int))).run Tryz.prog w = .ok (.int .i64 ((k : Int) + 1)) w := fun w => by
                rw [hix w]
                simp only [hk]
                rfl
              have n1 := hA.out.n k32
              have f1 := Blk.frozen hA.out (k * 6 + 5)
              have A3 := hid (hA.out.setN k32 (wrap64 ((forkF fl (fd q) i k).n + 1)))
              have C3 := hid (hC.out.setCell (p := ⟨p, k * 6 + 5, none⟩) (.inl (show One p p from rfl)) (.int .i64 (wrap64 ((forkF fl (fd q) i k).n + 1))))
              have hbb : ((k : Int) + 1 != 0) = true := by rw [bne_iff_ne]; omega
              have hk2 := hid hk
              clear hix hr h0 hk
              obtain ⟨x, hx⟩ : ∃ x, x = (forkF fl (fd q) i k).n := ⟨_, rfl⟩
              rw [← hx] at n1 A3 C3
              replace hx := hid hx
              go_wp2
              go_region
              all_goals
                go_wp2
                go_roundw
                case rel =>
                  refine ⟨i + 1, by omega, by go_num, ?_, C3.out.drew⟩
                  refine hid ?_
                  unfold forkF
                  rw [if_neg (by have := hk2.out; omega), show fd q i - 1 = k by have := hk2.out; omega, ← hx.out]
                  exact Blk.drew A3.out
                case measure => simp [intOf]; omega
          · obtain rfl : i = 8 := by omega
            go_wp2
            go_ret
            exact ⟨rfl, hA.out, hC.out⟩
end Go.Proofs.YtjllklddjkkddaaGreatDoor
namespace Go.Proofs.YtjllklddjkkddaaGreatDoor
open Go.ChangeShapes Go.WideShapes Go.ChangeAt Go.RowKit
set_option linter.unusedVariables false
/-- A process's entry. -/
structure Pe where
  state : Int
  parent : Int
  group : Int
  status : Int
def peZ : Pe := ⟨0, 0, 0, 0⟩
def peV (x : Pe) (j : Nat) : Value := if j = 0 then .int .i64 x.state else if j = 1 then .int .i64 x.parent else if j = 2 then .int .i64 x.group else .int .i64 x.status
theorem peV_one (x : Pe) (j : Nat) : (peV x j).oneCell' = true := by
  unfold peV
  repeat' split
  all_goals rfl
def prV (l : Nat → Pe) (i : Nat) : Value := peV (l (i / 4)) (i % 4)
theorem prV_at (l : Nat → Pe) {k j : Nat} (hj : j < 4) : prV l (k * 4 + j) = peV (l k) j := by
  unfold prV
  rw [show (k * 4 + j) / 4 = k by omega, show (k * 4 + j) % 4 = j by omega]
/-- In block p lies a table of processes. -/
def PrAt (w : World) (p : Nat) (l : Nat → Pe) : Prop := Blk w p 181 (tab 68 (prV l))
section
variable {w w' : World} {F : Nat → Prop} {p : Nat} {l : Nat → Pe}
theorem PrAt.chg (h : PrAt w p l) (hc : Chg F w w') (hF : ¬ F p) : PrAt w' p l := Blk.chg h hc hF
theorem PrAt.cellAt (h : PrAt w p l) {k j : Nat} (hk : k < 17) (hj : j < 4) : w.cell? ⟨p, k * 4 + j, none⟩ = some (peV (l k) j) := by rw [Blk.tabCell h (by omega), prV_at _ hj]
theorem PrAt.state (h : PrAt w p l) {k : Nat} (hk : k < 17) : w.cell? ⟨p, k * 4, none⟩ = some (.int .i64 (l k).state) := h.cellAt (j := 0) hk (by omega)
theorem PrAt.parent (h : PrAt w p l) {k : Nat} (hk : k < 17) : w.cell? ⟨p, k * 4 + 1, none⟩ = some (.int .i64 (l k).parent) := h.cellAt (j := 1) hk (by omega)
theorem PrAt.group (h : PrAt w p l) {k : Nat} (hk : k < 17) : w.cell? ⟨p, k * 4 + 2, none⟩ = some (.int .i64 (l k).group) := h.cellAt (j := 2) hk (by omega)
theorem PrAt.status (h : PrAt w p l) {k : Nat} (hk : k < 17) : w.cell? ⟨p, k * 4 + 3, none⟩ = some (.int .i64 (l k).status) := h.cellAt (j := 3) hk (by omega)
theorem PrAt.set1 (h : PrAt w p l) {k j : Nat} (hk : k < 17) (hj : j < 4) {v : Value} {x : Pe} (h1 : peV x j = v) (h2 : ∀ i, i < 4 → i ≠ j → peV x i = peV (l k) i) : PrAt (w.setCell ⟨p, k * 4 + j, none⟩ v) p (updF l k x) := by
  refine Blk.tabEq (Blk.tabSet h (i := k * 4 + j) (by omega) v) (fun i hi => ?_)
  by_cases he : i = k * 4 + j
  · subst he
    rw [if_pos rfl, prV_at _ hj]
    unfold updF
    rw [if_pos rfl, h1]
  · rw [if_neg he]
    unfold prV updF
    by_cases h3 : i / 4 = k
    · rw [if_pos h3, h3]
      exact (h2 _ (by omega) (by omega)).symm
    · rw [if_neg h3]
theorem PrAt.setAll (h : PrAt w p l) {k : Nat} (hk : k < 17) (x : Pe) : PrAt (w.setCells p (k * 4) (tab 4 (peV x))) p (updF l k x) := by
  have R1 := Blk.cells (lo := k * 4) (vs := tab 4 (peV x)) h (by rw [tab_len, tab_len]; omega)
  rw [tab_over (by omega)] at R1
  refine Blk.tabEq R1 (fun i hi => ?_)
  unfold prV updF
  by_cases h1 : k * 4 ≤ i ∧ i < k * 4 + 4
  · rw [if_pos h1, if_pos (by omega), show i % 4 = i - k * 4 by omega]
  · rw [if_neg h1, if_neg (by omega)]
end
theorem number_ok (w : World) (q : Nat) (h1 : 1 ≤ q) (h2 : q ≤ 16) : Calls Tryz.prog 69 #[.int .i64 (q : Int)] w fun e w' => e = .returned (.bool true) ∧ w = w' := by
  have i1 : (1 : Int) ≤ (q : Int) := by omega
  have i2 : (q : Int) ≤ 16 := by omega
  go_enter Tryz.func69, Tryz.ntmps69
  go_wp2
  go_ret
  exact ⟨rfl, rfl⟩
theorem prliving_ok (w : World) (p : Nat) (l : Nat → Pe) (h : PrAt w p l) (q : Nat) (h1 : 1 ≤ q) (h2 : q ≤ 16) (hs : (l q).state = 1) :
    Calls Tryz.prog 144 #[.pointer (some ⟨p, 0, none⟩), .int .i64 (q : Int)] w fun e w' => e = .returned (.int .i64 0) ∧ w = w' := by
  have k1 := h.state (k := q) (by omega)
  rw [hs] at k1
  have HN := hid (number_ok w q h1 h2)
  clear h hs
  go_enter Tryz.func144, Tryz.ntmps144
  go_wp2_with (go_at_call 69; refine HN.out.mono ?_; rintro e w' ⟨rfl, rfl⟩)
  go_ret
  exact ⟨rfl, rfl⟩
theorem prstate_ok (w : World) (p : Nat) (l : Nat → Pe) (h : PrAt w p l) (q : Nat) (h1 : 1 ≤ q) (h2 : q ≤ 16) :
    Calls Tryz.prog 35 #[.pointer (some ⟨p, 0, none⟩), .int .i64 (q : Int)] w fun e w' => e = .returned (.tuple #[.int .i64 (l q).state, .int .i64 0]) ∧ w = w' := by
  have k1 := h.state (k := q) (by omega)
  have HN := hid (number_ok w q h1 h2)
  clear h
  go_enter Tryz.func35, Tryz.ntmps35
  go_wp2_with (go_at_call 69; refine HN.out.mono ?_; rintro e w' ⟨rfl, rfl⟩)
  go_ret2
  exact ⟨rfl, rfl⟩
set_option maxRecDepth 100000 in
set_option maxHeartbeats 2000000 in
theorem prnew_ok (w : World) : Calls Tryz.prog 30 #[] w fun e w' => e = .returned (.pointer (some ⟨w.heap.size, 0, none⟩)) ∧ PrAt w' w.heap.size (updF (fun _ => peZ) 1 ⟨1, 0, 1, 0⟩) ∧ Chg Nil w w' := by
  have e1 : ((((Tryz.zeroCells181.setIfInBounds 4 (.int .i64 1)).setIfInBounds 5 (.int .i64 0)).setIfInBounds 6 (.int .i64 1)).setIfInBounds 7 (.int .i64 0)) = (tab 68 (prV (updF (fun _ => peZ) 1 ⟨1, 0, 1, 0⟩))).toArray := by kernel_rfl
  have c0 : Tryz.zeroCells181[4]? = some (.int .i64 0) := by kernel_rfl
  have c1 : Tryz.zeroCells181[5]? = some (.int .i64 0) := by kernel_rfl
  have c2 : Tryz.zeroCells181[6]? = some (.int .i64 0) := by kernel_rfl
  have c3 : Tryz.zeroCells181[7]? = some (.int .i64 0) := by kernel_rfl
  have cs : Tryz.zeroCells181.size = 68 := by kernel_rfl
  replace e1 := hid e1
  go_enter Tryz.func30, Tryz.ntmps30
  go_wp2
  go_ret
  rw [e1.out]
  exact ⟨rfl, Blk.new w 181 _, (Chg.refl Nil w).alloc _⟩
end Go.Proofs.YtjllklddjkkddaaGreatDoor
namespace Go.Proofs.YtjllklddjkkddaaGreatDoor
open Go.ChangeShapes Go.WideShapes Go.ChangeAt Go.RowKit
set_option linter.unusedVariables false
theorem tab4 (x : Pe) : tab 4 (peV x) = [.int .i64 x.state, .int .i64 x.parent, .int .i64 x.group, .int .i64 x.status] := rfl
theorem cells4 (w : World) (p k : Nat) (x : Pe) : (((w.setCell ⟨p, k * 4, none⟩ (.int .i64 x.state)).setCell ⟨p, k * 4 + 1, none⟩ (.int .i64 x.parent)).setCell ⟨p, k * 4 + 2, none⟩ (.int .i64 x.group)).setCell ⟨p, k * 4 + 3, none⟩ (.int .i64 x.status) = w.setCells p (k * 4) (tab 4 (peV x)) := by
  rw [tab4]
  simp only [World.setCells, Nat.add_assoc]
theorem PrAt.set4 {w : World} {p : Nat} {l : Nat → Pe} (h : PrAt w p l) {k : Nat} (hk : k < 17) (a b c d : Int) : PrAt ((((w.setCell ⟨p, k * 4, none⟩ (.int .i64 a)).setCell ⟨p, k * 4 + 1, none⟩ (.int .i64 b)).setCell ⟨p, k * 4 + 2, none⟩ (.int .i64 c)).setCell ⟨p, k * 4 + 3, none⟩ (.int .i64 d)) p (updF l k ⟨a, b, c, d⟩) ∧
    Chg (One p) w ((((w.setCell ⟨p, k * 4, none⟩ (.int .i64 a)).setCell ⟨p, k * 4 + 1, none⟩ (.int .i64 b)).setCell ⟨p, k * 4 + 2, none⟩ (.int .i64 c)).setCell ⟨p, k * 4 + 3, none⟩ (.int .i64 d)) := by
  have e := cells4 w p k ⟨a, b, c, d⟩
  simp only at e
  rw [e]
  exact ⟨h.setAll hk _, setCells_chg _ _ _ _ _ rfl⟩
set_option maxRecDepth 100000 in
set_option maxHeartbeats 2000000 in
theorem prfork_ok (w : World) (p : Nat) (l : Nat → Pe) (h : PrAt w p l) (q : Nat) (h1 : 1 ≤ q) (h2 : q ≤ 16) (hs : (l q).state = 1) (c : Nat) (c1 : 1 ≤ c) (c2 : c ≤ 16) (hc : (l c).state = 0) (hb : ∀ j, 1 ≤ j → j < c → (l j).state ≠ 0) :
    Calls Tryz.prog 177 #[.pointer (some ⟨p, 0, none⟩), .int .i64 (q : Int)] w fun e w' => e = .returned (.tuple #[.int .i64 (c : Int), .int .i64 0]) ∧ PrAt w' p (updF l c ⟨1, q, (l q).group, 0⟩) ∧ Chg (One p) w w' := by
  have HL := hid (prliving_ok w p l h q h1 h2 hs)
  have H := hid h
  have HC := hid hc
  have HB := hid hb
  clear h hs hc hb
  go_enter Tryz.func177, Tryz.ntmps177
  go_wp2_with (go_at_call 144; refine HL.out.mono ?_; rintro e w' ⟨rfl, rfl⟩)
  go_loop [7] (fun i => ∃ j : Nat, 1 ≤ j ∧ j ≤ c ∧ i = .int .i64 j) (fun i => 20 - (intOf i).toNat)
  case atStart => exact ⟨1, by omega, c1, rfl⟩
  case round =>
    obtain ⟨j, hj1, hj, rfl⟩ := hrel
    have j16 : j ≤ 16 := by omega
    have n1 := H.out.state (k := j) (by omega)
    by_cases hlt : j < c
    · have hbb : ((l j).state == 0) = false := by rw [beq_eq_false_iff_ne]; exact HB.out j hj1 hlt
      go_wp2
      go_round
      case rel => exact ⟨j + 1, by omega, by omega, by go_num⟩
      case measure => simp [intOf]; omega
    · have hjc : j = c := by omega
      have hc0 := HC.out
      subst hjc
      rw [hc0] at n1
      clear hc0
      have g1 := H.out.group (k := q) (by omega)
      obtain ⟨x, hx⟩ : ∃ x, x = (l q).group := ⟨_, rfl⟩
      rw [← hx] at g1
      replace hx := hid hx
      have S := H.out.set4 (k := j) (by omega) 1 q x 0
      replace S := hid S
      go_wp2
      have m1 := H.out.parent (k := j) (by omega)
      have m2 := H.out.group (k := j) (by omega)
      have m3 := H.out.status (k := j) (by omega)
      have f0 := Blk.frozen H.out (j * 4)
      have f1 := Blk.frozen H.out (j * 4 + 1)
      have f2 := Blk.frozen H.out (j * 4 + 2)
      have f3 := Blk.frozen H.out (j * 4 + 3)
      go_region
      all_goals
        go_wp2
        go_ret2
        exact ⟨rfl, by rw [← hx.out]; exact Blk.drew S.out.1, S.out.2.drew⟩
/-- Whose parent ended has the first process as its parent. -/
def orph (l : Nat → Pe) (q : Nat) (n : Nat) : Nat → Pe := fun k => if k < n ∧ (l k).state ≠ 0 ∧ (l k).parent = q then { l k with parent := 1 } else l k
set_option maxRecDepth 100000 in
set_option maxHeartbeats 2000000 in
theorem prexit_ok (w : World) (p : Nat) (l : Nat → Pe) (h : PrAt w p l) (q : Nat) (h1 : 2 ≤ q) (h2 : q ≤ 16) (hs : (l q).state = 1) (st : Int) :
    Calls Tryz.prog 71 #[.pointer (some ⟨p, 0, none⟩), .int .i64 (q : Int), .int .i64 st] w fun e w' => e = .returned (.tuple #[.int .i64 (orph l q 17 q).parent, .int .i64 0]) ∧ PrAt w' p (updF (orph l q 17) q { orph l q 17 q with state := 2, status := bits .and .i64 st 255 }) ∧ Chg (One p) w w' := by
  have HL := hid (prliving_ok w p l h q (by omega) h2 hs)
  have H := hid h
  have i1 : ((q : Int) == 1) = false := by rw [beq_eq_false_iff_ne]; omega
  clear h hs
  go_enter Tryz.func71, Tryz.ntmps71
  go_wp2_with (go_at_call 144; refine HL.out.mono ?_; rintro e w' ⟨rfl, rfl⟩)
  go_loopw [18] (fun i wr => ∃ j : Nat, j ≤ 17 ∧ i = .int .i64 j ∧ Hid (PrAt wr p (orph l q j)) ∧ Hid (Chg (One p) w wr)) (fun i _ => 20 - (intOf i).toNat)
  case atStart => exact ⟨0, by omega, rfl, by (have e : orph l q 0 = l := by (funext k; unfold orph; rw [if_neg (by omega)])); rw [e]; exact H.out, Chg.refl _ w⟩
  case round =>
    obtain ⟨j, hj, rfl, hA, hC⟩ := hrel
    by_cases hlt : j < 17
    · have ej : orph l q j j = l j := by unfold orph; rw [if_neg (by omega)]
      have n1 := hA.out.state hlt
      have n2 := hA.out.parent hlt
      rw [ej] at n1 n2
      have fr := Blk.frozen hA.out (j * 4 + 1)
      obtain ⟨s, hs⟩ : ∃ s, s = (l j).state := ⟨_, rfl⟩
      obtain ⟨u, hu⟩ : ∃ u, u = (l j).parent := ⟨_, rfl⟩
      rw [← hs] at n1
      rw [← hu] at n2
      by_cases hx : s ≠ 0 ∧ u = q
      · have b1 : (s != 0) = true := by rw [bne_iff_ne]; exact hx.1
        have b2 : (u == (q : Int)) = true := by rw [beq_iff_eq]; exact hx.2
        have A2 := hA.out.set1 hlt (j := 1) (v := .int .i64 1) (x := { l j with parent := 1 }) (by omega) rfl (fun i hi hne => by
          rw [ej]
          unfold peV
          obtain rfl | rfl | rfl : i = 0 ∨ i = 2 ∨ i = 3 := by omega
          all_goals rfl)
        have e2 : updF (orph l q j) j { l j with parent := 1 } = orph l q (j + 1) := by
          funext k
          unfold updF
          by_cases hk : k = j
          · subst hk
            rw [if_pos rfl]
            unfold orph
            rw [if_pos ⟨by omega, by rw [← hs, ← hu]; exact hx⟩]
          · rw [if_neg hk]
            unfold orph
            by_cases hkj : k < j
            · simp only [hkj, show k < j + 1 by omega]
            · simp only [hkj, show ¬ k < j + 1 by omega]
        rw [e2] at A2
        have C2 := hid (hC.out.setCell (p := ⟨p, j * 4 + 1, none⟩) (.inl (show One p p from rfl)) (.int .i64 1))
        replace A2 := hid A2
        replace hs := hid hs
        replace hu := hid hu
        clear hx e2 ej
        go_wp2
        go_roundw
        case rel => exact ⟨j + 1, by omega, by go_num, A2.out, C2.out⟩
        case measure => simp [intOf]; omega
      · have e2 : orph l q j = orph l q (j + 1) := by
          funext k
          unfold orph
          by_cases hk : k = j
          · subst hk
            rw [if_neg (by omega), if_neg (by rintro ⟨_, hh⟩; rw [← hs, ← hu] at hh; exact hx hh)]
          · by_cases hkj : k < j
            · simp only [hkj, show k < j + 1 by omega]
            · simp only [hkj, show ¬ k < j + 1 by omega]
        have A2 := hA.out
        rw [e2] at A2
        replace A2 := hid A2
        replace hs := hid hs
        replace hu := hid hu
        clear e2 ej
        by_cases hs0 : s = 0
        · subst hs0
          clear hx
          go_wp2
          go_roundw
          case rel => exact ⟨j + 1, by omega, by go_num, A2.out, hC⟩
          case measure => simp [intOf]; omega
        · have b1 : (s != 0) = true := by rw [bne_iff_ne]; exact hs0
          have b2 : (u == (q : Int)) = false := by rw [beq_eq_false_iff_ne]; exact fun hh => hx ⟨hs0, hh⟩
          clear hx hs0
          go_wp2
          go_roundw
          case rel => exact ⟨j + 1, by omega, by go_num, A2.out, hC⟩
          case measure => simp [intOf]; omega
    · obtain rfl : j = 17 := by omega
      obtain ⟨L, hL⟩ : ∃ L, L = orph l q 17 := ⟨_, rfl⟩
      rw [← hL] at hA
      have n0 := hA.out.state (k := q) (by omega)
      have n1 := hA.out.parent (k := q) (by omega)
      have n3 := hA.out.status (k := q) (by omega)
      have f0 := Blk.frozen hA.out (q * 4)
      have f3 := Blk.frozen hA.out (q * 4 + 3)
      obtain ⟨v, hv⟩ : ∃ v, v = bits BinOp.and .i64 st 255 := ⟨_, rfl⟩
      have A2 := hA.out.set1 (k := q) (j := 0) (v := .int .i64 2) (x := { L q with state := 2 }) (by omega) (by omega) rfl (fun i hi hne => by
        unfold peV
        obtain rfl | rfl | rfl : i = 1 ∨ i = 2 ∨ i = 3 := by omega
        all_goals rfl)
      rw [Nat.add_zero] at A2
      have A3 := A2.set1 (k := q) (j := 3) (v := .int .i64 v) (x := { L q with state := 2, status := v }) (by omega) (by omega) rfl (fun i hi hne => by
        unfold updF
        rw [if_pos rfl]
        unfold peV
        obtain rfl | rfl | rfl : i = 0 ∨ i = 1 ∨ i = 2 := by omega
        all_goals rfl)
      have e3 : updF (updF L q { L q with state := 2 }) q { L q with state := 2, status := v } = updF L q { L q with state := 2, status := v } := by
        funext k
        unfold updF
        split <;> rfl
      rw [e3] at A3
      have C3 := (hC.out.setCell (p := ⟨p, q * 4, none⟩) (.inl (show One p p from rfl)) (.int .i64 2)).setCell (p := ⟨p, q * 4 + 3, none⟩) (.inl (show One p p from rfl)) (.int .i64 v)
      have m1 := A3.parent (k := q) (by omega)
      have m2 : ((wr.setCell ⟨p, q * 4, none⟩ (.int .i64 2)).setCell ⟨p, q * 4 + 3, none⟩ (.int .i64 v)).cell? ⟨p, q * 4 + 1, none⟩ = some (.int .i64 (L q).parent) := by
        rw [m1]
        unfold updF
        rw [if_pos rfl]
      replace A3 := hid A3
      replace C3 := hid C3
      replace hL := hid hL
      replace hv := hid hv
      clear A2 e3 m1
      go_upto_region 12 with fail
      go_cut [48] (fun _ wx => wx = World.drew ((wr.setCell ⟨p, q * 4, none⟩ (.int .i64 2)).setCell ⟨p, q * 4 + 3, none⟩ (.int .i64 v)))
      case first =>
        go_region
        go_wp2
        go_meet
        rw [hv.out]
      case rest =>
        have m3 : wc.cell? ⟨p, q * 4 + 1, none⟩ = some (.int .i64 (L q).parent) := by rw [hcut]; exact m2
        have A4 := hid (Blk.drew A3.out)
        have C4 := hid (C3.out.drew)
        rw [← hcut] at A4 C4
        replace hcut := hid hcut
        clear m2 n0 n1 n3 f0 f3
        go_wp2
        go_ret2
        rw [← hL.out, ← hv.out]
        exact ⟨rfl, A4.out, C4.out⟩
end Go.Proofs.YtjllklddjkkddaaGreatDoor
