/- Contracts of package proc: Wait, where a child has ended. Conditions: processes from 1 to 16 · Contracts of package sig where nothing waits, nothing is kept back, and nothing was asked. Conditions: just that · The contract of edge.Catch, where what it calls does not panic. Conditions: just that. -/
import Derived.Test.YtjllklddjkkddaaGreatDoorZ21
import Derived.Test.YtjllklddjkkddaaGreatDoorZ20
import Derived.Defers
import Derived.Recover
namespace Go.Proofs.YtjllklddjkkddaaGreatDoor
open Go.ChangeShapes Go.WideShapes Go.ChangeAt Go.RowKit
set_option linter.unusedVariables false
set_option maxRecDepth 100000 in
set_option maxHeartbeats 2000000 in
theorem prwait_ok (w : World) (p : Nat) (l : Nat → Pe) (h : PrAt w p l) (q : Nat) (h1 : 1 ≤ q) (h2 : q ≤ 16) (hs : (l q).state = 1) (k : Nat) (hk : k < 17) (k1 : (l k).state = 2) (k2 : (l k).parent = q) (hb : ∀ j, j < k → ¬ ((l j).state = 2 ∧ (l j).parent = q)) :
    Calls Tryz.prog 97 #[.pointer (some ⟨p, 0, none⟩), .int .i64 (q : Int)] w fun e w' => e = .returned (.tuple #[.int .i64 (k : Int), .int .i64 (l k).status, .int .i64 0]) ∧ PrAt w' p (updF l k peZ) ∧ Chg (One p) w w' := by
  have HL := hid (prliving_ok w p l h q (by omega) h2 hs)
  have H := hid h
  have K1 := hid k1
  have K2 := hid k2
  have HB := hid hb
  clear h hs k1 k2 hb
  go_enter Tryz.func97, Tryz.ntmps97
  go_wp2_with (go_at_call 144; refine HL.out.mono ?_; rintro e w' ⟨rfl, rfl⟩)
  go_loop [8, 17] (fun s8 i => ∃ (j : Nat) (b : Bool), j ≤ k ∧ s8 = .bool b ∧ i = .int .i64 j) (fun _ i => 20 - (intOf i).toNat)
  case atStart => exact ⟨0, false, by omega, rfl, rfl⟩
  case round =>
    obtain ⟨j, b, hj, rfl, rfl⟩ := hrel
    have j17 : j < 17 := by omega
    have n1 := H.out.state j17
    have n2 := H.out.parent j17
    by_cases hlt : j < k
    · have hx := HB.out j hlt
      obtain ⟨s, hs⟩ : ∃ s, s = (l j).state := ⟨_, rfl⟩
      obtain ⟨u, hu⟩ : ∃ u, u = (l j).parent := ⟨_, rfl⟩
      rw [← hs] at n1 hx
      rw [← hu] at n2 hx
      clear hs hu
      by_cases hs0 : s = 0
      · subst hs0
        clear hx
        go_wp2
        go_round
        case rel => exact ⟨j + 1, b, by omega, rfl, by go_num⟩
        case measure => simp [intOf]; omega
      · have b1 : (s == 0) = false := by rw [beq_eq_false_iff_ne]; exact hs0
        by_cases hu0 : u = q
        · have b2 : (u != (q : Int)) = false := by rw [bne_eq_false_iff_eq]; exact hu0
          have b3 : (s == 2) = false := by rw [beq_eq_false_iff_ne]; exact fun hh => hx ⟨hh, hu0⟩
          clear hx hs0 hu0
          go_wp2
          go_round
          case rel => exact ⟨j + 1, true, by omega, rfl, by go_num⟩
          case measure => simp [intOf]; omega
        · have b2 : (u != (q : Int)) = true := by rw [bne_iff_ne]; exact hu0
          clear hx hs0 hu0
          go_wp2
          go_round
          case rel => exact ⟨j + 1, b, by omega, rfl, by go_num⟩
          case measure => simp [intOf]; omega
    · have hjk : j = k := by omega
      have e1 := K1.out
      have e2 := K2.out
      subst hjk
      rw [e1] at n1
      rw [e2] at n2
      have n3 := H.out.status j17
      have n4 := H.out.group j17
      have f0 := Blk.frozen H.out (j * 4)
      have f1 := Blk.frozen H.out (j * 4 + 1)
      have f2 := Blk.frozen H.out (j * 4 + 2)
      have f3 := Blk.frozen H.out (j * 4 + 3)
      obtain ⟨x, hx⟩ : ∃ x, x = (l j).status := ⟨_, rfl⟩
      rw [← hx] at n3
      have S := hid (H.out.set4 j17 0 0 0 0)
      replace hx := hid hx
      clear e1 e2
      go_wp2
      go_ret3
      rw [← hx.out]
      exact ⟨rfl, S.out.1, S.out.2⟩
end Go.Proofs.YtjllklddjkkddaaGreatDoor
namespace Go.Proofs.YtjllklddjkkddaaGreatDoor
open Go.ChangeShapes Go.WideShapes Go.ChangeAt Go.RowKit
set_option linter.unusedVariables false
/-- No signals. -/
def sgZ : List Value := List.replicate 18 (.int .i64 0)
theorem sgZ_one : ∀ u ∈ sgZ, u.oneCell' = true := by
  intro u hu
  rw [List.eq_of_mem_replicate hu]
  rfl
theorem sgZ_len : sgZ.length = 18 := rfl
set_option maxRecDepth 100000 in
set_option maxHeartbeats 1000000 in
theorem sgcheck_0 (w : World) : Calls Tryz.prog 143 #[.agg sgZ.toArray] w fun e w' => e = .returned (.int .i64 0) ∧ Chg Nil w w' := by
  have B0 := Blk.new w 63 sgZ
  have L1 := load_part (P := Tryz.prog) (ty := 61) (lo := 2) (n := 16) B0 (by rw [sgZ_len]; omega) Tryz.underlying61 rfl (by kernel_rfl)
  rw [show part_ sgZ 2 16 = tab 16 (fun _ => .int .i64 0) from rfl] at L1
  have k0 := B0.cell 0
  have k1 := B0.cell 1
  have k11 := B0.cell 11
  rw [show sgZ[0]? = some (.int .i64 0) from rfl] at k0
  rw [show sgZ[1]? = some (.int .i64 0) from rfl] at k1
  rw [show sgZ[11]? = some (.int .i64 0) from rfl] at k11
  have o1 : bits BinOp.andNot IntKind.i64 0 65534 = 0 := by kernel_rfl
  have C0 := hid ((Chg.refl Nil w).alloc (.cells sgZ.toArray 63))
  clear B0
  go_enter Tryz.func143, Tryz.ntmps143
  go_wp2_with (refine wpList_load_run L1 (by rfl) (by rfl) (by rfl) ?_)
  clear L1
  go_loop [17] (fun i => ∃ j : Nat, j ≤ 16 ∧ i = .int .i64 j) (fun i => 16 - (intOf i).toNat)
  case atStart => exact ⟨0, by omega, rfl⟩
  case round =>
    obtain ⟨j, hj, rfl⟩ := hrel
    by_cases hlt : j < 16
    · have hix := fun w => index_arr (P := Tryz.prog) (t := 61) (n := 16) w Tryz.underlying61 (by kernel_rfl) (fun w => Tryz.isAgg3 w) hlt (tab_get (n := 16) (fun _ => .int .i64 0) hlt)
      go_wp2
      all_goals go_round
      case rel => exact ⟨1, by omega, rfl⟩
      case measure => simp [intOf]; omega
      case rel => exact ⟨j + 1, by omega, by go_num⟩
      case measure => simp [intOf]; omega
    · have j16 : 16 ≤ j := by omega
      have o2 : bits BinOp.and IntKind.i64 0 1 = 0 := by kernel_rfl
      go_wp2
      go_ret
      exact ⟨rfl, C0.out⟩
theorem sg_load {w : World} {g : Nat} (h : Blk w g 63 sgZ) : (Instr.loadAt 63 (.pointer (some ⟨g, 0, none⟩))).run Tryz.prog w = .ok (.agg sgZ.toArray) w := load_blk h Tryz.underlying63 rfl (by kernel_rfl)
theorem sg_store {w : World} {g : Nat} (h : Blk w g 63 sgZ) : (Instr.storeAt 63 (.pointer (some ⟨g, 0, none⟩)) (.agg sgZ.toArray)).run Tryz.prog w = .ok () (w.setCells g 0 sgZ) ∧ Blk (w.setCells g 0 sgZ) g 63 sgZ := store_blk h rfl (by kernel_rfl) sgZ_one
theorem sgnumber_ok (w : World) (q : Nat) (h1 : 1 ≤ q) (h2 : q ≤ 15) : Calls Tryz.prog 182 #[.int .i64 (q : Int)] w fun e w' => e = .returned (.bool true) ∧ w = w' := by
  have i1 : (1 : Int) ≤ (q : Int) := by omega
  have i2 : (q : Int) ≤ 15 := by omega
  go_enter Tryz.func182, Tryz.ntmps182
  go_wp2
  go_ret
  exact ⟨rfl, rfl⟩
set_option maxRecDepth 100000 in
set_option maxHeartbeats 1000000 in
theorem sgnext_0 (w : World) : Calls Tryz.prog 70 #[.agg sgZ.toArray] w fun e w' => e = .returned (.tuple #[.int .i64 0, .int .i64 4]) ∧ Chg Nil w w' := by
  have B0 := Blk.new w 63 sgZ
  have L0 := sg_load B0
  have C0 := hid ((Chg.refl Nil w).alloc (.cells sgZ.toArray 63))
  replace B0 := hid B0
  have o1 : bits BinOp.andNot IntKind.i64 0 0 = 0 := by kernel_rfl
  have o2 : bits BinOp.and IntKind.i64 0 1 = 0 := by kernel_rfl
  go_enter Tryz.func70, Tryz.ntmps70
  go_wp2_with (refine wpList_load_run L0 (by rfl) (by rfl) (by rfl) ?_)
  refine (sgcheck_0 _).mono ?_
  rintro e w2 ⟨rfl, c2⟩
  have B2 := B0.out.chg c2 (fun h => h)
  have k0 := B2.cell 0
  have k1 := B2.cell 1
  rw [show sgZ[0]? = some (.int .i64 0) from rfl] at k0
  rw [show sgZ[1]? = some (.int .i64 0) from rfl] at k1
  have C2 := hid (C0.out.trans c2 (fun _ _ h => h))
  clear L0 B2 c2
  go_wp2
  go_loop [6] (fun i => ∃ j : Nat, 1 ≤ j ∧ j ≤ 16 ∧ i = .int .i64 j) (fun i => 16 - (intOf i).toNat)
  case atStart => exact ⟨1, by omega, by omega, rfl⟩
  case round =>
    obtain ⟨j, hj1, hj, rfl⟩ := hrel
    by_cases hlt : j ≤ 15
    · go_wp2
      go_round
      case rel => exact ⟨j + 1, by omega, by omega, by go_num⟩
      case measure => simp [intOf]; omega
    · go_wp2
      go_ret2
      exact ⟨rfl, C2.out⟩
theorem results_blk4 {P : Program} {fn : Func} {p u v x : Tmp} {ty t : TypeId} (h : fn.results = #[.cell p ty, .tmp u, .tmp v, .tmp x]) {tmps : Array Value} {w : World} {g : Nat} {cs : List Value} {d : TypeDesc} (hb : Blk w g t cs)
    (hp : tmps.getD p undef = .pointer (some ⟨g, 0, none⟩)) (hu : P.underlying ty = some d) (hd : d.isRow = true) (hi : (P.info? ty).map (·.size) = some cs.length) :
    (results fn tmps).run P w = .ok (.tuple #[.agg cs.toArray, tmps.getD u undef, tmps.getD v undef, tmps.getD x undef]) w := by
  have := run_loadVar_mid (P := P) w g 0 ty cs d (fun j v hv => by rw [Nat.zero_add, hb.cell, hv]) hu hd hi
  have e : (results fn tmps).run P w = ((asAddr (tmps.getD p undef)).run P w).andThen fun a w1 => ((loadVar ty a).run P w1).andThen fun y w2 => .ok (.tuple #[y, tmps.getD u undef, tmps.getD v undef, tmps.getD x undef]) w2 := by
    simp only [results, h]
    simp [Sem.run_bind, Result.andThen]
  rw [e, hp]
  simp [asAddr, Result.andThen, this]
set_option maxRecDepth 100000 in
set_option maxHeartbeats 1000000 in
theorem sgtake_0 (w : World) : Calls Tryz.prog 36 #[.agg sgZ.toArray] w fun e w' => e = .returned (.tuple #[.agg sgZ.toArray, .int .i64 0, .int .i64 0, .int .i64 4]) ∧ Chg Nil w w' := by
  have B0 := (Blk.new w 63 sgZ).alloc (.cells sgZ.toArray 63)
  have B1 := Blk.new (w.alloc (.cells sgZ.toArray 63)) 63 sgZ
  rw [show (w.alloc (.cells sgZ.toArray 63)).heap.size = w.heap.size + 1 by simp] at B1
  have L0 := sg_load B0
  have C0 := hid (((Chg.refl Nil w).alloc (.cells sgZ.toArray 63)).alloc (.cells sgZ.toArray 63))
  replace B1 := hid B1
  clear B0
  go_enter Tryz.func36, Tryz.ntmps36
  go_wp2_with (refine wpList_load_run L0 (by rfl) (by rfl) (by rfl) ?_)
  refine (sgnext_0 _).mono ?_
  rintro e w2 ⟨rfl, c2⟩
  obtain ⟨S1, S2⟩ := sg_store (B1.out.chg c2 (fun h => h))
  have C2 := hid ((C0.out.trans c2 (fun _ _ h => h)).one (g := w.heap.size + 1) (.inr (by omega)) (setCells_chg w2 (w.heap.size + 1) 0 sgZ _ rfl))
  clear L0 c2
  go_wp2_with (refine wpList_store_run S1 (by rfl) (by rfl) (by rfl) (by rfl) ?_)
  refine bodyPost_ret (results_blk4 rfl S2 rfl Tryz.underlying63 rfl (by kernel_rfl)) rfl ?_
  exact ⟨rfl, C2.out⟩
set_option maxRecDepth 100000 in
set_option maxHeartbeats 1000000 in
theorem sgsend_7 (w : World) : Calls Tryz.prog 151 #[.agg sgZ.toArray, .int .i64 7] w fun e w' => e = .returned (.tuple #[.agg sgZ.toArray, .int .i64 0]) ∧ Chg Nil w w' := by
  have B0 := (Blk.new w 63 sgZ).alloc (.cells sgZ.toArray 63)
  have B1 := Blk.new (w.alloc (.cells sgZ.toArray 63)) 63 sgZ
  rw [show (w.alloc (.cells sgZ.toArray 63)).heap.size = w.heap.size + 1 by simp] at B1
  have L0 := sg_load B0
  have C0 := hid (((Chg.refl Nil w).alloc (.cells sgZ.toArray 63)).alloc (.cells sgZ.toArray 63))
  replace B1 := hid B1
  replace B0 := hid B0
  have HN := hid (fun w => sgnumber_ok w 7 (by omega) (by omega))
  go_enter Tryz.func151, Tryz.ntmps151
  go_wp2_with (refine wpList_load_run L0 (by rfl) (by rfl) (by rfl) ?_)
  refine (sgcheck_0 _).mono ?_
  rintro e w2 ⟨rfl, c2⟩
  have B2 := B0.out.chg c2 (fun h => h)
  have L2 := sg_load B2
  have k9 := B2.cell 9
  rw [show sgZ[9]? = some (.int .i64 0) from rfl] at k9
  obtain ⟨S1, S2⟩ := sg_store (B1.out.chg c2 (fun h => h))
  have C2 := hid ((C0.out.trans c2 (fun _ _ h => h)).one (g := w.heap.size + 1) (.inr (by omega)) (setCells_chg w2 (w.heap.size + 1) 0 sgZ _ rfl))
  clear L0 c2 B2
  go_wp2_with (first | (go_at_call 182; refine (HN.out _).mono ?_; rintro e w' ⟨rfl, rfl⟩) | (refine wpList_load_run L2 (by rfl) (by rfl) (by rfl) ?_) | (refine wpList_store_run S1 (by rfl) (by rfl) (by rfl) (by rfl) ?_))
  refine bodyPost_ret (results_blk2 rfl S2 rfl Tryz.underlying63 rfl (by kernel_rfl)) rfl ?_
  exact ⟨rfl, C2.out⟩
set_option maxRecDepth 100000 in
set_option maxHeartbeats 1000000 in
theorem sgchild_0 (w : World) : Calls Tryz.prog 179 #[.agg sgZ.toArray, .bool false] w fun e w' => e = .returned (.tuple #[.agg sgZ.toArray, .int .i64 0]) ∧ Chg Nil w w' := by
  have B0 := (Blk.new w 63 sgZ).alloc (.cells sgZ.toArray 63)
  have B1 := Blk.new (w.alloc (.cells sgZ.toArray 63)) 63 sgZ
  rw [show (w.alloc (.cells sgZ.toArray 63)).heap.size = w.heap.size + 1 by simp] at B1
  have L0 := sg_load B0
  have C0 := hid (((Chg.refl Nil w).alloc (.cells sgZ.toArray 63)).alloc (.cells sgZ.toArray 63))
  replace B1 := hid B1
  replace B0 := hid B0
  go_enter Tryz.func179, Tryz.ntmps179
  go_wp2_with (refine wpList_load_run L0 (by rfl) (by rfl) (by rfl) ?_)
  refine (sgcheck_0 _).mono ?_
  rintro e w2 ⟨rfl, c2⟩
  have B2 := B0.out.chg c2 (fun h => h)
  have k0 := B2.cell 0
  have f0 := B2.frozen 0
  rw [show sgZ[0]? = some (.int .i64 0) from rfl] at k0
  have B3 := B2.set 0 (.int .i64 0)
  rw [show sgZ.set 0 (.int .i64 0) = sgZ from rfl] at B3
  have L2 := sg_load B3
  obtain ⟨S1, S2⟩ := sg_store ((B1.out.chg c2 (fun h => h)).far (p := ⟨w.heap.size, 0, none⟩) (by show w.heap.size + 1 ≠ w.heap.size; omega) (.int .i64 0))
  have C2 := hid (((C0.out.trans c2 (fun _ _ h => h)).setCell (p := ⟨w.heap.size, 0, none⟩) (.inr (Nat.le_refl _)) (.int .i64 0)).one (g := w.heap.size + 1) (.inr (by omega)) (setCells_chg _ (w.heap.size + 1) 0 sgZ _ rfl))
  clear L0 c2 B2 B3
  go_wp2_with (first | (refine wpList_load_run L2 (by rfl) (by rfl) (by rfl) ?_) | (refine wpList_store_run S1 (by rfl) (by rfl) (by rfl) (by rfl) ?_))
  refine bodyPost_ret (results_blk2 rfl S2 rfl Tryz.underlying63 rfl (by kernel_rfl)) rfl ?_
  exact ⟨rfl, C2.out⟩
end Go.Proofs.YtjllklddjkkddaaGreatDoor
namespace Go.Proofs.YtjllklddjkkddaaGreatDoor
open Go.ChangeShapes Go.WideShapes Go.ChangeAt Go.RowKit
set_option linter.unusedVariables false
theorem catch_idle (p : Addr) (w : World) :
    CallsD Tryz.prog 38 #[.pointer (some p)] .returning w fun e u' w' => e = .returned (.tuple #[]) ∧ u' = .returning ∧ w' = w := by
  refine callsD_of_wpS Tryz.func38 rfl fun c₀ cs hu => ?_
  apply wpS_seq
  apply wpS_region
  simp [wpOpsS, go_sem, recoverD, hu, Tryz.ntmps38, Exit.thenS]
  apply wpS_seq
  apply wpS_region
  simp [wpOpsS, go_sem, recoverD, hu, Exit.thenS]
  refine wpS_cond (t := false) (by simp [Act.eval]) ?_
  simp only [Bool.false_eq_true, if_false]
  refine wpS_of_wp (wp_skip ?_)
  cases c₀
  simp_all [bodyPostS, results, Tryz.results38]
/-- No answer. -/
def anZ : List Value := [.int .i64 0, .int .i64 0, .int .i64 0, .slice none 0 0, .slice none 0 0, .int .i64 0, .int .i64 0, .int .i64 0, .int .i64 0, .int .i64 0, .int .i64 0]
set_option maxRecDepth 100000 in
set_option maxHeartbeats 1000000 in
theorem catch_ok (w : World) (caps : Array Value) (Q : List Value → World → Prop)
    (HC : ∀ w1, Chg Nil w w1 → w.heap.size < w1.heap.size → Blk w1 w.heap.size 33 anZ → Calls Tryz.prog 17 caps w1 fun e w' => ∃ cs, e = .returned (.agg cs.toArray) ∧ cs.length = 11 ∧ (∀ u ∈ cs, u.oneCell' = true) ∧ Q cs w' ∧ (w1.heap.size ≤ w'.heap.size ∧ Blk w' w.heap.size 33 anZ)) 
    (hQ : ∀ cs w1 w2, Q cs w1 → Chg (One w.heap.size) w1 w2 → Q cs w2) :
    Calls Tryz.prog 16 #[.func (.func 17) #[] caps] w fun e w' => ∃ cs, e = .returned (.agg cs.toArray) ∧ cs.length = 11 ∧ Q cs w' := by
  have hmf : ∀ (fn : Fn) (first cap : Array Value) (w : World), (Instr.makeFunc fn first cap).run Tryz.prog w = .ok (.func fn first cap) w := fun _ _ _ _ => rfl
  have H1 := hid (HC (w.alloc (.cells anZ.toArray 33)) ((Chg.refl Nil w).alloc _) (by simp) (Blk.new w _ anZ))
  have HQ := hid hQ
  clear HC hQ
  go_enter_defers Tryz.func16, Tryz.ntmps16
  go_wp2_with fail
  refine H1.out.mono ?_
  rintro e w2 ⟨cs, rfl, hl, h1, q2, hs, B2⟩
  obtain ⟨S1, S2⟩ := store_blk (P := Tryz.prog) (ty := 33) B2 (vs := cs) (by rw [hl]; rfl) (by rw [hl]; kernel_rfl) h1
  have Q2 := HQ.out cs w2 _ q2 (setCells_chg w2 w.heap.size 0 cs _ rfl)
  replace S2 := hid S2
  replace Q2 := hid Q2
  clear H1 B2 q2
  go_wp2_with (refine wpList_store_run S1 (by rfl) (by rfl) (by rfl) (by rfl) ?_)
  refine leaves_cons (f := 38) (args := #[.pointer (some ⟨w.heap.size, 0, none⟩)]) (by simp) (by simp [go_sem]) ?_
  refine (catch_idle ⟨w.heap.size, 0, none⟩ _).mono ?_
  rintro e u' w3 ⟨rfl, rfl, rfl⟩
  have hr := results_blk (P := Tryz.prog) (fn := Tryz.f16) (p := 2) (ty := 33) rfl S2.out (tmps := #[.func (.func 17) #[] caps, undef, .pointer (some ⟨w.heap.size, 0, none⟩), .func (.func 38) #[] #[.pointer (some ⟨w.heap.size, 0, none⟩)], .func (.func 17) #[] caps, .agg cs.toArray]) rfl Tryz.underlying33 rfl (by rw [hl]; kernel_rfl)
  exact ⟨_, hr, cs, rfl, hl, Q2.out⟩
end Go.Proofs.YtjllklddjkkddaaGreatDoor
