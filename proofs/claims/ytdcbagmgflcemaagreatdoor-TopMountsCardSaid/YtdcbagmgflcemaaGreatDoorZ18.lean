/- Contracts of package proc: Wait, where a child has ended. Conditions: processes from 1 to 16 · Contracts of package sig where nothing waits, nothing is kept back, and nothing was asked. Conditions: just that · The contract of edge.Catch, where what it calls does not panic. Conditions: just that · Package open: Seek. Conditions: an open descriptor; a place in a file. -/
import Derived.Test.YtdcbagmgflcemaaGreatDoorZ17
import Derived.Defers
import Derived.Recover
namespace Go.Proofs.YtdcbagmgflcemaaGreatDoor
open Go.ChangeShapes Go.WideShapes Go.ChangeAt Go.RowKit
set_option linter.unusedVariables false
end Go.Proofs.YtdcbagmgflcemaaGreatDoor
namespace Go.Proofs.YtdcbagmgflcemaaGreatDoor
open Go.ChangeShapes Go.WideShapes Go.ChangeAt Go.RowKit
set_option linter.unusedVariables false
/-- No signals. -/
def sgZ : List Value := List.replicate 18 (.int .i64 0)
theorem sgZ_one : ∀ u ∈ sgZ, u.oneCell' = true := by
  intro u hu
  rw [List.eq_of_mem_replicate hu]
  rfl
theorem sgZ_len : sgZ.length = 18 := rfl
set_option maxRecDepth 100000 in
set_option maxHeartbeats 1000000 in
theorem sgcheck_0 (w : World) : Calls Tryz.prog 143 #[.agg sgZ.toArray] w fun e w' => e = .returned (.int .i64 0) ∧ Chg Nil w w' := by
  have B0 := Blk.new w 59 sgZ
  have L1 := load_part (P := Tryz.prog) (ty := 57) (lo := 2) (n := 16) B0 (by rw [sgZ_len]; omega) Tryz.underlying57 rfl (by kernel_rfl)
  rw [show part_ sgZ 2 16 = tab 16 (fun _ => .int .i64 0) from rfl] at L1
  have k0 := B0.cell 0
  have k1 := B0.cell 1
  have k11 := B0.cell 11
  rw [show sgZ[0]? = some (.int .i64 0) from rfl] at k0
  rw [show sgZ[1]? = some (.int .i64 0) from rfl] at k1
  rw [show sgZ[11]? = some (.int .i64 0) from rfl] at k11
  have o1 : bits BinOp.andNot IntKind.i64 0 65534 = 0 := by kernel_rfl
  have C0 := hid ((Chg.refl Nil w).alloc (.cells sgZ.toArray 59))
  clear B0
  go_enter Tryz.func143, Tryz.ntmps143
  go_wp2_with (refine wpList_load_run L1 (by rfl) (by rfl) (by rfl) ?_)
  clear L1
  go_loop [17] (fun i => ∃ j : Nat, j ≤ 16 ∧ i = .int .i64 j) (fun i => 16 - (intOf i).toNat)
  case atStart => exact ⟨0, by omega, rfl⟩
  case round =>
    obtain ⟨j, hj, rfl⟩ := hrel
    by_cases hlt : j < 16
    · have hix := fun w => index_arr (P := Tryz.prog) (t := 57) (n := 16) w Tryz.underlying57 (by kernel_rfl) (fun w => Tryz.isAgg3 w) hlt (tab_get (n := 16) (fun _ => .int .i64 0) hlt)
      go_wp2
      all_goals go_round
      case rel => exact ⟨1, by omega, rfl⟩
      case measure => simp [intOf]; omega
      case rel => exact ⟨j + 1, by omega, by go_num⟩
      case measure => simp [intOf]; omega
    · have j16 : 16 ≤ j := by omega
      have o2 : bits BinOp.and IntKind.i64 0 1 = 0 := by kernel_rfl
      go_wp2
      go_ret
      exact ⟨rfl, C0.out⟩
theorem sg_load {w : World} {g : Nat} (h : Blk w g 59 sgZ) : (Instr.loadAt 59 (.pointer (some ⟨g, 0, none⟩))).run Tryz.prog w = .ok (.agg sgZ.toArray) w := load_blk h Tryz.underlying59 rfl (by kernel_rfl)
theorem sg_store {w : World} {g : Nat} (h : Blk w g 59 sgZ) : (Instr.storeAt 59 (.pointer (some ⟨g, 0, none⟩)) (.agg sgZ.toArray)).run Tryz.prog w = .ok () (w.setCells g 0 sgZ) ∧ Blk (w.setCells g 0 sgZ) g 59 sgZ := store_blk h rfl (by kernel_rfl) sgZ_one
set_option maxRecDepth 100000 in
set_option maxHeartbeats 1000000 in
theorem sgnext_0 (w : World) : Calls Tryz.prog 70 #[.agg sgZ.toArray] w fun e w' => e = .returned (.tuple #[.int .i64 0, .int .i64 4]) ∧ Chg Nil w w' := by
  have B0 := Blk.new w 59 sgZ
  have L0 := sg_load B0
  have C0 := hid ((Chg.refl Nil w).alloc (.cells sgZ.toArray 59))
  replace B0 := hid B0
  have o1 : bits BinOp.andNot IntKind.i64 0 0 = 0 := by kernel_rfl
  have o2 : bits BinOp.and IntKind.i64 0 1 = 0 := by kernel_rfl
  go_enter Tryz.func70, Tryz.ntmps70
  go_wp2_with (refine wpList_load_run L0 (by rfl) (by rfl) (by rfl) ?_)
  refine (sgcheck_0 _).mono ?_
  rintro e w2 ⟨rfl, c2⟩
  have B2 := B0.out.chg c2 (fun h => h)
  have k0 := B2.cell 0
  have k1 := B2.cell 1
  rw [show sgZ[0]? = some (.int .i64 0) from rfl] at k0
  rw [show sgZ[1]? = some (.int .i64 0) from rfl] at k1
  have C2 := hid (C0.out.trans c2 (fun _ _ h => h))
  clear L0 B2 c2
  go_wp2
  go_loop [6] (fun i => ∃ j : Nat, 1 ≤ j ∧ j ≤ 16 ∧ i = .int .i64 j) (fun i => 16 - (intOf i).toNat)
  case atStart => exact ⟨1, by omega, by omega, rfl⟩
  case round =>
    obtain ⟨j, hj1, hj, rfl⟩ := hrel
    by_cases hlt : j ≤ 15
    · go_wp2
      go_round
      case rel => exact ⟨j + 1, by omega, by omega, by go_num⟩
      case measure => simp [intOf]; omega
    · go_wp2
      go_ret2
      exact ⟨rfl, C2.out⟩
theorem results_blk4 {P : Program} {fn : Func} {p u v x : Tmp} {ty t : TypeId} (h : fn.results = #[.cell p ty, .tmp u, .tmp v, .tmp x]) {tmps : Array Value} {w : World} {g : Nat} {cs : List Value} {d : TypeDesc} (hb : Blk w g t cs)
    (hp : tmps.getD p undef = .pointer (some ⟨g, 0, none⟩)) (hu : P.underlying ty = some d) (hd : d.isRow = true) (hi : (P.info? ty).map (·.size) = some cs.length) :
    (results fn tmps).run P w = .ok (.tuple #[.agg cs.toArray, tmps.getD u undef, tmps.getD v undef, tmps.getD x undef]) w := by
  have := run_loadVar_mid (P := P) w g 0 ty cs d (fun j v hv => by rw [Nat.zero_add, hb.cell, hv]) hu hd hi
  have e : (results fn tmps).run P w = ((asAddr (tmps.getD p undef)).run P w).andThen fun a w1 => ((loadVar ty a).run P w1).andThen fun y w2 => .ok (.tuple #[y, tmps.getD u undef, tmps.getD v undef, tmps.getD x undef]) w2 := by
    simp only [results, h]
    simp [Sem.run_bind, Result.andThen]
  rw [e, hp]
  simp [asAddr, Result.andThen, this]
set_option maxRecDepth 100000 in
set_option maxHeartbeats 1000000 in
theorem sgtake_0 (w : World) : Calls Tryz.prog 36 #[.agg sgZ.toArray] w fun e w' => e = .returned (.tuple #[.agg sgZ.toArray, .int .i64 0, .int .i64 0, .int .i64 4]) ∧ Chg Nil w w' := by
  have B0 := (Blk.new w 59 sgZ).alloc (.cells sgZ.toArray 59)
  have B1 := Blk.new (w.alloc (.cells sgZ.toArray 59)) 59 sgZ
  rw [show (w.alloc (.cells sgZ.toArray 59)).heap.size = w.heap.size + 1 by simp] at B1
  have L0 := sg_load B0
  have C0 := hid (((Chg.refl Nil w).alloc (.cells sgZ.toArray 59)).alloc (.cells sgZ.toArray 59))
  replace B1 := hid B1
  clear B0
  go_enter Tryz.func36, Tryz.ntmps36
  go_wp2_with (refine wpList_load_run L0 (by rfl) (by rfl) (by rfl) ?_)
  refine (sgnext_0 _).mono ?_
  rintro e w2 ⟨rfl, c2⟩
  obtain ⟨S1, S2⟩ := sg_store (B1.out.chg c2 (fun h => h))
  have C2 := hid ((C0.out.trans c2 (fun _ _ h => h)).one (g := w.heap.size + 1) (.inr (by omega)) (setCells_chg w2 (w.heap.size + 1) 0 sgZ _ rfl))
  clear L0 c2
  go_wp2_with (refine wpList_store_run S1 (by rfl) (by rfl) (by rfl) (by rfl) ?_)
  refine bodyPost_ret (results_blk4 rfl S2 rfl Tryz.underlying59 rfl (by kernel_rfl)) rfl ?_
  exact ⟨rfl, C2.out⟩
end Go.Proofs.YtdcbagmgflcemaaGreatDoor
namespace Go.Proofs.YtdcbagmgflcemaaGreatDoor
open Go.ChangeShapes Go.WideShapes Go.ChangeAt Go.RowKit
set_option linter.unusedVariables false
theorem catch_idle (p : Addr) (w : World) :
    CallsD Tryz.prog 38 #[.pointer (some p)] .returning w fun e u' w' => e = .returned (.tuple #[]) ∧ u' = .returning ∧ w' = w := by
  refine callsD_of_wpS Tryz.func38 rfl fun c₀ cs hu => ?_
  apply wpS_seq
  apply wpS_region
  simp [wpOpsS, go_sem, recoverD, hu, Tryz.ntmps38, Exit.thenS]
  apply wpS_seq
  apply wpS_region
  simp [wpOpsS, go_sem, recoverD, hu, Exit.thenS]
  refine wpS_cond (t := false) (by simp [Act.eval]) ?_
  simp only [Bool.false_eq_true, if_false]
  refine wpS_of_wp (wp_skip ?_)
  cases c₀
  simp_all [bodyPostS, results, Tryz.results38]
/-- No answer. -/
def anZ : List Value := [.int .i64 0, .int .i64 0, .int .i64 0, .slice none 0 0, .slice none 0 0, .int .i64 0, .int .i64 0, .int .i64 0, .int .i64 0, .int .i64 0, .int .i64 0]
set_option maxRecDepth 100000 in
set_option maxHeartbeats 1000000 in
theorem catch_ok (w : World) (caps : Array Value) (Q : List Value → World → Prop)
    (HC : ∀ w1, Chg Nil w w1 → w.heap.size < w1.heap.size → Blk w1 w.heap.size 33 anZ → Calls Tryz.prog 17 caps w1 fun e w' => ∃ cs, e = .returned (.agg cs.toArray) ∧ cs.length = 11 ∧ (∀ u ∈ cs, u.oneCell' = true) ∧ Q cs w' ∧ (w1.heap.size ≤ w'.heap.size ∧ Blk w' w.heap.size 33 anZ)) 
    (hQ : ∀ cs w1 w2, Q cs w1 → Chg (One w.heap.size) w1 w2 → Q cs w2) :
    Calls Tryz.prog 16 #[.func (.func 17) #[] caps] w fun e w' => ∃ cs, e = .returned (.agg cs.toArray) ∧ cs.length = 11 ∧ Q cs w' := by
  have hmf : ∀ (fn : Fn) (first cap : Array Value) (w : World), (Instr.makeFunc fn first cap).run Tryz.prog w = .ok (.func fn first cap) w := fun _ _ _ _ => rfl
  have H1 := hid (HC (w.alloc (.cells anZ.toArray 33)) ((Chg.refl Nil w).alloc _) (by simp) (Blk.new w _ anZ))
  have HQ := hid hQ
  clear HC hQ
  go_enter_defers Tryz.func16, Tryz.ntmps16
  go_wp2_with fail
  refine H1.out.mono ?_
  rintro e w2 ⟨cs, rfl, hl, h1, q2, hs, B2⟩
  obtain ⟨S1, S2⟩ := store_blk (P := Tryz.prog) (ty := 33) B2 (vs := cs) (by rw [hl]; rfl) (by rw [hl]; kernel_rfl) h1
  have Q2 := HQ.out cs w2 _ q2 (setCells_chg w2 w.heap.size 0 cs _ rfl)
  replace S2 := hid S2
  replace Q2 := hid Q2
  clear H1 B2 q2
  go_wp2_with (refine wpList_store_run S1 (by rfl) (by rfl) (by rfl) (by rfl) ?_)
  refine leaves_cons (f := 38) (args := #[.pointer (some ⟨w.heap.size, 0, none⟩)]) (by simp) (by simp [go_sem]) ?_
  refine (catch_idle ⟨w.heap.size, 0, none⟩ _).mono ?_
  rintro e u' w3 ⟨rfl, rfl, rfl⟩
  have hr := results_blk (P := Tryz.prog) (fn := Tryz.f16) (p := 2) (ty := 33) rfl S2.out (tmps := #[.func (.func 17) #[] caps, undef, .pointer (some ⟨w.heap.size, 0, none⟩), .func (.func 38) #[] #[.pointer (some ⟨w.heap.size, 0, none⟩)], .func (.func 17) #[] caps, .agg cs.toArray]) rfl Tryz.underlying33 rfl (by rw [hl]; kernel_rfl)
  exact ⟨_, hr, cs, rfl, hl, Q2.out⟩
end Go.Proofs.YtdcbagmgflcemaaGreatDoor
namespace Go.Proofs.YtdcbagmgflcemaaGreatDoor
open Go.ChangeShapes Go.WideShapes Go.ChangeAt Go.RowKit
set_option linter.unusedVariables false
theorem OpAt.setAt {w : World} {p : Nat} {fl : Nat → Fl} {fd : Nat → Nat → Nat} (h : OpAt w p fl fd) {k : Nat} (hk : k < 32) (v : Int) : OpAt (w.setCell ⟨p, k * 6 + 4, none⟩ (.int .i64 v)) p (updF fl k { fl k with at_ := v }) fd := by
  refine Blk.tabEq (Blk.tabSet h (i := k * 6 + 4) (by omega) (.int .i64 v)) (fun i hi => ?_)
  by_cases he : i = k * 6 + 4
  · subst he
    rw [if_pos rfl, opV_fl _ _ hk (by omega)]
    unfold updF
    rw [if_pos rfl]
    rfl
  · rw [if_neg he]
    unfold opV
    by_cases h1 : i < 192
    · rw [if_pos h1, if_pos h1]
      unfold updF
      by_cases h2 : i / 6 = k
      · rw [if_pos h2, h2]
        have : i % 6 ≠ 4 := by omega
        have : i % 6 < 6 := by omega
        generalize i % 6 = j at *
        unfold flV
        obtain rfl | rfl | rfl | rfl | rfl : j = 0 ∨ j = 1 ∨ j = 2 ∨ j = 3 ∨ j = 5 := by omega
        all_goals rfl
      · rw [if_neg h2]
    · rw [if_neg h1, if_neg h1]
set_option maxRecDepth 100000 in
set_option maxHeartbeats 1000000 in
theorem opseek_ok (w : World) (p : Nat) (fl : Nat → Fl) (fd : Nat → Nat → Nat) (h : OpAt w p fl fd) (q : Nat) (hq1 : 1 ≤ q) (hq : q ≤ 16) (d : Nat) (hd : d < 8) (k : Nat) (hk : k < 32) (hf : fd q d = k + 1) (v : Int) (v0 : 0 ≤ v) (v1 : v ≤ 512) :
    Calls Tryz.prog 85 #[.pointer (some ⟨p, 0, none⟩), .int .i64 (q : Int), .int .i64 (d : Int), .int .i64 v] w fun e w' => e = .returned (.int .i64 0) ∧ OpAt w' p (updF fl k { fl k with at_ := v }) fd ∧ Chg (One p) w w' := by
  have HFI := hid (opfind_ok w p fl fd h q hq1 hq d hd k hk hf)
  have H := hid h
  have i1 : ¬ (v < 0) := by omega
  have i2 : ¬ (v > 512) := by omega
  clear h hf
  go_enter Tryz.func85, Tryz.ntmps85
  go_wp2_with fail
  refine HFI.out.mono ?_
  rintro e w1 ⟨rfl, n, rfl⟩
  have H1 : OpAt (w.drewN n) p fl fd := H.out
  have k4 : (w.drewN n).cell? ⟨p, k * 6 + 4, none⟩ = some (.int .i64 (fl k).at_) := by
    rw [Blk.tabCell H1 (by omega), opV_fl _ _ hk (by omega)]
    rfl
  have f4 : (w.drewN n).frozen? ⟨p, k * 6 + 4, none⟩ = false := Blk.frozen H1 _
  have S1 := hid (H1.setAt hk v)
  have C1 := hid (((Chg.refl (One p) w).drewN n).setCell (p := ⟨p, k * 6 + 4, none⟩) (.inl rfl) (.int .i64 v))
  clear H1
  go_wp2
  go_ret
  exact ⟨rfl, S1.out, C1.out⟩
end Go.Proofs.YtdcbagmgflcemaaGreatDoor
