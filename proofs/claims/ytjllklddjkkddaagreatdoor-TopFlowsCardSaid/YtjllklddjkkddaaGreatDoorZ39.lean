/- The kernel: a process begins. Conditions: the first one forks, the second one begins. -/
import Derived.Test.YtjllklddjkkddaaGreatDoorZ38
import Derived.Test.YtjllklddjkkddaaGreatDoorZ36
import Derived.Deep.CutBlock
namespace Go.Proofs.YtjllklddjkkddaaGreatDoor
open Go.ChangeShapes Go.WideShapes Go.ChangeAt Go.RowKit
set_option linter.unusedVariables false
/-- A task's cells, written out. -/
def tkL : List Value := [.int .i64 0, .int .u32 0, .int .u32 0, .int .u32 0, .int .u32 0, .int .u32 0, .int .u32 0, .int .u32 0, .int .u32 0, .int .u32 0, .int .i64 0, .int .i64 0, .int .i64 0, .slice none 0 0, .int .i64 0, .int .i64 0, .int .i64 0, .slice none 0 0, .slice none 0 0, .int .i64 0, .int .i64 0, .int .i64 0, .int .i64 0, .int .i64 0, .int .i64 0, .int .i64 0, .int .i64 0, .int .i64 0, .int .i64 0, .int .i64 0, .int .i64 0, .int .i64 0, .int .i64 0, .int .i64 0, .int .i64 0, .int .i64 0, .int .i64 0, .bool false]
theorem one_iteF {c : Prop} [Decidable c] {a b : Value} (ha : a.oneCell' = true) (hb : b.oneCell' = true) : (if c then a else b).oneCell' = true := by
  split
  · exact ha
  · exact hb
theorem tkL_tab : tkL = tab 38 tkZ := by rfl
theorem KnAt.task {w : World} {p : Nat} {hd : Nat → Value} {ts : Nat → Nat → Value} (h : KnAt w p hd ts) {q : Nat} (hq : q < 17) : (Instr.loadAt 65 (.pointer (some ⟨p, 8 + q * 38, none⟩))).run Tryz.prog w = .ok (.agg (tab 38 (ts q)).toArray) w := by
  have L1 := load_part (P := Tryz.prog) (ty := 65) (lo := 8 + q * 38) (n := 38) h (by rw [tab_len]; omega) Tryz.underlying65 rfl (by kernel_rfl)
  rwa [tab_part (by omega), tab_ext (g := ts q) (fun i hi => knV_ts _ _ hq hi)] at L1
/-- Nothing is appended to nothing. -/
theorem app_none (w : World) (t e ty : TypeId) (s bytes : Nat) (T : ETy Tryz.prog t e s bytes) (a b : Option Addr) (d : Nat) (hd : d ≤ maxLen) : (Builtin.append_ #[t, t] ty #[.slice a 0 0, .slice b 0 d]).run Tryz.prog w = .ok (.slice a 0 0) w := by
  obtain ⟨i, z, hi, hz, hsz, hby, hzs⟩ := T.info
  exact run_append_nothing w t t ty e i T.under hi a 0 0 (Nat.le_refl _) _ (by rw [hsz]; exact (Rd.of_none w Nil s b d hd).src T.under (fun _ h => by cases h))
theorem eIntK : ETy Tryz.prog 23 3 1 8 := ⟨Tryz.underlying23, info_of (z := .int .i64 0) (by kernel_rfl) rfl, by decide⟩
theorem eMntK : ETy Tryz.prog 60 289 2 16 := ⟨Tryz.underlying60, info_of (z := .agg #[.int .i64 0, .int .i64 0]) (by kernel_rfl) rfl, by decide⟩
/-- What a fork makes of the kernel. -/
def fkX (X : KX) (ts : Nat → Nat → Value) : KX :=
  { X with n := X.n + 1, sp := updF X.sp 2 true, pl := updF X.pl 2 ⟨1, 1, (X.pl 1).group, 0⟩, fl := forkF X.fl (X.fd 1) 8, fd := rowD X.fd 2 (X.fd 1), run := (X.run.doAdd 2 1 10).1, ts := ts }
set_option maxRecDepth 100000 in
set_option maxHeartbeats 4000000 in
theorem kfork_ok (w : World) (B : Nat) (U : Nat → Prop) (pk : Nat) (X : KX) (h : KAt w B U pk X) (hcw : X.cw = true) (hs1 : (X.pl 1).state = 1) (hs2 : (X.pl 2).state = 0) (hn : X.n ≤ 1000) (sp1 : X.sp 1 = true) (sp2 : X.sp 2 = false) (fd0 : ∀ d, d < 8 → X.fd 2 d = 0) (hr : ∀ d, d < 8 → X.fd 1 d ≤ 32)
    (M : Int) (hok : SOk M X.run) (hM : M ≤ 1000000) (hl : X.run.ts.length < 1000) (ht : TsA X.ts 1 1) (hN : TsN X.ts 1) :
    Calls Tryz.prog 95 #[.pointer (some ⟨pk, 0, none⟩), .int .i64 1] w fun e w' => ∃ ts, e = .returned (.agg (anC 0 2 0 (.slice none 0 0)).toArray) ∧ KPost w B U pk (fkX X ts) w' ∧ TsA ts 2 2 ∧ ∀ q, q ≠ 2 → ts q = X.ts q := by
  have hlt := h.lt
  have C0 : Chg Nil w (w.alloc (.cells anZ.toArray 33)) := (Chg.refl Nil w).alloc _
  have BC := Blk.new w 33 anZ
  obtain ⟨V0, hV0⟩ : ∃ V0, V0 = w.alloc (.cells anZ.toArray 33) := ⟨_, rfl⟩
  rw [← hV0] at C0 BC
  have h0 := h.nil C0
  obtain ⟨pm, pf, pp, pr, pw, po, pc, pq, FM, FP, FR, FW, hy, hU⟩ := h0
  have L1 := hy.kn.task (q := 1) (by omega)
  have BT := Blk.new V0 65 tkL
  obtain ⟨S1, S2⟩ := store_blk (P := Tryz.prog) (ty := 65) BT (vs := tab 38 (X.ts 1)) (by rw [tab_len]; rfl) (by rw [tab_len]; kernel_rfl) (tab_one (fun i hi => ht.one i hi))
  have S3 := setCells_chg (V0.alloc (.cells tkL.toArray 65)) V0.heap.size 0 (tab 38 (X.ts 1)) (One V0.heap.size) rfl
  have C1 := (((Chg.refl Nil V0).alloc (.cells tkL.toArray 65)).one (.inr (Nat.le_refl _)) S3)
  obtain ⟨W1, hW1⟩ : ∃ W1, W1 = (V0.alloc (.cells tkL.toArray 65)).setCells V0.heap.size 0 (tab 38 (X.ts 1)) := ⟨_, rfl⟩
  rw [← hW1] at S1 S2 C1
  have HK1 := (h.nil C0).nil C1
  have e0 : W1.cell? ⟨V0.heap.size, 0, none⟩ = some (.int .i64 1) := by rw [S2.tabCell (i := 0) (by omega), ht.sp]
  have hb1 : w.heap.size = V0.heap.size - 1 ∧ w.heap.size < V0.heap.size := by rw [hV0]; simp
  have C01 := C0.trans C1 (fun _ _ h => h)
  have BC1 := hid (BC.chg C1 (fun h => h))
  have hbT : Hid (¬ U V0.heap.size) := hid (fun hh => by have := hlt _ hh; omega)
  have hbC : Hid (¬ U w.heap.size) := hid (fun hh => by have := hlt _ hh; omega)
  have hbt : V0.heap.size = w.heap.size + 1 := by rw [hV0]; simp
  rw [hbt] at S1 S2 e0 hbT
  have hbT2 : w.heap.size + 1 < W1.heap.size := S2.lt
  obtain ⟨pm1, k1, lk1, HF⟩ := HK1.sfork hn 2 (by omega) (by omega) sp2 (fun j h1 h2 => by
    obtain rfl : j = 1 := by omega
    exact sp1) 1 (by omega) sp1
  replace HF := hid (HF W1.drew (Chg.refl Nil W1).drew)
  rw [hV0] at L1 S1
  replace C01 := hid C01
  replace HK1 := hid HK1
  replace S2 := hid S2
  replace hW1 := hid hW1
  replace hV0 := hid hV0
  replace hbt := hid hbt
  replace hcw := hid hcw
  replace hs1 := hid hs1
  replace hs2 := hid hs2
  replace fd0 := hid fd0
  replace hr := hid hr
  replace hok := hid hok
  replace ht := hid ht
  replace hN := hid hN
  replace hlt := hid hlt
  clear h hy hU BT S3 C1 C0 BC hb1 sp1 sp2
  go_enter Tryz.func95, Tryz.ntmps95
  go_upto_region 2 with (first | (refine wpList_load_run L1 (by rfl) (by rfl) (by rfl) ?_) | (refine wpList_store_run S1 (by rfl) (by rfl) (by rfl) (by rfl) ?_))
  clear L1 S1
  go_simp
  go_cut [6, 7] (fun s6 s7 wx => s6 = .int .i64 2 ∧ s7 = .int .i64 0 ∧ Hid (KPost W1.drew B U pk { X with n := X.n + 1, sp := updF X.sp 2 true } wx))
  case first =>
    go_region_law
      (go_simp; go_at_call 176; refine HF.out.mono ?_; rintro e w2 ⟨rfl, kp2⟩; replace kp2 := hid kp2)
    all_goals
      go_wp2
      go_meet
      exact ⟨rfl, rfl, kp2⟩
  case rest =>
    obtain ⟨rfl, rfl, kp2⟩ := hcut
    generalize wc = w2 at kp2 ⊢
    clear e0 k1 HF
    obtain ⟨U2, h2, c2, g2⟩ := kp2.out.pre (Chg.refl Nil W1).drew
    clear kp2
    obtain ⟨p7, k7, lk, HP⟩ := h2.pfork 1 (by omega) (by omega) hs1.out 2 (by omega) (by omega) hs2.out (fun j j1 j2 => by
      obtain rfl : j = 1 := by omega
      rw [hs1.out]
      decide)
    replace HP := hid (HP w2 (Chg.refl Nil w2))
    replace c2 := hid c2
    replace g2 := hid g2
    clear h2 lk
    go_wp2_with fail
    refine HP.out.mono ?_
    rintro e w3 ⟨rfl, kp3⟩
    clear k7 HP
    obtain ⟨U3, h3, c3, g3⟩ := KPost.trans (X := X) c2.out g2.out kp3
    clear kp3 c2 g2
    obtain ⟨p6, k6, lk, HO⟩ := h3.ffork 1 2 (by omega) (by omega) (by omega) (by omega) (by omega) fd0.out hr.out
    replace HO := hid (HO w3 (Chg.refl Nil w3))
    replace c3 := hid c3
    replace g3 := hid g3
    clear h3 lk
    go_wp2_with fail
    refine HO.out.mono ?_
    rintro e w4 ⟨rfl, kp4⟩
    clear k6 HO
    obtain ⟨U4, h4, c4, g4⟩ := KPost.trans (X := X) c3.out g3.out kp4
    clear kp4 c3 g3
    have B4 := S2.out.chg c4 hbT.out
    have A4 := BC1.out.chg c4 hbC.out
    have hs4 := c4.size
    have e0 : w4.cell? ⟨w.heap.size + 1, 0, none⟩ = some (X.ts 1 0) := B4.tabCell (i := 0) (by omega)
    have f0 := B4.frozen 0
    have B5 := B4.tabSet (i := 0) (by omega) (.int .i64 2)
    have hU4 : ∀ k, w.heap.size ≤ k → k < W1.heap.size → ¬ U4 k := fun k k1 k2 hh => by
      rcases g4 k hh with h5 | h5
      · have := hlt.out k h5; omega
      · omega
    have D5 : Chg (One (w.heap.size + 1)) w4 (w4.setCell ⟨w.heap.size + 1, 0, none⟩ (.int .i64 2)) := (Chg.refl _ w4).setCell (p := ⟨w.heap.size + 1, 0, none⟩) (.inl (show One (w.heap.size + 1) (w.heap.size + 1) from rfl)) _
    have h5 := h4.chg D5 (fun k hk hh => hU4 k (by rw [show k = w.heap.size + 1 from hh]; omega) (by rw [show k = w.heap.size + 1 from hh]; exact hbT2) hk)
    have A5 := A4.chg D5 (fun hh => by have : w.heap.size = w.heap.size + 1 := hh; omega)
    replace c4 := hid c4
    replace g4 := hid g4
    replace hU4 := hid hU4
    replace h5 := hid h5
    replace A5 := hid A5
    replace B5 := hid B5
    replace D5 := hid D5
    have H4 := hid h4
    have A44 := hid A4
    clear h4 B4 A4
    go_upto_region 11 with fail
    clear e0 f0
    obtain ⟨r5, hr5⟩ : ∃ r5 : Nat → Value, r5 = fun j => if j = 0 then .int .i64 2 else X.ts 1 j := ⟨_, rfl⟩
    rw [← hr5] at B5
    generalize hW5 : w4.setCell ⟨w.heap.size + 1, 0, none⟩ (.int .i64 2) = W5 at h5 A5 B5 D5 ⊢
    replace hW5 := hid hW5
    have q13 : r5 13 = .slice none 0 0 := by rw [hr5]; exact hN.out.more
    have E13 := (B5.out.alloc (.cells #[] 3)).tabCell (i := 13) (by omega)
    have F13 := (B5.out.alloc (.cells #[] 3)).frozen 13
    rw [q13] at E13
    have hap := fun (w : World) (a : Option Addr) (ty : TypeId) => app_none w 23 3 ty 1 8 eIntK a none 0 (Nat.zero_le _)
    replace hr5 := hid hr5
    clear q13
    go_upto_region 12 with fail
    obtain ⟨pq, hq17, Bq⟩ : ∃ pq, X.ts 1 17 = .slice (some ⟨pq, 0, none⟩) 1 1 ∧ Blk W5 pq 3 [.int .i64 1] := by
      obtain ⟨pm, pf, pp, pr, pw, po, pc, pq, FM, FP, FR, FW, hy, _⟩ := h5.out
      exact ⟨pq, hy.cd hcw.out, hy.cw hcw.out⟩
    have B6 := (B5.out.alloc (.cells #[] 3)).tabSet (i := 13) (by omega) (.slice (some ⟨W5.heap.size, 0, none⟩) 0 0)
    have D6 : Chg (One (w.heap.size + 1)) W5 ((W5.alloc (.cells #[] 3)).setCell ⟨w.heap.size + 1, 13, none⟩ (.slice (some ⟨W5.heap.size, 0, none⟩) 0 0)) := ((Chg.refl _ W5).alloc _).setCell (p := ⟨w.heap.size + 1, 13, none⟩) (.inl (show One (w.heap.size + 1) (w.heap.size + 1) from rfl)) _
    obtain ⟨r6, hr6⟩ : ∃ r6 : Nat → Value, r6 = fun j => if j = 13 then .slice (some ⟨W5.heap.size, 0, none⟩) 0 0 else r5 j := ⟨_, rfl⟩
    rw [← hr6] at B6
    have hqT : pq ≠ w.heap.size + 1 := fun hh => by
      rw [hh] at Bq
      exact absurd (Blk.ne Bq B5.out (by decide)) (fun h => h rfl)
    generalize hW6 : (W5.alloc (.cells #[] 3)).setCell ⟨w.heap.size + 1, 13, none⟩ (.slice (some ⟨W5.heap.size, 0, none⟩) 0 0) = W6 at B6 D6 ⊢
    have Bq6 := Bq.chg D6 (fun hh => hqT hh)
    have q17 : r6 17 = .slice (some ⟨pq, 0, none⟩) 1 1 := by
      rw [hr6]
      show r5 17 = _
      rw [hr5.out]
      exact hq17
    have E17 := (B6.alloc (.cells #[] 3)).tabCell (i := 17) (by omega)
    rw [q17] at E17
    have HN := hid (Rd.of_blk (n := 1) (s := 1) (Bq6.alloc (.cells #[] 3)) rfl (by unfold maxLen; omega))
    have D56 := hid (D5.out.trans D6 (fun _ _ h => h))
    replace hW6 := hid hW6
    replace hr6 := hid hr6
    replace B6 := hid B6
    clear E13 F13 Bq Bq6 q17 D6
    go_upto_region 13 with (at_builtin; refine wpList_append_sl rfl _ _ eIntK rfl rfl rfl (Sl.empty _ _ _ _) HN.out (fun u hu => by simp at hu; subst hu; rfl) (by omega) (by omega) ?_; intro a7 c7 w8 G7 y1 y2 y3; have CE8 := y2.mono (G := Nil) (fun _ _ h => by cases h); have B8 := (B6.out.alloc (.cells #[] 3)).chg CE8 (fun h => h); have E17' := B8.tabCell (i := 17) (by omega); have F17 := B8.frozen 17; replace B8 := hid B8; replace CE8 := hid CE8; clear y1 y2 y3 E17)
    clear E17' F17 hap
    have B9 := B8.out.tabSet (i := 17) (by omega) (.slice a7 1 c7)
    have D9 : Chg (One (w.heap.size + 1)) w8 (w8.setCell ⟨w.heap.size + 1, 17, none⟩ (.slice a7 1 c7)) := (Chg.refl _ w8).setCell (p := ⟨w.heap.size + 1, 17, none⟩) (.inl (show One (w.heap.size + 1) (w.heap.size + 1) from rfl)) _
    obtain ⟨r9, hr9⟩ : ∃ r9 : Nat → Value, r9 = fun j => if j = 17 then .slice a7 1 c7 else r6 j := ⟨_, rfl⟩
    rw [← hr9] at B9
    generalize hW9 : w8.setCell ⟨w.heap.size + 1, 17, none⟩ (.slice a7 1 c7) = W9 at B9 D9 ⊢
    have D69 := hid (((D56.out.alloc (.cells #[] 3)).trans (CE8.out.mono (G := One (w.heap.size + 1)) (fun _ _ h => h.elim)) (fun _ _ h => h)).trans D9 (fun _ _ h => h))
    have q18 : r9 18 = .slice none 0 0 := by
      rw [hr9]
      show r6 18 = _
      rw [hr6.out]
      show r5 18 = _
      rw [hr5.out]
      exact hN.out.mt
    have E18 := B9.tabCell (i := 18) (by omega)
    have F18 := B9.frozen 18
    rw [q18] at E18
    have hap := fun (w : World) (a : Option Addr) (ty : TypeId) => app_none w 60 289 ty 2 16 eMntK a none 0 (Nat.zero_le _)
    replace hr9 := hid hr9
    replace hW9 := hid hW9
    replace B9 := hid B9
    clear B8 D9 D56 CE8 HN q18
    go_cut [69] (fun s wx => Hid (wx = (W9.setCell ⟨w.heap.size + 1, 18, none⟩ (.slice none 0 0)).drew))
    case first =>
      go_region_law (fail)
      all_goals
        go_wp2
        go_meet
        exact rfl
    case rest =>
      have hw := hcut.out
      subst hw
      clear hcut E18 F18 hap
      have B10 := B9.out.tabSet (i := 18) (by omega) (.slice none 0 0)
      have D10 : Chg (One (w.heap.size + 1)) W9 (W9.setCell ⟨w.heap.size + 1, 18, none⟩ (.slice none 0 0)).drew := ((Chg.refl _ W9).setCell (p := ⟨w.heap.size + 1, 18, none⟩) (.inl (show One (w.heap.size + 1) (w.heap.size + 1) from rfl)) _).drew
      obtain ⟨r10, hr10⟩ : ∃ r10 : Nat → Value, r10 = fun j => if j = 18 then .slice none 0 0 else r9 j := ⟨_, rfl⟩
      rw [← hr10] at B10
      replace B10 := Blk.drew B10
      generalize hW10 : (W9.setCell ⟨w.heap.size + 1, 18, none⟩ (.slice none 0 0)).drew = W10 at B10 D10 ⊢
      have D610 := hid (D69.out.trans D10 (fun _ _ h => h))
      replace hW10 := hid hW10
      have sg10 : ∀ j, j < 18 → r10 (19 + j) = .int .i64 0 := fun j hj => by
        rw [hr10]
        show (if 19 + j = 18 then _ else r9 (19 + j)) = _
        rw [if_neg (by omega), hr9.out]
        show (if 19 + j = 17 then _ else r6 (19 + j)) = _
        rw [if_neg (by omega), hr6.out]
        show (if 19 + j = 13 then _ else r5 (19 + j)) = _
        rw [if_neg (by omega), hr5.out]
        show (if 19 + j = 0 then _ else X.ts 1 (19 + j)) = _
        rw [if_neg (by omega)]
        exact ht.out.sg j hj
      have LS := load_part (P := Tryz.prog) (ty := 63) (lo := 19) (n := 18) B10 (by rw [tab_len]; omega) Tryz.underlying63 rfl (by kernel_rfl)
      rw [tab_part (by omega), tab_ext (g := fun _ => .int .i64 0) sg10, show (tab 18 fun _ => .int .i64 0) = sgZ from rfl] at LS
      replace hr10 := hid hr10
      replace sg10 := hid sg10
      replace B10 := hid B10
      clear D10 B9 D69
      go_upto_region 14 with fail
      go_wp2_with (refine wpList_load_run LS (by rfl) (by rfl) (by rfl) ?_)
      refine (sgchild_0 _).mono ?_
      rintro e w11 ⟨rfl, c11⟩
      have B11 := B10.out.chg c11 (fun h => h)
      obtain ⟨Q1, _, Q3⟩ := store_part (P := Tryz.prog) (ty := 63) (lo := 19) (vs := sgZ) B11 (by rw [tab_len, sgZ_len]; omega) (by kernel_rfl) sgZ_one
      have B12 : Blk (w11.setCells (w.heap.size + 1) 19 sgZ) (w.heap.size + 1) 65 (tab 38 r10) := by
        have R := Blk.cells (lo := 19) (vs := tab 18 (fun _ => .int .i64 0)) B11 (by rw [tab_len, tab_len]; omega)
        rw [tab_over (by omega)] at R
        refine Blk.tabEq R (fun i hi => ?_)
        split
        · rename_i hh
          rw [show i = 19 + (i - 19) by omega]
          exact (sg10.out (i - 19) (by omega)).symm
        · rfl
      obtain ⟨W12, hW12⟩ : ∃ W12, W12 = w11.setCells (w.heap.size + 1) 19 sgZ := ⟨_, rfl⟩
      rw [← hW12] at Q1 Q3 B12
      have D612 := (D610.out.trans (c11.mono (G := One (w.heap.size + 1)) (fun _ _ h => h.elim)) (fun _ _ h => h)).trans Q3 (fun _ _ h => h)
      have E1 := B12.tabCell (i := 1) (by omega)
      have E2 := B12.tabCell (i := 2) (by omega)
      have E3 := B12.tabCell (i := 3) (by omega)
      have F1 := B12.frozen 1
      have F2 := B12.frozen 2
      have F3 := B12.frozen 3
      have B13 := ((B12.tabSet (i := 1) (by omega) (.int .u32 0)).tabSet (i := 2) (by omega) (.int .u32 0)).tabSet (i := 3) (by omega) (.int .u32 0)
      have D13 : Chg (One (w.heap.size + 1)) W12 (((W12.setCell ⟨w.heap.size + 1, 1, none⟩ (.int .u32 0)).setCell ⟨w.heap.size + 1, 2, none⟩ (.int .u32 0)).setCell ⟨w.heap.size + 1, 3, none⟩ (.int .u32 0)) := (((Chg.refl _ W12).setCell (p := ⟨w.heap.size + 1, 1, none⟩) (.inl (show One (w.heap.size + 1) (w.heap.size + 1) from rfl)) _).setCell (p := ⟨w.heap.size + 1, 2, none⟩) (.inl (show One (w.heap.size + 1) (w.heap.size + 1) from rfl)) _).setCell (p := ⟨w.heap.size + 1, 3, none⟩) (.inl (show One (w.heap.size + 1) (w.heap.size + 1) from rfl)) _
      obtain ⟨r13, hr13⟩ : ∃ r13 : Nat → Value, r13 = fun j => if j = 3 then .int .u32 0 else if j = 2 then .int .u32 0 else if j = 1 then .int .u32 0 else r10 j := ⟨_, rfl⟩
      rw [← hr13] at B13
      replace hW12 := hid hW12
      replace hr13 := hid hr13
      replace B13 := hid B13
      replace D13 := hid D13
      replace D612 := hid D612
      clear B11 c11 Q3 LS B12
      go_upto_region 15 with (refine wpList_store_run Q1 (by rfl) (by rfl) (by rfl) (by rfl) ?_)
      go_upto_region 16 with fail
      clear E1 E2 E3 F1 F2 F3 Q1
      generalize hW13 : ((W12.setCell ⟨w.heap.size + 1, 1, none⟩ (.int .u32 0)).setCell ⟨w.heap.size + 1, 2, none⟩ (.int .u32 0)).setCell ⟨w.heap.size + 1, 3, none⟩ (.int .u32 0) = W13 at B13 D13 ⊢
      replace hW13 := hid hW13
      have D613 := D612.out.trans D13.out (fun _ _ h => h)
      have H13 := H4.out.chg D613.drew (fun k hk hh => hU4.out k (by rw [show k = w.heap.size + 1 from hh]; omega) (by rw [show k = w.heap.size + 1 from hh]; exact hbT2) hk)
      have A13 := hid (A44.out.chg D613.drew (fun hh => by have : w.heap.size = w.heap.size + 1 := hh; omega))
      have LT := load_blk (P := Tryz.prog) (ty := 65) B13.out.drew Tryz.underlying65 rfl (by rw [tab_len]; kernel_rfl)
      have one13 : ∀ i, i < 38 → (r13 i).oneCell' = true := fun i hi => by
        rw [hr13.out]
        refine one_iteF rfl (one_iteF rfl (one_iteF rfl ?_))
        rw [hr10.out]
        refine one_iteF rfl ?_
        rw [hr9.out]
        refine one_iteF rfl ?_
        rw [hr6.out]
        refine one_iteF rfl ?_
        rw [hr5.out]
        exact one_iteF rfl (ht.out.one i hi)
      obtain ⟨pm6, pf6, pp6, pr6, pw6, po6, pc6, pq6, FM6, FP6, FR6, FW6, hy, hU6⟩ := H13
      obtain ⟨Q1, _, Q3⟩ := store_part (P := Tryz.prog) (ty := 65) (lo := 8 + 2 * 38) (vs := tab 38 r13) hy.kn (by rw [tab_len, tab_len]; omega) (by rw [tab_len]; kernel_rfl) (tab_one one13)
      have HK2 := KnAt.setP hy.kn (q := 2) (lo := 0) (n := 38) (by omega) (by omega) r13
      obtain ⟨W14, hW14⟩ : ∃ W14, W14 = W13.drew.setCells pk (8 + 2 * 38) (tab 38 r13) := ⟨_, rfl⟩
      rw [Nat.add_zero] at HK2
      rw [← hW14] at Q1 Q3 HK2
      have K14 := hy.postKn HK2 Q3 (fun _ => by
        show updP X.ts 2 0 38 r13 1 17 = X.ts 1 17
        unfold updP
        rw [if_neg (by omega)])
      rw [← hU6] at K14
      have hbU4 : ¬ U4 w.heap.size := hU4.out _ (Nat.le_refl _) (by omega)
      have A14 := hid (A13.out.chg (KPost.ch K14) hbU4)
      replace K14 := hid K14
      replace hW14 := hid hW14
      replace one13 := hid one13
      replace D613 := hid D613
      clear hy Q3 HK2
      refine wp_region_any (by kernel_rfl) ?_
      try (change wpAny _ _ _ _ _ _ _ (World.drew _))
      refine wpAny_take (i := 0) (v := .pointer (some ⟨pk, 0, none⟩)) rfl (by kernel_rfl) (by kernel_rfl) (by kernel_rfl) (fun _ _ _ h => h) (Or.inl ⟨by rfl, by (intro w; go_simp)⟩) ?_
      refine wpAny_take (i := 1) (v := .int .i64 2) rfl (by kernel_rfl) (by kernel_rfl) (by kernel_rfl) (fun _ _ _ h => h) (Or.inl ⟨by rfl, by (intro w; go_simp)⟩) ?_
      refine wpAny_take (i := 3) (v := .pointer (some ⟨pk, 0, none⟩)) rfl (by kernel_rfl) (by kernel_rfl) (by kernel_rfl) (fun _ _ _ h => h) (Or.inl ⟨by rfl, by (intro w; go_simp)⟩) ?_
      refine wpAny_take (i := 4) (v := .pointer (some ⟨pk, 8, none⟩)) rfl (by kernel_rfl) (by kernel_rfl) (by kernel_rfl) (fun _ _ _ h => h) (Or.inl ⟨by rfl, by (intro w; go_simp)⟩) ?_
      refine wpAny_ready (rs := [2]) (by kernel_rfl) (by simp) ?_
      refine AllReady.cons (o := { dst := some 94, op := Op.load 65 (Operand.tmp 5), type := 65, pos := "ask.go:137", after := #[], guard := none }) rfl (fun K hK => ?_) AllReady.nil
      refine step_load_run LT (by simp [Region.wanted]) (by rfl) (by rfl) ?_
      refine hK _ _ ?_
      clear hK K
      refine wpAny_ready (rs := [5]) (by kernel_rfl) (by simp) ?_
      refine AllReady.cons (o := { dst := some 97, op := Op.indexAddr 72 (Operand.tmp 96) (Operand.tmp 93), type := 0, pos := "ask.go:137", after := #[{ on := 4, ground := Ground.data }, { on := 1, ground := Ground.data }, { on := 0, ground := Ground.phase }, { on := 1, ground := Ground.phase }, { on := 2, ground := Ground.phase }], guard := none }) rfl (fun K hK => ?_) AllReady.nil
      go_simp
      refine hK _ _ ?_
      clear hK K
      refine wpAny_ready (rs := [6]) (by kernel_rfl) (by simp) ?_
      refine AllReady.cons (o := { dst := none, op := Op.store 65 (Operand.tmp 97) (Operand.tmp 94), type := 0, pos := "ask.go:137", after := #[{ on := 5, ground := Ground.data }, { on := 2, ground := Ground.data }, { on := 0, ground := Ground.phase }, { on := 1, ground := Ground.phase }, { on := 2, ground := Ground.phase }], guard := none }) rfl (fun K hK => ?_) AllReady.nil
      refine step_store_run Q1 (by simp [Region.wanted]) (by rfl) (by rfl) (by rfl) ?_
      refine hK _ _ ?_
      clear hK K
      refine wpAny_done (by kernel_rfl) ?_ _
      clear LT Q1
      obtain ⟨U14, h14, c14, g14⟩ := K14.out
      have hs13 := D613.out.size
      have hbU14 : ¬ U14 w.heap.size := fun hh => by
        rcases g14 _ hh with h1 | h1
        · exact hbU4 h1
        · have : W13.drew.heap.size = W13.heap.size := rfl
          omega
      have g04 : Grew w.heap.size U U4 := fun k hk => by
        rcases g4.out k hk with h1 | h1
        · exact .inl h1
        · exact .inr (by omega)
      have c13 : Chg U w W13.drew := (((C01.out.mono (fun _ _ h => h.elim)).trans c4.out (fun _ _ h => h)).one (g := w.heap.size + 1) (.inr (by omega)) D613.out).drew
      have c014 : Chg U w W14 := c13.trans c14 (fun k hk hh => by
        rcases g04 k hh with h1 | h1
        · exact h1
        · omega)
      have g014 : Grew w.heap.size U U14 := g04.trans g14 c13.size
      clear K14 c14 g14 g04 c13
      obtain ⟨pr, k4, lk, HL⟩ := h14.radd M hok.out hM hl 2 (by omega) (by omega)
      replace HL := hid (HL W14 (Chg.refl Nil W14))
      replace c014 := hid c014
      replace g014 := hid g014
      clear h14 lk
      go_wp2_with fail
      refine HL.out.mono ?_
      rintro e w15 ⟨rfl, kp15⟩
      have A15 := A14.out.chg (KPost.ch kp15) hbU14
      have hW14s := A14.out.lt
      obtain ⟨U15, h15, c15, g15⟩ := kp15
      have hbU15 : ¬ U15 w.heap.size := fun hh => by
        rcases g15 _ hh with h1 | h1
        · exact hbU14 h1
        · omega
      have c015 : Chg U w w15 := c014.out.trans c15 (fun k hk hh => by
        rcases g014.out k hh with h1 | h1
        · exact h1
        · omega)
      have g015 : Grew w.heap.size U U15 := g014.out.trans g15 c014.out.size
      obtain ⟨W, S1, S2, S3⟩ := an_store A15 (vs := anC 0 2 0 (.slice none 0 0)) rfl rfl (anC_one _ _ _ _ rfl)
      have kw : Hid (KPost w B U pk (fkX X (updP X.ts 2 0 38 r13)) W) := hid ⟨U15, h15.chg S3 (fun k hk hh => hbU15 (by rw [← show k = w.heap.size from hh]; exact hk)), c015.one (.inr (Nat.le_refl _)) S3, g015⟩
      have he : ∀ j, j < 38 → updP X.ts 2 0 38 r13 2 j = r13 j := fun j hj => by
        unfold updP
        rw [if_pos ⟨rfl, by omega, by omega⟩, Nat.sub_zero]
      have hT : Hid (TsA (updP X.ts 2 0 38 r13) 2 2) := hid (by
        refine ⟨?_, fun j hj => ?_, ?_, fun j hj => ?_⟩
        · rw [he 0 (by omega), hr13.out]
          show r10 0 = _
          rw [hr10.out]
          show r9 0 = _
          rw [hr9.out]
          show r6 0 = _
          rw [hr6.out]
          show r5 0 = _
          rw [hr5.out]
          rfl
        · rw [he _ (by omega), hr13.out]
          show (if 19 + j = 3 then _ else if 19 + j = 2 then _ else if 19 + j = 1 then _ else r10 (19 + j)) = _
          rw [if_neg (by omega), if_neg (by omega), if_neg (by omega)]
          exact sg10.out j hj
        · rw [he 37 (by omega), hr13.out]
          show r10 37 = _
          rw [hr10.out]
          show r9 37 = _
          rw [hr9.out]
          show r6 37 = _
          rw [hr6.out]
          show r5 37 = _
          rw [hr5.out]
          exact ht.out.aw
        · rw [he j hj]
          exact one13.out j hj)
      have hO : Hid (∀ q, q ≠ 2 → updP X.ts 2 0 38 r13 q = X.ts q) := hid (fun q hq => by
        funext j
        unfold updP
        rw [if_neg (by omega)])
      replace S2 := hid S2
      clear S3 A15 h15 c15 g15 c015 g015 he k4 HL
      go_wp2_with (refine wpList_store_run S1 (by rfl) (by rfl) (by rfl) (by rfl) ?_)
      refine bodyPost_ret (an_ret rfl S2.out rfl rfl) rfl ?_
      exact ⟨_, rfl, kw.out, hT.out, hO.out⟩
end Go.Proofs.YtjllklddjkkddaaGreatDoor
