/- Package fs: a sector that nobody has; one that may be written. Conditions: a change that has begun; fewer than eight sectors taken · Package fs: what a change keeps while a call has variables of its own; a sector that may be written. Conditions: a change that has begun · Package fs: a block of a node is written. Conditions: a change that has begun; a node of one block · Package fs: what a node has. Conditions: a change that has begun and has put nothing in that place; a node of at most one block. -/
import Derived.Test.YtdcbagmgflcemaaGreatDoorZ33
namespace Go.Proofs.YtdcbagmgflcemaaGreatDoor
open Go.ChangeShapes Go.WideShapes Go.ChangeAt Go.RowKit
set_option linter.unusedVariables false
set_option linter.unusedSimpArgs false
/-- One sector more is taken. -/
def TX.next (T : TX) : TX := ⟨T.ns, T.m + 1, T.dt, T.pu⟩
theorem txC_fo (f : Nat) (fo : List Value) (hl : fo.length = 192) (ga : Option Addr) (gc bd bp : Nat) : part_ (txC f fo ga gc bd bp) 1 192 = fo := by
  unfold txC part_
  rw [List.append_assoc]
  show List.take 192 (fo ++ _) = fo
  exact List.take_left' hl
theorem txC_has (f m : Nat) (ga : Option Addr) (gc bd bp : Nat) : part_ (txC f (foM m) ga gc bd bp) 17 32 = bys (hasN (16 + m)) := by
  have hl := foM_len m
  rw [← foM_has m]
  unfold txC part_
  generalize foM m = y at hl ⊢
  rw [List.append_assoc]
  show ((y ++ _).drop 16).take 32 = _
  rw [List.drop_append_of_le_length (by omega), List.take_append_of_le_length (by rw [List.length_drop]; omega)]
theorem txC_over (f m : Nat) (ga : Option Addr) (gc bd bp : Nat) : over_ (txC f (foM m) ga gc bd bp) 17 (bys (hasN (16 + (m + 1)))) = txC f (foM (m + 1)) ga gc bd bp := by
  have hl := foM_len m
  have hh : (bys (hasN (16 + (m + 1)))).length = 32 := by rw [ints_length, hasN_len]
  have e := foM_over m
  unfold txC
  generalize foM m = y at hl e ⊢
  generalize foM (m + 1) = z at e ⊢
  rw [List.append_assoc, over_right (i := 16) (show 17 = List.length [Value.pointer (some ⟨f, 0, none⟩)] + 16 from rfl), over_left (by omega), e, List.append_assoc]
/-- The forest of a change, read whole. -/
theorem TxA.foLoad {w : World} {FF FD : Nat → Prop} {f p q bt bh : Nat} {zs : List Int} {X : FX} {N : Nat} {R : Nat → Prop} {t gn go gc bd bp : Nat} {T : TX} (h : TxA w FF FD f p q bt bh zs X N R t gn go gc bd bp T) : (Instr.loadAt 115 (.pointer (some ⟨t, 1, none⟩))).run Tryz.prog w = .ok (.agg (foM T.m).toArray) w := by
  have L := load_part (P := Tryz.prog) (ty := 115) (lo := 1) (n := 192) h.blk (by rw [txC_len _ _ (foM_len _)]; omega) Tryz.underlying115 rfl (by kernel_rfl)
  rwa [txC_fo _ _ (foM_len _)] at L
theorem TxA.setFo {w : World} {FF FD : Nat → Prop} {f p q bt bh : Nat} {zs : List Int} {X : FX} {N : Nat} {R : Nat → Prop} {t gn go gc bd bp : Nat} {T : TX} {w1 : World} (h : TxA w FF FD f p q bt bh zs X N R t gn go gc bd bp T) (hm : T.m < 8) (h1 : Blk w1 t 244 (txC f (foM (T.m + 1)) (some ⟨gn, go, none⟩) gc bd bp)) (c1 : Chg (One t) w w1) :
    TxA w1 FF FD f p q bt bh zs X N R t gn go gc bd bp T.next ∧ Chg (Mt t gn bd bp) w w1 := by
  have hne := h.ne
  have C : Chg (Mt t gn bd bp) w w1 := c1.mono (fun i _ hi => one_mt (Or.inl rfl) i hi)
  exact ⟨h.step C h1 (h.nodes.chg c1 (fun g hg hh => by injection hg with hg; exact hne.1 (hg.trans hh).symm)) (fun i hi => h.pts' C (h.pts i hi)) h.nok (h.dirt.chg c1 (fun hh => hne.2.1 hh.symm)) h.dkey h.dval (h.put.chg c1 (fun hh => hne.2.2.1 hh.symm)) (fun j s hj => h.sec' C (h.psec j s hj)) (fun j hj => (h.pkey j hj).imp (fun h => h) (fun h => ⟨h.1, by have := h.2; show j < 53 + ((T.m + 1 : Nat) : Int); omega⟩)) (by show T.m + 1 ≤ 8; omega), C⟩
set_option maxRecDepth 100000 in
set_option maxHeartbeats 4000000 in
theorem ffresh_ok {w : World} {FF FD : Nat → Prop} {f p q bt bh : Nat} {zs : List Int} {X : FX} {N : Nat} {R : Nat → Prop} {t gn go gc bd bp : Nat} {T : TX} (h : TxA w FF FD f p q bt bh zs X N R t gn go gc bd bp T) (hm : T.m < 8) :
    Calls Tryz.prog 199 #[.pointer (some ⟨t, 0, none⟩)] w fun e w' => e = .returned (.int .i64 ((53 + T.m : Nat) : Int)) ∧ TxA w' FF FD f p q bt bh zs X N R t gn go gc bd bp T.next ∧ Chg (Mt t gn bd bp) w w' := by
  have HS := hid (fun w' (hc : Chg Nil w w') => (⟨(h.nil hc).c0, (h.nil hc).fs.c0⟩ : w'.cell? ⟨t, 0, none⟩ = some (.pointer (some ⟨f, 0, none⟩)) ∧ w'.cell? ⟨f, 0, none⟩ = some (.pointer (some ⟨p, 0, none⟩))))
  have HF := hid (fun w' (hc : Chg Nil w w') => (h.nil hc).foLoad)
  have HT := hid (fun w => taken_ok w T.m (by omega))
  have H1 := hid (fun w => first_ok w T.m (by omega))
  have HZ := hid (fun w' (hc : Chg Nil w w') => dksize_ok w' FD p 256 zs 0 (h.nil hc).fs.dk)
  have HW := hid (fun w => with_ok w (hasN (16 + T.m)) (hasN_len _) (53 + T.m) (by omega))
  rw [hasN_next] at HW
  have HN := hid (fun w' (hc : Chg Nil w w') => h.nil hc)
  have hm0 := hid hm
  obtain ⟨m, hmm⟩ : ∃ m, m = T.m := ⟨_, rfl⟩
  have hm8 : m < 8 := by omega
  rw [← hmm] at HF HT H1 HW ⊢
  obtain ⟨fo, hfo⟩ : ∃ fo, fo = foM m := ⟨_, rfl⟩
  rw [← hfo] at HF HT
  replace hfo := hid hfo
  obtain ⟨b0, hb0⟩ : ∃ b0, b0 = hasN (16 + m) := ⟨_, rfl⟩
  obtain ⟨b1, hb1⟩ : ∃ b1, b1 = hasN (16 + (m + 1)) := ⟨_, rfl⟩
  have l0 : b0.length = 32 := by rw [hb0]; exact hasN_len _
  have l1 : b1.length = 32 := by rw [hb1]; exact hasN_len _
  rw [← hb0] at HT H1 HW
  rw [← hb1] at HW
  replace hb0 := hid hb0
  replace hb1 := hid hb1
  replace hmm := hid hmm
  clear h hm
  go_enter Tryz.func199, Tryz.ntmps199
  go_upto_region 1 with fail
  go_cut [3, 4] (fun s3 s4 wx => s3 = .int .i64 ((53 + m : Nat) : Int) ∧ s4 = .int .i64 0 ∧ Hid (Chg Nil w wx))
  case first =>
    refine wp_region_held_drew (S := fun w' => w'.cell? ⟨t, 0, none⟩ = some (.pointer (some ⟨f, 0, none⟩)) ∧ w'.cell? ⟨f, 0, none⟩ = some (.pointer (some ⟨p, 0, none⟩)) ∧ Hid (Chg Nil w w')) (by kernel_rfl) ⟨(HS.out _ (Chg.refl Nil w).drew).1, (HS.out _ (Chg.refl Nil w).drew).2, (Chg.refl Nil w).drew⟩ (fun hSn => ?_)
    simp only [List.size_toArray, List.length_cons, List.length_nil, Nat.reduceAdd, Array.replicate_succ, Array.replicate_zero, List.push_toArray, List.nil_append, List.cons_append]
    refine wpAnyH_take (i := 0) (oi := { dst := some 6, op := Op.move (Operand.tmp 0), type := 139, pos := "txn.go:43", after := #[], guard := none }) (v := .pointer (some ⟨t, 0, none⟩)) rfl (by kernel_rfl) (by kernel_rfl) (by kernel_rfl) (fun _ _ _ h => h) (Or.inl ⟨by rfl, by (intro w hSw; (try dsimp only at hSw); go_simp)⟩) (by assumption) ?_
    try simp only [Act.put, List.setIfInBounds_toArray, List.set_cons_zero, List.set_cons_succ]
    refine wpAnyH_take (i := 1) (oi := { dst := some 7, op := Op.nilCheck (Operand.tmp 6), type := 0, pos := "txn.go:43", after := #[{ on := 0, ground := Ground.data }], guard := none }) (v := .pointer (some ⟨t, 0, none⟩)) rfl (by kernel_rfl) (by kernel_rfl) (by kernel_rfl) (fun _ _ _ h => h) (Or.inl ⟨by rfl, by (intro w hSw; (try dsimp only at hSw); go_simp)⟩) (by assumption) ?_
    try simp only [Act.put, List.setIfInBounds_toArray, List.set_cons_zero, List.set_cons_succ]
    refine wpAnyH_take (i := 2) (oi := { dst := some 8, op := Op.fieldAddr 244 (Operand.tmp 7) 1, type := 0, pos := "txn.go:43", after := #[{ on := 1, ground := Ground.data }], guard := none }) (v := .pointer (some ⟨t, 1, none⟩)) rfl (by kernel_rfl) (by kernel_rfl) (by kernel_rfl) (fun _ _ _ h => h) (Or.inl ⟨by rfl, by (intro w hSw; (try dsimp only at hSw); go_simp)⟩) (by assumption) ?_
    try simp only [Act.put, List.setIfInBounds_toArray, List.set_cons_zero, List.set_cons_succ]
    refine wpAnyH_take (i := 3) (oi := { dst := some 9, op := Op.load 115 (Operand.tmp 8), type := 115, pos := "txn.go:43", after := #[{ on := 2, ground := Ground.data }], guard := none }) rfl (by kernel_rfl) (by kernel_rfl) (by kernel_rfl) (fun _ _ _ h => h) (yieldsIf_load_run (r := .agg fo.toArray) (fun w hS => HF.out w hS.2.2.out) (by rfl) (by rfl) (by rfl)) (by assumption) ?_
    try simp only [Act.put, List.setIfInBounds_toArray, List.set_cons_zero, List.set_cons_succ]
    refine wpAnyH_take (i := 5) (oi := { dst := some 11, op := Op.move (Operand.tmp 0), type := 139, pos := "txn.go:43", after := #[], guard := none }) (v := .pointer (some ⟨t, 0, none⟩)) rfl (by kernel_rfl) (by kernel_rfl) (by kernel_rfl) (fun _ _ _ h => h) (Or.inl ⟨by rfl, by (intro w hSw; (try dsimp only at hSw); go_simp)⟩) (by assumption) ?_
    try simp only [Act.put, List.setIfInBounds_toArray, List.set_cons_zero, List.set_cons_succ]
    refine wpAnyH_take (i := 6) (oi := { dst := some 12, op := Op.nilCheck (Operand.tmp 11), type := 0, pos := "txn.go:43", after := #[{ on := 5, ground := Ground.data }], guard := none }) (v := .pointer (some ⟨t, 0, none⟩)) rfl (by kernel_rfl) (by kernel_rfl) (by kernel_rfl) (fun _ _ _ h => h) (Or.inl ⟨by rfl, by (intro w hSw; (try dsimp only at hSw); go_simp)⟩) (by assumption) ?_
    try simp only [Act.put, List.setIfInBounds_toArray, List.set_cons_zero, List.set_cons_succ]
    refine wpAnyH_take (i := 7) (oi := { dst := some 13, op := Op.fieldAddr 244 (Operand.tmp 12) 0, type := 0, pos := "txn.go:43", after := #[{ on := 6, ground := Ground.data }], guard := none }) (v := .pointer (some ⟨t, 0, none⟩)) rfl (by kernel_rfl) (by kernel_rfl) (by kernel_rfl) (fun _ _ _ h => h) (Or.inl ⟨by rfl, by (intro w hSw; (try dsimp only at hSw); go_simp)⟩) (by assumption) ?_
    try simp only [Act.put, List.setIfInBounds_toArray, List.set_cons_zero, List.set_cons_succ]
    refine wpAnyH_take (i := 8) (oi := { dst := some 14, op := Op.load 63 (Operand.tmp 13), type := 63, pos := "txn.go:43", after := #[{ on := 7, ground := Ground.data }], guard := none }) (v := .pointer (some ⟨f, 0, none⟩)) rfl (by kernel_rfl) (by kernel_rfl) (by kernel_rfl) (fun _ _ _ h => h) (Or.inl ⟨by rfl, by (intro w hSw; (try dsimp only at hSw); go_simp)⟩) (by assumption) ?_
    try simp only [Act.put, List.setIfInBounds_toArray, List.set_cons_zero, List.set_cons_succ]
    refine wpAnyH_take (i := 9) (oi := { dst := some 15, op := Op.nilCheck (Operand.tmp 14), type := 0, pos := "txn.go:43", after := #[{ on := 8, ground := Ground.data }], guard := none }) (v := .pointer (some ⟨f, 0, none⟩)) rfl (by kernel_rfl) (by kernel_rfl) (by kernel_rfl) (fun _ _ _ h => h) (Or.inl ⟨by rfl, by (intro w hSw; (try dsimp only at hSw); go_simp)⟩) (by assumption) ?_
    try simp only [Act.put, List.setIfInBounds_toArray, List.set_cons_zero, List.set_cons_succ]
    refine wpAnyH_take (i := 10) (oi := { dst := some 16, op := Op.fieldAddr 137 (Operand.tmp 15) 0, type := 0, pos := "txn.go:43", after := #[{ on := 9, ground := Ground.data }], guard := none }) (v := .pointer (some ⟨f, 0, none⟩)) rfl (by kernel_rfl) (by kernel_rfl) (by kernel_rfl) (fun _ _ _ h => h) (Or.inl ⟨by rfl, by (intro w hSw; (try dsimp only at hSw); go_simp)⟩) (by assumption) ?_
    try simp only [Act.put, List.setIfInBounds_toArray, List.set_cons_zero, List.set_cons_succ]
    refine wpAnyH_take (i := 11) (oi := { dst := some 17, op := Op.load 24 (Operand.tmp 16), type := 24, pos := "txn.go:43", after := #[{ on := 10, ground := Ground.data }], guard := none }) (v := .pointer (some ⟨p, 0, none⟩)) rfl (by kernel_rfl) (by kernel_rfl) (by kernel_rfl) (fun _ _ _ h => h) (Or.inl ⟨by rfl, by (intro w hSw; (try dsimp only at hSw); go_simp)⟩) (by assumption) ?_
    try simp only [Act.put, List.setIfInBounds_toArray, List.set_cons_zero, List.set_cons_succ]
    refine wpAnyH_ready (rs := [4]) (by kernel_rfl) (by simp) ?_
    refine AllReadyH.cons (o := { dst := some 10, op := Op.call { callee := Callee.value (Operand.func 261), args := #[Operand.tmp 9], argTypes := #[115] }, type := 111, pos := "txn.go:43", after := #[{ on := 3, ground := Ground.data }], guard := none }) rfl (fun K hK => ?_) AllReadyH.nil
    go_simp
    go_at_call 261
    refine (HT.out _).mono ?_
    rintro e w1 ⟨rfl, c1⟩
    refine hK.out _ _ (⟨(HS.out _ (hSn.2.2.out.trans c1 (fun _ _ h => h))).1, (HS.out _ (hSn.2.2.out.trans c1 (fun _ _ h => h))).2, hSn.2.2.out.trans c1 (fun _ _ h => h)⟩) (fun hSn => ?_)
    clear hK K
    try simp only [Act.put, List.setIfInBounds_toArray, List.set_cons_zero, List.set_cons_succ]
    refine wpAnyH_ready (rs := [12]) (by kernel_rfl) (by simp) ?_
    refine AllReadyH.cons (o := { dst := some 18, op := Op.call { callee := Callee.value (Operand.func 43), args := #[Operand.tmp 17], argTypes := #[24] }, type := 3, pos := "txn.go:43", after := #[{ on := 11, ground := Ground.data }, { on := 4, ground := Ground.chain }], guard := none }) rfl (fun K hK => ?_) AllReadyH.nil
    go_simp
    go_at_call 43
    refine (HZ.out _ hSn.2.2.out).mono ?_
    rintro e w9 ⟨rfl, rfl⟩
    refine hK.out _ _ (hSn) (fun hSn => ?_)
    clear hK K
    try simp only [Act.put, List.setIfInBounds_toArray, List.set_cons_zero, List.set_cons_succ]
    refine wpAnyH_ready (rs := [13]) (by kernel_rfl) (by simp) ?_
    refine AllReadyH.cons (o := { dst := some 19, op := Op.call { callee := Callee.value (Operand.func 262), args := #[Operand.tmp 10, Operand.const (Value.int IntKind.i64 37), Operand.tmp 18], argTypes := #[111, 3, 3] }, type := 97, pos := "txn.go:43", after := #[{ on := 4, ground := Ground.data }, { on := 12, ground := Ground.data }, { on := 12, ground := Ground.chain }], guard := none }) rfl (fun K hK => ?_) AllReadyH.nil
    go_simp
    go_at_call 262
    refine (H1.out _).mono ?_
    rintro e w3 ⟨rfl, c3⟩
    refine hK.out _ _ ⟨(HS.out _ (hSn.2.2.out.trans c3 (fun _ _ h => h))).1, (HS.out _ (hSn.2.2.out.trans c3 (fun _ _ h => h))).2, hSn.2.2.out.trans c3 (fun _ _ h => h)⟩ (fun hSn => ?_)
    clear hK K c3
    try simp only [Act.put, List.setIfInBounds_toArray, List.set_cons_zero, List.set_cons_succ]
    refine wpAnyH_take (i := 14) (oi := { dst := some 5, op := Op.move (Operand.tmp 19), type := 97, pos := "txn.go:43", after := #[{ on := 13, ground := Ground.data }], guard := none }) (v := .tuple #[.int .i64 ((53 + m : Nat) : Int), .int .i64 0]) rfl (by kernel_rfl) (by kernel_rfl) (by kernel_rfl) (fun _ _ _ h => h) (Or.inl ⟨by rfl, by (intro w hSw; (try dsimp only at hSw); go_simp)⟩) (by assumption) ?_
    try simp only [Act.put, List.setIfInBounds_toArray, List.set_cons_zero, List.set_cons_succ]
    refine wpAnyH_take (i := 15) (oi := { dst := some 20, op := Op.extract (Operand.tmp 5) 0, type := 3, pos := "txn.go:43", after := #[{ on := 14, ground := Ground.data }], guard := none }) (v := .int .i64 ((53 + m : Nat) : Int)) rfl (by kernel_rfl) (by kernel_rfl) (by kernel_rfl) (fun _ _ _ h => h) (Or.inl ⟨by rfl, by (intro w hSw; (try dsimp only at hSw); go_simp)⟩) (by assumption) ?_
    try simp only [Act.put, List.setIfInBounds_toArray, List.set_cons_zero, List.set_cons_succ]
    refine wpAnyH_take (i := 16) (oi := { dst := some 21, op := Op.extract (Operand.tmp 5) 1, type := 28, pos := "txn.go:43", after := #[{ on := 14, ground := Ground.data }, { on := 17, ground := Ground.gcOnly Departure.lateStores }], guard := none }) (v := .int .i64 0) rfl (by kernel_rfl) (by kernel_rfl) (by kernel_rfl) (fun _ _ _ h => h) (Or.inl ⟨by rfl, by (intro w hSw; (try dsimp only at hSw); go_simp)⟩) (by assumption) ?_
    try simp only [Act.put, List.setIfInBounds_toArray, List.set_cons_zero, List.set_cons_succ]
    refine wpAnyH_take (i := 17) (oi := { dst := some 3, op := Op.assign (Operand.tmp 20), type := 3, pos := "txn.go:43", after := #[{ on := 15, ground := Ground.data }, { on := 13, ground := Ground.chain }, { on := 0, ground := Ground.phase }, { on := 1, ground := Ground.phase }, { on := 2, ground := Ground.phase }, { on := 3, ground := Ground.phase }, { on := 4, ground := Ground.phase }, { on := 5, ground := Ground.phase }, { on := 6, ground := Ground.phase }, { on := 7, ground := Ground.phase }, { on := 8, ground := Ground.phase }, { on := 9, ground := Ground.phase }, { on := 10, ground := Ground.phase }, { on := 11, ground := Ground.phase }, { on := 12, ground := Ground.phase }, { on := 13, ground := Ground.phase }, { on := 14, ground := Ground.phase }, { on := 15, ground := Ground.phase }, { on := 16, ground := Ground.textOnly Departure.lateStores }], guard := none }) (v := .int .i64 ((53 + m : Nat) : Int)) rfl (by kernel_rfl) (by kernel_rfl) (by kernel_rfl) (fun _ _ _ h => h) (Or.inl ⟨by rfl, by (intro w hSw; (try dsimp only at hSw); go_simp)⟩) (by assumption) ?_
    try simp only [Act.put, List.setIfInBounds_toArray, List.set_cons_zero, List.set_cons_succ]
    refine wpAnyH_ready (rs := [18]) (by kernel_rfl) (by simp) ?_
    refine AllReadyH.cons rfl (fun K hK => ?_) AllReadyH.nil
    go_simp
    refine hK.out _ _ hSn (fun hSn => ?_)
    clear hK K
    refine wpAnyH_done (by kernel_rfl) ?_ _
    go_wp2
    go_meet
    exact ⟨rfl, rfl, hSn.2.2⟩
  case rest =>
    obtain ⟨rfl, rfl, hC⟩ := hcut
    have h2 := HN.out wc hC.out
    have L6 := load_part (P := Tryz.prog) (ty := 111) (lo := 17) (n := 32) (h2.blk).drew (by rw [txC_len _ _ (foM_len _)]; omega) Tryz.underlying111 rfl (by kernel_rfl)
    rw [txC_has, ← hmm.out, ← hb0.out] at L6
    have HS6 := hid (fun w2 (c2 : Chg Nil wc.drew w2) => store_part (P := Tryz.prog) (ty := 111) (lo := 17) (vs := bys b1) ((h2.blk).drew.chg c2 (fun h => h)) (by rw [txC_len _ _ (foM_len _), ints_length, l1]; omega) (by rw [ints_length, l1]; kernel_rfl) (ints_one _ _))
    have eo := txC_over f m (some ⟨gn, go, none⟩) gc bd bp
    rw [← hb1.out] at eo
    rw [← hmm.out, eo] at HS6
    clear eo
    have HQ := hid (fun w1 (h1 : Blk w1 t 244 (txC f (foM (m + 1)) (some ⟨gn, go, none⟩) gc bd bp)) (c1 : Chg (One t) wc w1) => h2.setFo hm0.out (by rw [← hmm.out]; exact h1) c1)
    clear h2
    go_upto_region 6 with fail
    refine wp_region_held_drew (S := fun w' => Hid True) (by kernel_rfl) (hid trivial) (fun hSn => ?_)
    simp only [List.size_toArray, List.length_cons, List.length_nil, Nat.reduceAdd, Array.replicate_succ, Array.replicate_zero, List.push_toArray, List.nil_append, List.cons_append]
    refine wpAnyH_take (i := 0) (oi := { dst := some 38, op := Op.move (Operand.tmp 0), type := 139, pos := "txn.go:49", after := #[], guard := none }) (v := .pointer (some ⟨t, 0, none⟩)) rfl (by kernel_rfl) (by kernel_rfl) (by kernel_rfl) (fun _ _ _ h => h) (Or.inl ⟨by rfl, by (intro w hSw; (try dsimp only at hSw); go_simp)⟩) (by assumption) ?_
    try simp only [Act.put, List.setIfInBounds_toArray, List.set_cons_zero, List.set_cons_succ]
    refine wpAnyH_take (i := 1) (oi := { dst := some 39, op := Op.move (Operand.tmp 0), type := 139, pos := "txn.go:49", after := #[], guard := none }) (v := .pointer (some ⟨t, 0, none⟩)) rfl (by kernel_rfl) (by kernel_rfl) (by kernel_rfl) (fun _ _ _ h => h) (Or.inl ⟨by rfl, by (intro w hSw; (try dsimp only at hSw); go_simp)⟩) (by assumption) ?_
    try simp only [Act.put, List.setIfInBounds_toArray, List.set_cons_zero, List.set_cons_succ]
    refine wpAnyH_take (i := 2) (oi := { dst := some 40, op := Op.nilCheck (Operand.tmp 39), type := 0, pos := "txn.go:49", after := #[{ on := 1, ground := Ground.data }], guard := none }) (v := .pointer (some ⟨t, 0, none⟩)) rfl (by kernel_rfl) (by kernel_rfl) (by kernel_rfl) (fun _ _ _ h => h) (Or.inl ⟨by rfl, by (intro w hSw; (try dsimp only at hSw); go_simp)⟩) (by assumption) ?_
    try simp only [Act.put, List.setIfInBounds_toArray, List.set_cons_zero, List.set_cons_succ]
    refine wpAnyH_take (i := 3) (oi := { dst := some 41, op := Op.fieldAddr 244 (Operand.tmp 40) 1, type := 0, pos := "txn.go:49", after := #[{ on := 2, ground := Ground.data }], guard := none }) (v := .pointer (some ⟨t, 1, none⟩)) rfl (by kernel_rfl) (by kernel_rfl) (by kernel_rfl) (fun _ _ _ h => h) (Or.inl ⟨by rfl, by (intro w hSw; (try dsimp only at hSw); go_simp)⟩) (by assumption) ?_
    try simp only [Act.put, List.setIfInBounds_toArray, List.set_cons_zero, List.set_cons_succ]
    refine wpAnyH_take (i := 4) (oi := { dst := some 42, op := Op.indexAddr 115 (Operand.tmp 41) (Operand.const (Value.int IntKind.i64 0)), type := 0, pos := "txn.go:49", after := #[{ on := 3, ground := Ground.data }], guard := none }) (v := .pointer (some ⟨t, 1, none⟩)) rfl (by kernel_rfl) (by kernel_rfl) (by kernel_rfl) (fun _ _ _ h => h) (Or.inl ⟨by rfl, by (intro w hSw; (try dsimp only at hSw); go_simp)⟩) (by assumption) ?_
    try simp only [Act.put, List.setIfInBounds_toArray, List.set_cons_zero, List.set_cons_succ]
    refine wpAnyH_take (i := 5) (oi := { dst := some 43, op := Op.fieldAddr 113 (Operand.tmp 42) 1, type := 0, pos := "txn.go:49", after := #[{ on := 4, ground := Ground.data }], guard := none }) (v := .pointer (some ⟨t, 17, none⟩)) rfl (by kernel_rfl) (by kernel_rfl) (by kernel_rfl) (fun _ _ _ h => h) (Or.inl ⟨by rfl, by (intro w hSw; (try dsimp only at hSw); go_simp)⟩) (by assumption) ?_
    try simp only [Act.put, List.setIfInBounds_toArray, List.set_cons_zero, List.set_cons_succ]
    refine wpAnyH_take (i := 7) (oi := { dst := some 45, op := Op.move (Operand.tmp 3), type := 3, pos := "txn.go:49", after := #[], guard := none }) (v := .int .i64 ((53 + m : Nat) : Int)) rfl (by kernel_rfl) (by kernel_rfl) (by kernel_rfl) (fun _ _ _ h => h) (Or.inl ⟨by rfl, by (intro w hSw; (try dsimp only at hSw); go_simp)⟩) (by assumption) ?_
    try simp only [Act.put, List.setIfInBounds_toArray, List.set_cons_zero, List.set_cons_succ]
    refine wpAnyH_take (i := 9) (oi := { dst := some 47, op := Op.nilCheck (Operand.tmp 38), type := 0, pos := "txn.go:49", after := #[{ on := 0, ground := Ground.data }], guard := none }) (v := .pointer (some ⟨t, 0, none⟩)) rfl (by kernel_rfl) (by kernel_rfl) (by kernel_rfl) (fun _ _ _ h => h) (Or.inl ⟨by rfl, by (intro w hSw; (try dsimp only at hSw); go_simp)⟩) (by assumption) ?_
    try simp only [Act.put, List.setIfInBounds_toArray, List.set_cons_zero, List.set_cons_succ]
    refine wpAnyH_take (i := 10) (oi := { dst := some 48, op := Op.fieldAddr 244 (Operand.tmp 47) 1, type := 0, pos := "txn.go:49", after := #[{ on := 9, ground := Ground.data }], guard := none }) (v := .pointer (some ⟨t, 1, none⟩)) rfl (by kernel_rfl) (by kernel_rfl) (by kernel_rfl) (fun _ _ _ h => h) (Or.inl ⟨by rfl, by (intro w hSw; (try dsimp only at hSw); go_simp)⟩) (by assumption) ?_
    try simp only [Act.put, List.setIfInBounds_toArray, List.set_cons_zero, List.set_cons_succ]
    refine wpAnyH_ready (rs := [6]) (by kernel_rfl) (by simp) ?_
    refine AllReadyH.cons (o := { dst := some 44, op := Op.load 111 (Operand.tmp 43), type := 111, pos := "txn.go:49", after := #[{ on := 5, ground := Ground.data }], guard := none }) rfl (fun K hK => ?_) AllReadyH.nil
    refine step_load_run L6 (by rfl) (by rfl) (by rfl) ?_
    refine hK.out _ _ hSn (fun hSn => ?_)
    clear hK K L6
    try simp only [Act.put, List.setIfInBounds_toArray, List.set_cons_zero, List.set_cons_succ]
    refine wpAnyH_ready (rs := [8]) (by kernel_rfl) (by simp) ?_
    refine AllReadyH.cons (o := { dst := some 46, op := Op.call { callee := Callee.value (Operand.func 45), args := #[Operand.tmp 44, Operand.tmp 45], argTypes := #[111, 3] }, type := 111, pos := "txn.go:49", after := #[{ on := 6, ground := Ground.data }, { on := 7, ground := Ground.data }], guard := none }) rfl (fun K hK => ?_) AllReadyH.nil
    go_simp
    go_at_call 45
    refine (HW.out _).mono ?_
    rintro e w3 ⟨rfl, c3⟩
    refine hK.out _ _ hSn (fun hSn => ?_)
    clear hK K
    try simp only [Act.put, List.setIfInBounds_toArray, List.set_cons_zero, List.set_cons_succ]
    obtain ⟨S1, S2, S3⟩ := HS6.out w3 c3
    have FIN := hid (HQ.out _ S2 (((Chg.refl (One t) wc).drew.trans c3 (fun _ _ h => h.elim)).trans S3 (fun _ _ h => h)))
    generalize w3.setCells t 17 (bys b1) = W at S1 FIN
    clear S2 S3 c3 HS6 HQ
    refine wpAnyH_take (i := 11) (oi := { dst := some 49, op := Op.indexAddr 115 (Operand.tmp 48) (Operand.const (Value.int IntKind.i64 0)), type := 0, pos := "txn.go:49", after := #[{ on := 10, ground := Ground.data }, { on := 0, ground := Ground.phase }, { on := 1, ground := Ground.phase }, { on := 2, ground := Ground.phase }, { on := 3, ground := Ground.phase }, { on := 4, ground := Ground.phase }, { on := 5, ground := Ground.phase }, { on := 6, ground := Ground.phase }, { on := 7, ground := Ground.phase }, { on := 8, ground := Ground.phase }], guard := none }) (v := .pointer (some ⟨t, 1, none⟩)) rfl (by kernel_rfl) (by kernel_rfl) (by kernel_rfl) (fun _ _ _ h => h) (Or.inl ⟨by rfl, by (intro w hSw; (try dsimp only at hSw); go_simp)⟩) (by assumption) ?_
    try simp only [Act.put, List.setIfInBounds_toArray, List.set_cons_zero, List.set_cons_succ]
    refine wpAnyH_take (i := 12) (oi := { dst := some 50, op := Op.fieldAddr 113 (Operand.tmp 49) 1, type := 0, pos := "txn.go:49", after := #[{ on := 11, ground := Ground.data }, { on := 0, ground := Ground.phase }, { on := 1, ground := Ground.phase }, { on := 2, ground := Ground.phase }, { on := 3, ground := Ground.phase }, { on := 4, ground := Ground.phase }, { on := 5, ground := Ground.phase }, { on := 6, ground := Ground.phase }, { on := 7, ground := Ground.phase }, { on := 8, ground := Ground.phase }], guard := none }) (v := .pointer (some ⟨t, 17, none⟩)) rfl (by kernel_rfl) (by kernel_rfl) (by kernel_rfl) (fun _ _ _ h => h) (Or.inl ⟨by rfl, by (intro w hSw; (try dsimp only at hSw); go_simp)⟩) (by assumption) ?_
    try simp only [Act.put, List.setIfInBounds_toArray, List.set_cons_zero, List.set_cons_succ]
    refine wpAnyH_ready (rs := [13]) (by kernel_rfl) (by simp) ?_
    refine AllReadyH.cons (o := { dst := none, op := Op.store 111 (Operand.tmp 50) (Operand.tmp 46), type := 0, pos := "txn.go:49", after := #[{ on := 12, ground := Ground.data }, { on := 8, ground := Ground.data }, { on := 8, ground := Ground.chain }, { on := 0, ground := Ground.phase }, { on := 1, ground := Ground.phase }, { on := 2, ground := Ground.phase }, { on := 3, ground := Ground.phase }, { on := 4, ground := Ground.phase }, { on := 5, ground := Ground.phase }, { on := 6, ground := Ground.phase }, { on := 7, ground := Ground.phase }, { on := 8, ground := Ground.phase }], guard := none }) rfl (fun K hK => ?_) AllReadyH.nil
    refine step_store_run S1 (by rfl) (by rfl) (by rfl) (by rfl) ?_
    refine hK.out _ _ hSn (fun hSn => ?_)
    clear hK K S1
    refine wpAnyH_done (by kernel_rfl) ?_ _
    try simp only [Act.put, List.setIfInBounds_toArray, List.set_cons_zero, List.set_cons_succ]
    go_wp2
    go_ret
    exact ⟨rfl, FIN.out.1, (hC.out.mono (fun _ _ h => h.elim)).trans FIN.out.2 (fun _ _ h => h)⟩
end Go.Proofs.YtdcbagmgflcemaaGreatDoor
namespace Go.Proofs.YtdcbagmgflcemaaGreatDoor
open Go.ChangeShapes Go.WideShapes Go.ChangeAt Go.RowKit
set_option linter.unusedVariables false
theorem Rd.low {w : World} {R : Nat → Prop} {s n c : Nat} {a : Option Addr} {xs : List Value} (h : Rd w R s a n c xs) : Rd w (fun k => R k ∧ k < w.heap.size) s a n c xs := by
  obtain ⟨h1, h2, h3, h4⟩ := h
  refine ⟨h1, h2, h3, fun hn => ?_⟩
  obtain ⟨g, off, r1, r2, r3, r4⟩ := h4 hn
  exact ⟨g, off, r1, r2, ⟨r3, r2⟩, r4⟩
theorem NdAt.low {w : World} {R : Nat → Prop} {d : Nd} (h : NdAt w R d) : NdAt w (fun k => R k ∧ k < w.heap.size) d := h.imp (fun h => h) (fun h => ⟨h.1, h.2.low⟩)
/-- All but these blocks. -/
def But (R L : Nat → Prop) : Nat → Prop := fun k => R k ∧ ¬ L k
section
variable {w w' w0 : World} {FF FD : Nat → Prop} {f p q bt bh : Nat} {zs : List Int} {X : FX} {N : Nat} {R L F : Nat → Prop} {t gn go gc bd bp : Nat} {T T0 : TX}
theorem TxA.cut (h : TxA w0 FF FD f p q bt bh zs X N R t gn go gc bd bp T) (c : Chg Nil w0 w) (hL : ∀ k, L k → w0.heap.size ≤ k ∧ k < w.heap.size) : TxA w FF FD f p q bt bh zs X N (But R L) t gn go gc bd bp T := by
  have h2 := h.nil c
  have hN := h.new
  have hlt := h.lt
  have key : ∀ k, (R k ∧ k < w0.heap.size) → But R L k := fun k hk => ⟨hk.1, fun hl => by have := (hL k hl).1; omega⟩
  exact ⟨h2.fs, h2.blk, h2.nodes, fun i hi => ((h.pts i hi).low.chg c (fun _ _ _ h => h)).mono key, h2.nok, h2.dirt, h2.dkey, h2.dval, h2.put, fun k s hs => ((Rd.low (h.psec k s hs)).chg c (fun _ _ _ h => h)).mono key, h2.pkey, h2.mle, h2.new, h2.old, h2.ne, fun k hk => h2.nr k hk.1, fun k hk => h2.rin k hk.1, fun k hk => ⟨h2.rup k hk, fun hl => by
    have h5 := hL k hl
    rcases hk with hk | hk
    · have := h2.old k hk.1; omega
    · omega⟩⟩
theorem TxA.far (h : TxA w FF FD f p q bt bh zs X N R t gn go gc bd bp T) (c : Chg F w w') (hF : ∀ k, F k → ¬ R k ∧ ¬ FF k ∧ ¬ Mt t gn bd bp k) : TxA w' FF FD f p q bt bh zs X N R t gn go gc bd bp T :=
  ⟨h.fs.chg c (fun k hk hf => (hF k hf).2.1 hk), h.blk.chg c (fun hf => (hF _ hf).2.2 (.inl rfl)), h.nodes.chg c (fun g hg hf => (hF _ hf).2.2 (by injection hg with hg; exact .inr (.inl hg.symm))), fun i hi => (h.pts i hi).chg c (fun g _ hr hf => (hF _ hf).1 hr), h.nok, h.dirt.chg c (fun hf => (hF _ hf).2.2 (.inr (.inr (.inl rfl)))), h.dkey, h.dval, h.put.chg c (fun hf => (hF _ hf).2.2 (.inr (.inr (.inr rfl)))), fun k s hs => (h.psec k s hs).chg c (fun g _ hr hf => (hF _ hf).1 hr), h.pkey, h.mle, h.new, h.old, h.ne, h.nr, h.rin, fun k hk => h.rup k (hk.imp (fun h => h) (fun h => Nat.le_trans c.size h))⟩
theorem TxA.grow (h : TxA w FF FD f p q bt bh zs X N (But R L) t gn go gc bd bp T) (h0 : TxA w0 FF FD f p q bt bh zs X N R t gn go gc bd bp T0) (hs : w0.heap.size ≤ w.heap.size) : TxA w FF FD f p q bt bh zs X N R t gn go gc bd bp T :=
  ⟨h.fs, h.blk, h.nodes, fun i hi => (h.pts i hi).mono (fun k hk => hk.1), h.nok, h.dirt, h.dkey, h.dval, h.put, fun k s hs => (h.psec k s hs).mono (fun k hk => hk.1), h.pkey, h.mle, h.new, h.old, h.ne, h0.nr, h0.rin, fun k hk => h0.rup k (hk.imp (fun h => h) (fun h => Nat.le_trans hs h))⟩
/-- A sector is put. -/
def TX.putS (T : TX) (k : Int) (s : Sec) : TX := ⟨T.ns, T.m, T.dt, updS T.pu k s⟩
theorem TxA.setPut (h : TxA w FF FD f p q bt bh zs X N R t gn go gc bd bp T) {k : Int} (hk : (1 ≤ k ∧ k ≤ 4) ∨ (37 ≤ k ∧ k < 53 + (T.m : Int))) {s : Sec} (hs : SecAt w R s) (n : Nat) (hm : MpAt w' Tryz.prog 3 bp n (updM (secM T.pu) k (some s.val))) (c : Chg (One bp) w w') :
    TxA w' FF FD f p q bt bh zs X N R t gn go gc bd bp (T.putS k s) ∧ Chg (Mt t gn bd bp) w w' := by
  have hne := h.ne
  have C : Chg (Mt t gn bd bp) w w' := c.mono (fun i _ hi => one_mt (Or.inr (.inr (.inr rfl))) i hi)
  have hkey : ∀ j, ((updS T.pu k s) j).isSome = true → (1 ≤ j ∧ j ≤ 4) ∨ (37 ≤ j ∧ j < 53 + (T.m : Int)) := fun j hj => by
    unfold updS at hj
    split at hj
    · rename_i he; rw [he]; exact hk
    · exact h.pkey j hj
  refine ⟨h.step C (h.blk.chg c (fun hh => hne.2.2.1 hh)) (h.nodes.chg c (fun g hg hh => by injection hg with hg; exact hne.2.2.2.2.1 (hg.trans hh))) (fun i hi => h.pts' C (h.pts i hi)) h.nok (h.dirt.chg c (fun hh => hne.2.2.2.2.2 hh)) h.dkey h.dval ?_ (fun j s' hj => ?_) hkey h.mle, C⟩
  · show MpAt w' Tryz.prog 3 bp 80 (secM (updS T.pu k s))
    rw [secM_upd]
    refine (hm.small (t := 134) (e := 22) Tryz.underlying3 Tryz.underlying134 0 80 (fun j hj => ?_))
    rw [← secM_upd] at hj
    have h1 := hkey j (by unfold secM at hj; rw [Option.isSome_map] at hj; exact hj)
    have := h.mle
    omega
  · have hj' : updS T.pu k s j = some s' := hj
    unfold updS at hj'
    split at hj'
    · injection hj' with hj'; rw [← hj']; exact h.sec' C hs
    · exact h.sec' C (h.psec j s' hj')
end
/-- A store into a map, in a region that draws its order. -/
theorem step_map_run {P : Program} {ops : Array Oper} {op : Oper} {a : Act} {w w' : World} {K : Act → World → Prop} {Q : Exit → Act → World → Prop} {E : Prop} {ty : TypeId} {x y z : Operand} {m k v : Value} (L : (Instr.mapUpdate ty m k v).run P w = .ok () w') (hw : Region.wanted op (yielded ops a.tmps) = true) (ho : op.op = .mapUpdate ty x y z) (hx : a.eval x = m) (hy : a.eval y = k) (hz : a.eval z = v)
    (h : K (a.put op.dst undef) w') : if Region.wanted op (yielded ops a.tmps) = true then Oper.wp P op a w K Q else E := by
  rw [if_pos hw]
  unfold Oper.wp execOp
  simp only [ho, hx, hy, hz, Sem.run_bind, L, Result.andThen_ok, Sem.run_pure]
  exact h
set_option maxRecDepth 100000 in
set_option maxHeartbeats 1000000 in
theorem fown_0 {w : World} {FF FD : Nat → Prop} {f p q bt bh : Nat} {zs : List Int} {X : FX} {N : Nat} {R : Nat → Prop} {t gn go gc bd bp : Nat} {T : TX} (h : TxA w FF FD f p q bt bh zs X N R t gn go gc bd bp T) (hm : T.m < 8) :
    Calls Tryz.prog 122 #[.pointer (some ⟨t, 0, none⟩), .int .i64 0] w fun e w' => e = .returned (.int .i64 ((53 + T.m : Nat) : Int)) ∧ TxA w' FF FD f p q bt bh zs X N R t gn go gc bd bp T.next ∧ Chg (Mt t gn bd bp) w w' := by
  have HF := hid (ffresh_ok h hm)
  clear h
  go_enter Tryz.func122, Tryz.ntmps122
  go_wp2_with fail
  refine HF.out.mono ?_
  rintro e w' ⟨rfl, h1, h2⟩
  replace h1 := hid h1
  replace h2 := hid h2
  go_wp2
  go_ret
  exact ⟨rfl, h1.out, h2.out⟩
set_option maxRecDepth 100000 in
set_option maxHeartbeats 1000000 in
theorem fown_1 {w : World} {FF FD : Nat → Prop} {f p q bt bh : Nat} {zs : List Int} {X : FX} {N : Nat} {R : Nat → Prop} {t gn go gc bd bp : Nat} {T : TX} (h : TxA w FF FD f p q bt bh zs X N R t gn go gc bd bp T) (i : Int) (hi : 0 < i) :
    Calls Tryz.prog 122 #[.pointer (some ⟨t, 0, none⟩), .int .i64 i] w fun e w' => e = .returned (.int .i64 i) ∧ Chg Nil w w' := by
  have LF := h.foLoad
  have HS := hid (fun w => shared_ok w T.m i)
  obtain ⟨fo, hfo⟩ : ∃ fo, fo = foM T.m := ⟨_, rfl⟩
  rw [← hfo] at LF HS
  replace hfo := hid hfo
  have i1 : (i == 0) = false := by rw [beq_eq_false_iff_ne]; omega
  clear h hi
  go_enter Tryz.func122, Tryz.ntmps122
  go_wp2_with (first | (refine wpList_load_run LF (by rfl) (by rfl) (by rfl) ?_) | (go_at_call 200; refine (HS.out _).mono ?_; rintro e w2 ⟨rfl, c2⟩; replace c2 := hid c2))
  go_ret
  exact ⟨rfl, c2.out⟩
end Go.Proofs.YtdcbagmgflcemaaGreatDoor
namespace Go.Proofs.YtdcbagmgflcemaaGreatDoor
open Go.ChangeShapes Go.WideShapes Go.ChangeAt Go.RowKit
set_option linter.unusedVariables false
set_option linter.unusedSimpArgs false
set_option maxRecDepth 100000 in
set_option maxHeartbeats 4000000 in
theorem fwrite_any {w : World} {FF FD : Nat → Prop} {f p q bt bh : Nat} {zs : List Int} {X : FX} {N : Nat} {R : Nat → Prop} {t gn go gc bd bp : Nat} {T : TX } {T1 : TX} (h : TxA w FF FD f p q bt bh zs X N R t gn go gc bd bp T) (bn : Nat) (r7 : List Value) (h7 : r7.length = 7) (a : Option Addr) (c pt p1 : Nat) (Rn : Nat → Prop) (hB : Blk w bn 120 (r7 ++ [.slice a 1 c])) (hP : Rd w Rn 1 a 1 c [.int .i64 (pt : Int)]) (s : Sec) (hS : SecAt w R s) (hbR : ¬ R bn) (hbF : ¬ FF bn) (hbM : ¬ Mt t gn bd bp bn)
    (HO : ∀ (R' : Nat → Prop) (w' : World), TxA w' FF FD f p q bt bh zs X N R' t gn go gc bd bp T → Calls Tryz.prog 122 #[.pointer (some ⟨t, 0, none⟩), .int .i64 (pt : Int)] w' fun e w'' => e = .returned (.int .i64 (p1 : Int)) ∧ TxA w'' FF FD f p q bt bh zs X N R' t gn go gc bd bp T1 ∧ Chg (Mt t gn bd bp) w' w'') (hk : 37 ≤ p1 ∧ p1 < 53 + T1.m) (hp : p1 < 256) :
    Calls Tryz.prog 133 #[.pointer (some ⟨t, 0, none⟩), .pointer (some ⟨bn, 0, none⟩), .int .i64 0, s.val] w fun e w' => e = .returned (.tuple #[]) ∧ ∃ a' c', Blk w' bn 120 (r7 ++ [.slice a' 1 c']) ∧ Rd w' R 1 a' 1 c' [.int .i64 (p1 : Int)] ∧ TxA w' FF FD f p q bt bh zs X N R t gn go gc bd bp (T1.putS (p1 : Int) s) ∧ Chg (Or2 (Mt t gn bd bp) (One bn)) w w' := by
  have k7 : w.cell? ⟨bn, 7, none⟩ = some (.slice a 1 c) := by
    rw [hB.cell, List.getElem?_append_right (by omega), h7]; rfl
  have f7 := hB.frozen 7
  have hbl := hB.lt
  have HC := hid (clone_int _ _ _ _ _ w hP (fun u hu => by simp only [List.mem_cons, List.not_mem_nil, or_false] at hu; rw [hu]; rfl) (by omega))
  have H := hid h
  replace hB := hid hB
  replace hS := hid hS
  replace HO := hid HO
  replace hbR := hid hbR
  replace hbF := hid hbF
  replace hbM := hid hbM
  have hwf : (Lit.int .i64 (p1 : Int)).wf = true := wf_key (by omega) (by omega)
  clear h hP
  unfold Sec.val
  go_enter Tryz.func133, Tryz.ntmps133
  go_wp2_with fail
  refine HC.out.mono ?_
  rintro e w1 ⟨a1, c1, G1, rfl, q1, q2, q3⟩
  obtain ⟨g1, o1, rfl, rfl, hlt1⟩ := q1.block (by omega)
  have hg1 : w.heap.size ≤ g1 := q3 g1 rfl
  have f7' : w1.frozen? ⟨bn, 7, none⟩ = false := (hB.out.chg q2 (fun h => h)).frozen 7
  have k7' : w1.cell? ⟨bn, 7, none⟩ = some (.slice a 1 c) := (q2.cell (a := ⟨bn, 7, none⟩) hbl (fun h => h)).trans k7
  have T1' := H.out.cut q2 (L := One g1) (fun k hk => by rw [show k = g1 from hk]; exact ⟨hg1, hlt1⟩)
  have d2 : Chg (One bn) w1 (w1.setCell ⟨bn, 7, none⟩ (.slice (some ⟨g1, o1, none⟩) 1 c1)) := (Chg.refl (One bn) w1).setCell (p := ⟨bn, 7, none⟩) (.inl (show One bn bn from rfl)) _
  have hFb : ∀ k, One bn k → ¬ But R (One g1) k ∧ ¬ FF k ∧ ¬ Mt t gn bd bp k := fun k hk => by
    rw [show k = bn from hk]
    exact ⟨fun hh => hbR.out hh.1, hbF.out, hbM.out⟩
  have T2 := T1'.far d2 hFb
  have B2 : Blk (w1.setCell ⟨bn, 7, none⟩ (.slice (some ⟨g1, o1, none⟩) 1 c1)) bn 120 (r7 ++ [.slice (some ⟨g1, o1, none⟩) 1 c1]) := by
    have := (hB.out.chg q2 (fun h => h)).set 7 (.slice (some ⟨g1, o1, none⟩) 1 c1)
    rwa [List.set_append_right _ _ (by omega), h7, show 7 - 7 = 0 from rfl, List.set_cons_zero] at this
  have Q2 := q1.chg d2 (fun g hg hh => by injection hg with hg; rw [show g = bn from hh] at hg; omega)
  have C2 : Chg (Or2 (Mt t gn bd bp) (One bn)) w (w1.setCell ⟨bn, 7, none⟩ (.slice (some ⟨g1, o1, none⟩) 1 c1)) := (q2.mono (fun _ _ h => h.elim)).trans d2 (fun k _ hk => .inr hk)
  have hgF : Hid (¬ FF g1 ∧ ¬ Mt t gn bd bp g1) := hid ⟨fun hh => by have h1 := H.out.old _ hh; have h2 := H.out.new.1; have h3 := H.out.lt.1; omega, fun hh => by have h3 := H.out.lt; rcases hh with hh | hh | hh | hh <;> omega⟩
  clear T1' q1 q3 HC k7 d2 q2
  replace T2 := hid T2
  replace B2 := hid B2
  replace Q2 := hid Q2
  replace C2 := hid C2
  replace hFb := hid hFb
  go_upto_region 1 with fail
  generalize w1.setCell ⟨bn, 7, none⟩ (.slice (some ⟨g1, o1, none⟩) 1 c1) = V at T2 B2 Q2 C2 ⊢
  clear k7' f7' f7
  have v7 : V.drew.cell? ⟨bn, 7, none⟩ = some (.slice (some ⟨g1, o1, none⟩) 1 c1) := by
    have := B2.out.cell 7
    rwa [List.getElem?_append_right (by omega), h7] at this
  have x1 : V.drew.cell? ⟨g1, o1, none⟩ = some (.int .i64 (pt : Int)) := by
    obtain ⟨g2, o2, e2, _, _, hcell⟩ := Q2.out.rd.cellAt (by omega)
    obtain ⟨rfl, rfl⟩ : g1 = g2 ∧ o1 = o2 := by simpa using e2
    exact hcell 0 (by omega)
  have hlV : bn < V.drew.heap.size := B2.out.lt
  refine wp_region_held_drew (S := fun w' => w'.cell? ⟨bn, 7, none⟩ = some (.slice (some ⟨g1, o1, none⟩) 1 c1)) (by kernel_rfl) v7 (fun hSn => ?_)
  simp only [List.size_toArray, List.length_cons, List.length_nil, Nat.reduceAdd, Array.replicate_succ, Array.replicate_zero, List.push_toArray, List.nil_append, List.cons_append]
  refine wpAnyH_take (i := 0) (oi := { dst := some 16, op := Op.move (Operand.tmp 1), type := 253, pos := "txn.go:77", after := #[], guard := none }) (v := .pointer (some ⟨bn, 0, none⟩)) rfl (by kernel_rfl) (by kernel_rfl) (by kernel_rfl) (fun _ _ _ h => h) (Or.inl ⟨by rfl, by (intro w hSw; (try dsimp only at hSw); go_simp)⟩) (by assumption) ?_
  try simp only [Act.put, List.setIfInBounds_toArray, List.set_cons_zero, List.set_cons_succ]
  refine wpAnyH_take (i := 1) (oi := { dst := some 17, op := Op.nilCheck (Operand.tmp 16), type := 0, pos := "txn.go:77", after := #[{ on := 0, ground := Ground.data }], guard := none }) (v := .pointer (some ⟨bn, 0, none⟩)) rfl (by kernel_rfl) (by kernel_rfl) (by kernel_rfl) (fun _ _ _ h => h) (Or.inl ⟨by rfl, by (intro w hSw; (try dsimp only at hSw); go_simp)⟩) (by assumption) ?_
  try simp only [Act.put, List.setIfInBounds_toArray, List.set_cons_zero, List.set_cons_succ]
  refine wpAnyH_take (i := 2) (oi := { dst := some 18, op := Op.fieldAddr 120 (Operand.tmp 17) 7, type := 0, pos := "txn.go:77", after := #[{ on := 1, ground := Ground.data }], guard := none }) (v := .pointer (some ⟨bn, 7, none⟩)) rfl (by kernel_rfl) (by kernel_rfl) (by kernel_rfl) (fun _ _ _ h => h) (Or.inl ⟨by rfl, by (intro w hSw; (try dsimp only at hSw); go_simp)⟩) (by assumption) ?_
  try simp only [Act.put, List.setIfInBounds_toArray, List.set_cons_zero, List.set_cons_succ]
  refine wpAnyH_take (i := 3) (oi := { dst := some 19, op := Op.load 53 (Operand.tmp 18), type := 53, pos := "txn.go:77", after := #[{ on := 2, ground := Ground.data }], guard := none }) (v := .slice (some ⟨g1, o1, none⟩) 1 c1) rfl (by kernel_rfl) (by kernel_rfl) (by kernel_rfl) (fun _ _ _ h => h) (Or.inl ⟨by rfl, by (intro w hSw; (try dsimp only at hSw); go_simp)⟩) (by assumption) ?_
  try simp only [Act.put, List.setIfInBounds_toArray, List.set_cons_zero, List.set_cons_succ]
  refine wpAnyH_take (i := 4) (oi := { dst := some 20, op := Op.move (Operand.tmp 2), type := 3, pos := "txn.go:77", after := #[], guard := none }) (v := .int .i64 0) rfl (by kernel_rfl) (by kernel_rfl) (by kernel_rfl) (fun _ _ _ h => h) (Or.inl ⟨by rfl, by (intro w hSw; (try dsimp only at hSw); go_simp)⟩) (by assumption) ?_
  try simp only [Act.put, List.setIfInBounds_toArray, List.set_cons_zero, List.set_cons_succ]
  refine wpAnyH_take (i := 5) (oi := { dst := some 21, op := Op.move (Operand.tmp 0), type := 139, pos := "txn.go:77", after := #[], guard := none }) (v := .pointer (some ⟨t, 0, none⟩)) rfl (by kernel_rfl) (by kernel_rfl) (by kernel_rfl) (fun _ _ _ h => h) (Or.inl ⟨by rfl, by (intro w hSw; (try dsimp only at hSw); go_simp)⟩) (by assumption) ?_
  try simp only [Act.put, List.setIfInBounds_toArray, List.set_cons_zero, List.set_cons_succ]
  refine wpAnyH_take (i := 6) (oi := { dst := some 22, op := Op.move (Operand.tmp 1), type := 253, pos := "txn.go:77", after := #[], guard := none }) (v := .pointer (some ⟨bn, 0, none⟩)) rfl (by kernel_rfl) (by kernel_rfl) (by kernel_rfl) (fun _ _ _ h => h) (Or.inl ⟨by rfl, by (intro w hSw; (try dsimp only at hSw); go_simp)⟩) (by assumption) ?_
  try simp only [Act.put, List.setIfInBounds_toArray, List.set_cons_zero, List.set_cons_succ]
  refine wpAnyH_take (i := 7) (oi := { dst := some 23, op := Op.nilCheck (Operand.tmp 22), type := 0, pos := "txn.go:77", after := #[{ on := 6, ground := Ground.data }], guard := none }) (v := .pointer (some ⟨bn, 0, none⟩)) rfl (by kernel_rfl) (by kernel_rfl) (by kernel_rfl) (fun _ _ _ h => h) (Or.inl ⟨by rfl, by (intro w hSw; (try dsimp only at hSw); go_simp)⟩) (by assumption) ?_
  try simp only [Act.put, List.setIfInBounds_toArray, List.set_cons_zero, List.set_cons_succ]
  refine wpAnyH_take (i := 8) (oi := { dst := some 24, op := Op.fieldAddr 120 (Operand.tmp 23) 7, type := 0, pos := "txn.go:77", after := #[{ on := 7, ground := Ground.data }], guard := none }) (v := .pointer (some ⟨bn, 7, none⟩)) rfl (by kernel_rfl) (by kernel_rfl) (by kernel_rfl) (fun _ _ _ h => h) (Or.inl ⟨by rfl, by (intro w hSw; (try dsimp only at hSw); go_simp)⟩) (by assumption) ?_
  try simp only [Act.put, List.setIfInBounds_toArray, List.set_cons_zero, List.set_cons_succ]
  refine wpAnyH_take (i := 9) (oi := { dst := some 25, op := Op.load 53 (Operand.tmp 24), type := 53, pos := "txn.go:77", after := #[{ on := 8, ground := Ground.data }], guard := none }) (v := .slice (some ⟨g1, o1, none⟩) 1 c1) rfl (by kernel_rfl) (by kernel_rfl) (by kernel_rfl) (fun _ _ _ h => h) (Or.inl ⟨by rfl, by (intro w hSw; (try dsimp only at hSw); go_simp)⟩) (by assumption) ?_
  try simp only [Act.put, List.setIfInBounds_toArray, List.set_cons_zero, List.set_cons_succ]
  refine wpAnyH_take (i := 10) (oi := { dst := some 26, op := Op.move (Operand.tmp 2), type := 3, pos := "txn.go:77", after := #[], guard := none }) (v := .int .i64 0) rfl (by kernel_rfl) (by kernel_rfl) (by kernel_rfl) (fun _ _ _ h => h) (Or.inl ⟨by rfl, by (intro w hSw; (try dsimp only at hSw); go_simp)⟩) (by assumption) ?_
  try simp only [Act.put, List.setIfInBounds_toArray, List.set_cons_zero, List.set_cons_succ]
  refine wpAnyH_take (i := 11) (oi := { dst := some 27, op := Op.indexAddr 53 (Operand.tmp 25) (Operand.tmp 26), type := 0, pos := "txn.go:77", after := #[{ on := 9, ground := Ground.data }, { on := 10, ground := Ground.data }], guard := none }) (v := .pointer (some ⟨g1, o1, none⟩)) rfl (by kernel_rfl) (by kernel_rfl) (by kernel_rfl) (fun _ _ _ h => h) (Or.inl ⟨by rfl, by (intro w hSw; (try dsimp only at hSw); go_simp)⟩) (by assumption) ?_
  try simp only [Act.put, List.setIfInBounds_toArray, List.set_cons_zero, List.set_cons_succ]
  refine wpAnyH_ready (rs := [12]) (by kernel_rfl) (by simp) ?_
  refine AllReadyH.cons (o := { dst := some 28, op := Op.load 3 (Operand.tmp 27), type := 3, pos := "txn.go:77", after := #[{ on := 11, ground := Ground.data }], guard := none }) rfl (fun K hK => ?_) AllReadyH.nil
  go_simp
  refine hK.out _ _ hSn (fun hSn => ?_)
  clear hK K
  try simp only [Act.put, List.setIfInBounds_toArray, List.set_cons_zero, List.set_cons_succ]
  refine wpAnyH_ready (rs := [13]) (by kernel_rfl) (by simp) ?_
  refine AllReadyH.cons (o := { dst := some 29, op := Op.call { callee := Callee.value (Operand.func 122), args := #[Operand.tmp 21, Operand.tmp 28], argTypes := #[139, 3] }, type := 3, pos := "txn.go:77", after := #[{ on := 5, ground := Ground.data }, { on := 12, ground := Ground.data }], guard := none }) rfl (fun K hK => ?_) AllReadyH.nil
  go_simp
  go_at_call 122
  refine (HO.out _ _ (T2.out.nil (Chg.refl Nil V).drew)).mono ?_
  rintro e w2 ⟨rfl, T3, c3⟩
  have v73 : w2.cell? ⟨bn, 7, none⟩ = some (.slice (some ⟨g1, o1, none⟩) 1 c1) := (c3.cell (a := ⟨bn, 7, none⟩) hlV hbM.out).trans v7
  refine hK.out _ _ v73 (fun hSn => ?_)
  clear hK K
  try simp only [Act.put, List.setIfInBounds_toArray, List.set_cons_zero, List.set_cons_succ]
  have Q3 := Q2.out.chg ((Chg.refl (Mt t gn bd bp) V).drew.trans c3 (fun _ _ h => h)) (fun g hg hh => by injection hg with hg; rw [← hg] at hh; exact hgF.out.2 hh)
  have x3 : (w2.cell? ⟨g1, o1, none⟩) = some (.int .i64 (pt : Int)) := by
    obtain ⟨g2, o2, e2, _, _, hcell⟩ := Q3.rd.cellAt (by omega)
    obtain ⟨rfl, rfl⟩ : g1 = g2 ∧ o1 = o2 := by simpa using e2
    exact hcell 0 (by omega)
  have y3 : w2.frozen? ⟨g1, o1, none⟩ = false := Q3.unfrozen (i := 0) (by omega)
  have Q4 := Q3.put (i := 0) (by omega) (.int .i64 (p1 : Int))
  rw [Nat.add_zero, List.set_cons_zero] at Q4
  have d4 : Chg (One g1) w2 (w2.setCell ⟨g1, o1, none⟩ (.int .i64 (p1 : Int))) := (Chg.refl (One g1) w2).setCell (p := ⟨g1, o1, none⟩) (.inl (show One g1 g1 from rfl)) _
  have T4 := T3.far d4 (fun k hk => by rw [show k = g1 from hk]; exact ⟨fun hh => hh.2 rfl, hgF.out.1, hgF.out.2⟩)
  have hne : bn ≠ g1 := by omega
  have B4 := ((B2.out.drew).chg c3 hbM.out).chg d4 (fun hh => hne hh)
  have C4 : Chg (Or2 (Mt t gn bd bp) (One bn)) w (w2.setCell ⟨g1, o1, none⟩ (.int .i64 (p1 : Int))) := ((C2.out.drew).trans c3 (fun k _ hk => .inl hk)).one (.inr hg1) d4
  have v74 : (w2.setCell ⟨g1, o1, none⟩ (.int .i64 (p1 : Int))).cell? ⟨bn, 7, none⟩ = some (.slice (some ⟨g1, o1, none⟩) 1 c1) := by
    have := B4.cell 7
    rwa [List.getElem?_append_right (by omega), h7] at this
  clear Q3 d4 T3 c3 v7 v73 x1
  replace Q4 := hid Q4
  replace T4 := hid T4
  replace B4 := hid B4
  replace C4 := hid C4
  refine wpAnyH_take (i := 14) (oi := { dst := some 30, op := Op.indexAddr 53 (Operand.tmp 19) (Operand.tmp 20), type := 0, pos := "txn.go:77", after := #[{ on := 3, ground := Ground.data }, { on := 4, ground := Ground.data }, { on := 0, ground := Ground.phase }, { on := 1, ground := Ground.phase }, { on := 2, ground := Ground.phase }, { on := 3, ground := Ground.phase }, { on := 4, ground := Ground.phase }, { on := 5, ground := Ground.phase }, { on := 6, ground := Ground.phase }, { on := 7, ground := Ground.phase }, { on := 8, ground := Ground.phase }, { on := 9, ground := Ground.phase }, { on := 10, ground := Ground.phase }, { on := 11, ground := Ground.phase }, { on := 12, ground := Ground.phase }, { on := 13, ground := Ground.phase }], guard := none }) (v := .pointer (some ⟨g1, o1, none⟩)) rfl (by kernel_rfl) (by kernel_rfl) (by kernel_rfl) (fun _ _ _ h => h) (Or.inl ⟨by rfl, by (intro w hSw; (try dsimp only at hSw); go_simp)⟩) (by assumption) ?_
  try simp only [Act.put, List.setIfInBounds_toArray, List.set_cons_zero, List.set_cons_succ]
  refine wpAnyH_ready (rs := [15]) (by kernel_rfl) (by simp) ?_
  refine AllReadyH.cons (o := { dst := none, op := Op.store 3 (Operand.tmp 30) (Operand.tmp 29), type := 0, pos := "txn.go:77", after := #[{ on := 14, ground := Ground.data }, { on := 13, ground := Ground.data }, { on := 13, ground := Ground.chain }, { on := 0, ground := Ground.phase }, { on := 1, ground := Ground.phase }, { on := 2, ground := Ground.phase }, { on := 3, ground := Ground.phase }, { on := 4, ground := Ground.phase }, { on := 5, ground := Ground.phase }, { on := 6, ground := Ground.phase }, { on := 7, ground := Ground.phase }, { on := 8, ground := Ground.phase }, { on := 9, ground := Ground.phase }, { on := 10, ground := Ground.phase }, { on := 11, ground := Ground.phase }, { on := 12, ground := Ground.phase }, { on := 13, ground := Ground.phase }], guard := none }) rfl (fun K hK => ?_) AllReadyH.nil
  go_simp
  refine hK.out _ _ v74 (fun hSn => ?_)
  clear hK K
  try simp only [Act.put, List.setIfInBounds_toArray, List.set_cons_zero, List.set_cons_succ]
  refine wpAnyH_done (by kernel_rfl) ?_ _
  clear hSn x3 y3
  go_upto_region 2 with fail
  generalize w2.setCell ⟨g1, o1, none⟩ (.int .i64 (p1 : Int)) = V4 at Q4 T4 B4 C4 v74 ⊢
  have t196 : V4.drew.cell? ⟨t, 196, none⟩ = some (.map (some bp)) := T4.out.c196
  have x4 : V4.drew.cell? ⟨g1, o1, none⟩ = some (.int .i64 (p1 : Int)) := by
    obtain ⟨g2, o2, e2, _, _, hcell⟩ := Q4.out.rd.cellAt (by omega)
    obtain ⟨rfl, rfl⟩ : g1 = g2 ∧ o1 = o2 := by simpa using e2
    exact hcell 0 (by omega)
  have v75 : V4.drew.cell? ⟨bn, 7, none⟩ = some (.slice (some ⟨g1, o1, none⟩) 1 c1) := v74
  obtain ⟨W, hrun, hm5, d5⟩ := (T4.out.nil (Chg.refl Nil V4).drew).put.store (t := 134) (e := 22) Tryz.underlying3 Tryz.underlying134 (by omega) (p1 : Int) hwf (.slice s.a 64 s.c)
  have hbpn : ¬ Mt t gn bd bp bn := hbM.out
  have t1965 : W.cell? ⟨t, 196, none⟩ = some (.map (some bp)) := (d5.cell (a := ⟨t, 196, none⟩) T4.out.lt.1 (fun hh => T4.out.ne.2.2.1 hh)).trans t196
  have v755 : W.cell? ⟨bn, 7, none⟩ = some (.slice (some ⟨g1, o1, none⟩) 1 c1) := (d5.cell (a := ⟨bn, 7, none⟩) B4.out.lt (fun hh => hbpn (.inr (.inr (.inr hh))))).trans v75
  have x5 : W.cell? ⟨g1, o1, none⟩ = some (.int .i64 (p1 : Int)) := (d5.cell (a := ⟨g1, o1, none⟩) (Q4.out.lt g1 rfl) (fun hh => hgF.out.2 (.inr (.inr (.inr hh))))).trans x4
  have SD : SecAt V4.drew (But R (One g1)) s := by
    have h1 := (Rd.low hS.out).chg C4.out (fun g hg hR hh => by
      rcases hh with hh | hh
      · exact H.out.nr g hR.1 hh
      · exact hbR.out (by rw [← show g = bn from hh]; exact hR.1))
    exact h1.mono (fun k hk => ⟨hk.1, fun hh => by rw [show k = g1 from hh] at hk; omega⟩)
  obtain ⟨T5, C5⟩ := (T4.out.nil (Chg.refl Nil V4).drew).setPut (k := (p1 : Int)) (s := s) (.inr (by omega)) SD _ hm5 d5
  have TF := hid (T5.grow H.out (Nat.le_trans C4.out.size C5.size))
  have BF := hid (Blk.chg (B4.out.drew) C5 hbpn)
  have hRg : R g1 := H.out.rup g1 (.inr hg1)
  have QF : Hid (Rd W R 1 (some ⟨g1, o1, none⟩) 1 c1 [.int .i64 (p1 : Int)]) := hid ((Q4.out.chg ((Chg.refl (Mt t gn bd bp) V4).drew.trans C5 (fun _ _ h => h)) (fun g hg hh => by injection hg with hg; rw [← hg] at hh; exact hgF.out.2 hh)).rd.mono (fun k hk => by injection hk with hk; rw [← hk]; exact hRg))
  have CF := hid ((C4.out.drew).trans C5 (fun k _ hk => .inl hk))
  clear T5 C5 SD hm5 d5 v74
  refine wp_region_held_drew (S := fun w' => w'.cell? ⟨t, 196, none⟩ = some (.map (some bp)) ∧ w'.cell? ⟨bn, 7, none⟩ = some (.slice (some ⟨g1, o1, none⟩) 1 c1) ∧ w'.cell? ⟨g1, o1, none⟩ = some (.int .i64 (p1 : Int))) (by kernel_rfl) ⟨t196, v75, x4⟩ (fun hSn => ?_)
  simp only [List.size_toArray, List.length_cons, List.length_nil, Nat.reduceAdd, Array.replicate_succ, Array.replicate_zero, List.push_toArray, List.nil_append, List.cons_append]
  refine wpAnyH_take (i := 0) (oi := { dst := some 31, op := Op.move (Operand.tmp 0), type := 139, pos := "txn.go:78", after := #[], guard := none }) (v := .pointer (some ⟨t, 0, none⟩)) rfl (by kernel_rfl) (by kernel_rfl) (by kernel_rfl) (fun _ _ _ h => h) (Or.inl ⟨by rfl, by (intro w hSw; (try dsimp only at hSw); go_simp)⟩) (by assumption) ?_
  try simp only [Act.put, List.setIfInBounds_toArray, List.set_cons_zero, List.set_cons_succ]
  refine wpAnyH_take (i := 1) (oi := { dst := some 32, op := Op.nilCheck (Operand.tmp 31), type := 0, pos := "txn.go:78", after := #[{ on := 0, ground := Ground.data }], guard := none }) (v := .pointer (some ⟨t, 0, none⟩)) rfl (by kernel_rfl) (by kernel_rfl) (by kernel_rfl) (fun _ _ _ h => h) (Or.inl ⟨by rfl, by (intro w hSw; (try dsimp only at hSw); go_simp)⟩) (by assumption) ?_
  try simp only [Act.put, List.setIfInBounds_toArray, List.set_cons_zero, List.set_cons_succ]
  refine wpAnyH_take (i := 2) (oi := { dst := some 33, op := Op.fieldAddr 244 (Operand.tmp 32) 5, type := 0, pos := "txn.go:78", after := #[{ on := 1, ground := Ground.data }], guard := none }) (v := .pointer (some ⟨t, 196, none⟩)) rfl (by kernel_rfl) (by kernel_rfl) (by kernel_rfl) (fun _ _ _ h => h) (Or.inl ⟨by rfl, by (intro w hSw; (try dsimp only at hSw); go_simp)⟩) (by assumption) ?_
  try simp only [Act.put, List.setIfInBounds_toArray, List.set_cons_zero, List.set_cons_succ]
  refine wpAnyH_take (i := 3) (oi := { dst := some 34, op := Op.load 134 (Operand.tmp 33), type := 134, pos := "txn.go:78", after := #[{ on := 2, ground := Ground.data }], guard := none }) (v := .map (some bp)) rfl (by kernel_rfl) (by kernel_rfl) (by kernel_rfl) (fun _ _ _ h => h) (Or.inl ⟨by rfl, by (intro w hSw; (try dsimp only at hSw); go_simp)⟩) (by assumption) ?_
  try simp only [Act.put, List.setIfInBounds_toArray, List.set_cons_zero, List.set_cons_succ]
  refine wpAnyH_take (i := 4) (oi := { dst := some 35, op := Op.move (Operand.tmp 1), type := 253, pos := "txn.go:78", after := #[], guard := none }) (v := .pointer (some ⟨bn, 0, none⟩)) rfl (by kernel_rfl) (by kernel_rfl) (by kernel_rfl) (fun _ _ _ h => h) (Or.inl ⟨by rfl, by (intro w hSw; (try dsimp only at hSw); go_simp)⟩) (by assumption) ?_
  try simp only [Act.put, List.setIfInBounds_toArray, List.set_cons_zero, List.set_cons_succ]
  refine wpAnyH_take (i := 5) (oi := { dst := some 36, op := Op.nilCheck (Operand.tmp 35), type := 0, pos := "txn.go:78", after := #[{ on := 4, ground := Ground.data }], guard := none }) (v := .pointer (some ⟨bn, 0, none⟩)) rfl (by kernel_rfl) (by kernel_rfl) (by kernel_rfl) (fun _ _ _ h => h) (Or.inl ⟨by rfl, by (intro w hSw; (try dsimp only at hSw); go_simp)⟩) (by assumption) ?_
  try simp only [Act.put, List.setIfInBounds_toArray, List.set_cons_zero, List.set_cons_succ]
  refine wpAnyH_take (i := 6) (oi := { dst := some 37, op := Op.fieldAddr 120 (Operand.tmp 36) 7, type := 0, pos := "txn.go:78", after := #[{ on := 5, ground := Ground.data }], guard := none }) (v := .pointer (some ⟨bn, 7, none⟩)) rfl (by kernel_rfl) (by kernel_rfl) (by kernel_rfl) (fun _ _ _ h => h) (Or.inl ⟨by rfl, by (intro w hSw; (try dsimp only at hSw); go_simp)⟩) (by assumption) ?_
  try simp only [Act.put, List.setIfInBounds_toArray, List.set_cons_zero, List.set_cons_succ]
  refine wpAnyH_take (i := 7) (oi := { dst := some 38, op := Op.load 53 (Operand.tmp 37), type := 53, pos := "txn.go:78", after := #[{ on := 6, ground := Ground.data }], guard := none }) (v := .slice (some ⟨g1, o1, none⟩) 1 c1) rfl (by kernel_rfl) (by kernel_rfl) (by kernel_rfl) (fun _ _ _ h => h) (Or.inl ⟨by rfl, by (intro w hSw; (try dsimp only at hSw); go_simp)⟩) (by assumption) ?_
  try simp only [Act.put, List.setIfInBounds_toArray, List.set_cons_zero, List.set_cons_succ]
  refine wpAnyH_take (i := 8) (oi := { dst := some 39, op := Op.move (Operand.tmp 2), type := 3, pos := "txn.go:78", after := #[], guard := none }) (v := .int .i64 0) rfl (by kernel_rfl) (by kernel_rfl) (by kernel_rfl) (fun _ _ _ h => h) (Or.inl ⟨by rfl, by (intro w hSw; (try dsimp only at hSw); go_simp)⟩) (by assumption) ?_
  try simp only [Act.put, List.setIfInBounds_toArray, List.set_cons_zero, List.set_cons_succ]
  refine wpAnyH_take (i := 9) (oi := { dst := some 40, op := Op.indexAddr 53 (Operand.tmp 38) (Operand.tmp 39), type := 0, pos := "txn.go:78", after := #[{ on := 7, ground := Ground.data }, { on := 8, ground := Ground.data }], guard := none }) (v := .pointer (some ⟨g1, o1, none⟩)) rfl (by kernel_rfl) (by kernel_rfl) (by kernel_rfl) (fun _ _ _ h => h) (Or.inl ⟨by rfl, by (intro w hSw; (try dsimp only at hSw); go_simp)⟩) (by assumption) ?_
  try simp only [Act.put, List.setIfInBounds_toArray, List.set_cons_zero, List.set_cons_succ]
  refine wpAnyH_take (i := 10) (oi := { dst := some 41, op := Op.load 3 (Operand.tmp 40), type := 3, pos := "txn.go:78", after := #[{ on := 9, ground := Ground.data }], guard := none }) (v := .int .i64 (p1 : Int)) rfl (by kernel_rfl) (by kernel_rfl) (by kernel_rfl) (fun _ _ _ h => h) (Or.inl ⟨by rfl, by (intro w hSw; (try dsimp only at hSw); go_simp)⟩) (by assumption) ?_
  try simp only [Act.put, List.setIfInBounds_toArray, List.set_cons_zero, List.set_cons_succ]
  refine wpAnyH_take (i := 11) (oi := { dst := some 42, op := Op.move (Operand.tmp 3), type := 22, pos := "txn.go:78", after := #[], guard := none }) (v := .slice s.a 64 s.c) rfl (by kernel_rfl) (by kernel_rfl) (by kernel_rfl) (fun _ _ _ h => h) (Or.inl ⟨by rfl, by (intro w hSw; (try dsimp only at hSw); go_simp)⟩) (by assumption) ?_
  try simp only [Act.put, List.setIfInBounds_toArray, List.set_cons_zero, List.set_cons_succ]
  refine wpAnyH_ready (rs := [12]) (by kernel_rfl) (by simp) ?_
  refine AllReadyH.cons (o := { dst := none, op := Op.mapUpdate 134 (Operand.tmp 34) (Operand.tmp 41) (Operand.tmp 42), type := 0, pos := "txn.go:78", after := #[{ on := 3, ground := Ground.data }, { on := 10, ground := Ground.data }, { on := 11, ground := Ground.data }, { on := 0, ground := Ground.phase }, { on := 1, ground := Ground.phase }, { on := 2, ground := Ground.phase }, { on := 3, ground := Ground.phase }, { on := 4, ground := Ground.phase }, { on := 5, ground := Ground.phase }, { on := 6, ground := Ground.phase }, { on := 7, ground := Ground.phase }, { on := 8, ground := Ground.phase }, { on := 9, ground := Ground.phase }, { on := 10, ground := Ground.phase }, { on := 11, ground := Ground.phase }], guard := none }) rfl (fun K hK => ?_) AllReadyH.nil
  refine step_map_run hrun (by rfl) (by rfl) (by rfl) (by rfl) (by rfl) ?_
  refine hK.out _ _ ⟨t1965, v755, x5⟩ (fun hSn => ?_)
  clear hK K
  refine wpAnyH_done (by kernel_rfl) ?_ _
  clear t196 v75 x4 t1965 v755 x5 hrun hSn
  go_wp2
  go_end0
  exact ⟨rfl, _, _, BF.out, QF.out, TF.out, CF.out⟩
theorem fwrite_0 {w : World} {FF FD : Nat → Prop} {f p q bt bh : Nat} {zs : List Int} {X : FX} {N : Nat} {R : Nat → Prop} {t gn go gc bd bp : Nat} {T : TX} (h : TxA w FF FD f p q bt bh zs X N R t gn go gc bd bp T) (hm : T.m < 8) (bn : Nat) (r7 : List Value) (h7 : r7.length = 7) (a : Option Addr) (c : Nat) (Rn : Nat → Prop) (hB : Blk w bn 120 (r7 ++ [.slice a 1 c])) (hP : Rd w Rn 1 a 1 c [.int .i64 ((0 : Nat) : Int)]) (s : Sec) (hS : SecAt w R s) (hbR : ¬ R bn) (hbF : ¬ FF bn) (hbM : ¬ Mt t gn bd bp bn) :
    Calls Tryz.prog 133 #[.pointer (some ⟨t, 0, none⟩), .pointer (some ⟨bn, 0, none⟩), .int .i64 0, s.val] w fun e w' => e = .returned (.tuple #[]) ∧ ∃ a' c', Blk w' bn 120 (r7 ++ [.slice a' 1 c']) ∧ Rd w' R 1 a' 1 c' [.int .i64 ((53 + T.m : Nat) : Int)] ∧ TxA w' FF FD f p q bt bh zs X N R t gn go gc bd bp (T.next.putS ((53 + T.m : Nat) : Int) s) ∧ Chg (Or2 (Mt t gn bd bp) (One bn)) w w' :=
  fwrite_any h bn r7 h7 a c 0 (53 + T.m) Rn hB hP s hS hbR hbF hbM (fun R' w' h' => fown_0 h' hm) ⟨by omega, by show 53 + T.m < 53 + (T.m + 1); omega⟩ (by omega)
theorem fwrite_1 {w : World} {FF FD : Nat → Prop} {f p q bt bh : Nat} {zs : List Int} {X : FX} {N : Nat} {R : Nat → Prop} {t gn go gc bd bp : Nat} {T : TX} (h : TxA w FF FD f p q bt bh zs X N R t gn go gc bd bp T) (bn : Nat) (r7 : List Value) (h7 : r7.length = 7) (a : Option Addr) (c pt : Nat) (hk : 37 ≤ pt ∧ pt < 53 + T.m) (Rn : Nat → Prop) (hB : Blk w bn 120 (r7 ++ [.slice a 1 c])) (hP : Rd w Rn 1 a 1 c [.int .i64 (pt : Int)]) (s : Sec) (hS : SecAt w R s) (hbR : ¬ R bn) (hbF : ¬ FF bn) (hbM : ¬ Mt t gn bd bp bn) :
    Calls Tryz.prog 133 #[.pointer (some ⟨t, 0, none⟩), .pointer (some ⟨bn, 0, none⟩), .int .i64 0, s.val] w fun e w' => e = .returned (.tuple #[]) ∧ ∃ a' c', Blk w' bn 120 (r7 ++ [.slice a' 1 c']) ∧ Rd w' R 1 a' 1 c' [.int .i64 (pt : Int)] ∧ TxA w' FF FD f p q bt bh zs X N R t gn go gc bd bp (T.putS (pt : Int) s) ∧ Chg (Or2 (Mt t gn bd bp) (One bn)) w w' :=
  fwrite_any h bn r7 h7 a c pt pt Rn hB hP s hS hbR hbF hbM (fun R' w' h' => (fown_1 h' (pt : Int) (by omega)).mono (fun e w'' ⟨h1, h2⟩ => ⟨h1, h'.nil h2, h2.mono (fun _ _ h => h.elim)⟩)) hk (by have := h.mle; omega)
end Go.Proofs.YtdcbagmgflcemaaGreatDoor
namespace Go.Proofs.YtdcbagmgflcemaaGreatDoor
open Go.ChangeShapes Go.WideShapes Go.ChangeAt Go.RowKit
set_option linter.unusedVariables false
set_option maxRecDepth 100000 in
set_option maxHeartbeats 1000000 in
theorem fsec_ok {w : World} {FF FD : Nat → Prop} {f p q bt bh : Nat} {zs : List Int} {X : FX} {N : Nat} {R : Nat → Prop} {t gn go gc bd bp : Nat} {T : TX} (h : TxA w FF FD f p q bt bh zs X N R t gn go gc bd bp T) (n : Nat) (hn : n < 256) (hp : T.pu (n : Int) = none) :
    Calls Tryz.prog 213 #[.pointer (some ⟨t, 0, none⟩), .int .i64 (n : Int)] w fun e w' => ∃ a c G, e = .returned (.slice a 64 c) ∧ Sl w' 5 1 a 64 c (bys (X.sec zs n)) G ∧ Chg Nil w w' ∧ ∀ g, G = some g → w.heap.size ≤ g := by
  have k0 := h.c0
  have k1 := h.c196
  have hwf : (Lit.int .i64 (n : Int)).wf = true := wf_key (by omega) (by omega)
  have HL := h.put.look_ok (t := 134) (e := 22) (z := .slice none 0 0) Tryz.underlying3 Tryz.underlying134 (by kernel_rfl) (n : Int) hwf
  unfold secM at HL
  rw [hp] at HL
  simp only [Option.map_none, Option.getD_none, Option.isSome_none] at HL
  have HS := hid (fsector_ok h.fs n hn (n : Int) rfl)
  clear h hp hwf
  go_enter Tryz.func213, Tryz.ntmps213
  go_wp2_with fail
  refine HS.out.mono ?_
  rintro e w' ⟨a, c, G, rfl, q1, q2, q3⟩
  replace q1 := hid q1
  replace q2 := hid q2
  replace q3 := hid q3
  clear HL k0 k1 HS
  go_wp2
  go_ret
  exact ⟨a, c, G, rfl, q1.out, q2.out, q3.out⟩
set_option maxRecDepth 100000 in
set_option maxHeartbeats 1000000 in
theorem fblock_0 (w : World) (v : Value) (r7 : List Value) (h7 : r7.length = 7) (a : Option Addr) (c : Nat) (Rn : Nat → Prop) (hP : Rd w Rn 1 a 1 c [.int .i64 0]) :
    Calls Tryz.prog 132 #[v, .agg (r7 ++ [Value.slice a 1 c]).toArray, .int .i64 0] w fun e w' => e = .returned (.slice (some ⟨w.heap.size + 1, 0, none⟩) 64 64) ∧ Sl w' 5 1 (some ⟨w.heap.size + 1, 0, none⟩) 64 64 (zr 64) (some (w.heap.size + 1)) ∧ Chg Nil w w' := by
  have hmk := mk_bytes 64 (by omega) 64 rfl
  obtain ⟨cs, hcs⟩ : ∃ cs, cs = r7 ++ [Value.slice a 1 c] := ⟨_, rfl⟩
  have B0 := Blk.new w 120 cs
  have k7 : (w.alloc (.cells cs.toArray 120)).cell? ⟨w.heap.size, 7, none⟩ = some (.slice a 1 c) := by
    rw [B0.cell, hcs, List.getElem?_append_right (by omega), h7]; rfl
  obtain ⟨g1, o1, rfl, _, _, hcell⟩ := (hP.alloc (.cells cs.toArray 120)).cellAt (by omega)
  have x1 := hcell 0 (by omega)
  rw [Nat.add_zero, List.getElem?_cons_zero] at x1
  have S1 := zr_sl (w.alloc (.cells cs.toArray 120)) 64 (by omega)
  rw [alloc_size] at S1
  rw [← hcs]
  replace S1 := hid S1
  replace hcs := hid hcs
  clear hcell hP B0
  go_enter Tryz.func132, Tryz.ntmps132
  go_wp2
  go_ret
  exact ⟨by simp, S1.out, ((Chg.refl Nil w).alloc _).alloc _⟩
set_option maxRecDepth 100000 in
set_option maxHeartbeats 1000000 in
theorem fblock_1 {w : World} {FF FD : Nat → Prop} {f p q bt bh : Nat} {zs : List Int} {X : FX} {N : Nat} {R : Nat → Prop} {t gn go gc bd bp : Nat} {T : TX} (h : TxA w FF FD f p q bt bh zs X N R t gn go gc bd bp T) (r7 : List Value) (h7 : r7.length = 7) (a : Option Addr) (c pt : Nat) (Rn : Nat → Prop) (hP : Rd w Rn 1 a 1 c [.int .i64 (pt : Int)]) (h0 : 0 < pt) (h1 : pt < 256) (hp : T.pu (pt : Int) = none) :
    Calls Tryz.prog 132 #[.pointer (some ⟨t, 0, none⟩), .agg (r7 ++ [Value.slice a 1 c]).toArray, .int .i64 0] w fun e w' => ∃ a c G, e = .returned (.slice a 64 c) ∧ Sl w' 5 1 a 64 c (bys (X.sec zs pt)) G ∧ Chg Nil w w' ∧ ∀ g, G = some g → w.heap.size ≤ g := by
  obtain ⟨cs, hcs⟩ : ∃ cs, cs = r7 ++ [Value.slice a 1 c] := ⟨_, rfl⟩
  have B0 := Blk.new w 120 cs
  have C0 : Chg Nil w (w.alloc (.cells cs.toArray 120)) := (Chg.refl Nil w).alloc _
  have k7 : (w.alloc (.cells cs.toArray 120)).cell? ⟨w.heap.size, 7, none⟩ = some (.slice a 1 c) := by
    rw [B0.cell, hcs, List.getElem?_append_right (by omega), h7]; rfl
  obtain ⟨g1, o1, rfl, _, _, hcell⟩ := (hP.alloc (.cells cs.toArray 120)).cellAt (by omega)
  have x1 := hcell 0 (by omega)
  rw [Nat.add_zero, List.getElem?_cons_zero] at x1
  have HS := hid (fsec_ok (h.nil C0) pt h1 hp)
  have i1 : ((pt : Int) == 0) = false := by rw [beq_eq_false_iff_ne]; omega
  rw [← hcs]
  replace hcs := hid hcs
  replace C0 := hid C0
  clear hcell hP B0 h
  go_enter Tryz.func132, Tryz.ntmps132
  go_wp2_with fail
  refine HS.out.mono ?_
  rintro e w' ⟨a2, c2, G, rfl, q1, q2, q3⟩
  replace q1 := hid q1
  replace q2 := hid q2
  replace q3 := hid q3
  clear HS k7 x1
  go_wp2
  go_ret
  exact ⟨a2, c2, G, rfl, q1.out, C0.out.trans q2.out (fun _ _ h => h), fun g hg => Nat.le_trans C0.out.size (q3.out g hg)⟩
end Go.Proofs.YtdcbagmgflcemaaGreatDoor
