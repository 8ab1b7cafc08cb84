/- The kernel is asked. Conditions: a process that lives, does not sleep, and to which no signal came · Package mode, and cred.Check, for the first user with all capabilities. Conditions: a directory of mode 493, or a file of mode 420; rights that are asked here · Package mode: May, for the first user with all capabilities. Conditions: a directory or a file whose mode is a mode; rights that capabilities give · What capabilities leave of rights that are wanted: nothing. No program is walked here; no condition · kernel.Start on a new file system. Conditions: just that. -/
import Derived.Test.YtdcbagmgflcemaaGreatDoorZ26
import Derived.Deep.QuietTactic
import Derived.BigQuiet
import Derived.Test.YtdcbagmgflcemaaGreatDoorZ24
namespace Go.Proofs.YtdcbagmgflcemaaGreatDoor
open Go.ChangeShapes Go.WideShapes Go.ChangeAt Go.RowKit
set_option linter.unusedVariables false
/-- An answer, apart from one block. -/
def AnQ (w : World) (B : Nat) (U : Nat → Prop) (pk : Nat) (XP : KX → Prop) (n a b : Int) (ds : List Int) (b0 : Nat) (vs : List Value) (w' : World) : Prop :=
  ∃ X sa sc G U', XP X ∧ vs = anC n a b (.slice sa ds.length sc) ∧ Sl w' 5 1 sa ds.length sc (bys ds) G ∧ G ≠ some b0 ∧ KAt w' B U' pk X ∧ ¬ U' b0 ∧ Chg U w w' ∧ Grew w.heap.size U U' ∧ w.heap.size ≤ b0
theorem AnPost.q {w V w' : World} {B pk b0 : Nat} {U : Nat → Prop} {XP : KX → Prop} {n a b : Int} {ds : List Int} {vs cs : List Value} (hV : Chg Nil w V) (h : AnPost V B U pk XP n a b ds vs w') (hb : ¬ U b0) (h1 : w.heap.size ≤ b0) (h2 : b0 < V.heap.size) (hB : Blk w' b0 33 cs) : AnQ w B U pk XP n a b ds b0 vs w' := by
  obtain ⟨X, sa, sc, G, hX, rfl, hs, U2, a1, a2, a3⟩ := h
  refine ⟨X, sa, sc, G, U2, hX, rfl, hs, hs.ne_blk hB (by decide), a1, fun hh => ?_, (hV.mono (fun _ _ h => h.elim)).trans a2 (fun _ _ h => h), fun k hk => ?_, h1⟩
  · rcases a3 b0 hh with h3 | h3
    · exact hb h3
    · omega
  · rcases a3 k hk with h3 | h3
    · exact .inl h3
    · exact .inr (Nat.le_trans hV.size h3)
theorem AnQ.far {w w' W : World} {B pk b0 : Nat} {U : Nat → Prop} {XP : KX → Prop} {n a b : Int} {ds : List Int} {vs : List Value} (h : AnQ w B U pk XP n a b ds b0 vs w') (hc : Chg (One b0) w' W) : AnQ w B U pk XP n a b ds b0 vs W := by
  obtain ⟨X, sa, sc, G, U2, hX, rfl, hs, hG, a1, hU, a2, a3, h1⟩ := h
  exact ⟨X, sa, sc, G, U2, hX, rfl, hs.chg hc (fun g hg hh => hG (by rw [hg, show g = b0 from hh])), hG, a1.chg hc (fun k hk hh => hU (by rw [← show k = b0 from hh]; exact hk)), hU, a2.one (.inr h1) hc, a3, h1⟩
theorem AnQ.post {w w' : World} {B pk b0 : Nat} {U : Nat → Prop} {XP : KX → Prop} {n a b : Int} {ds : List Int} {vs : List Value} (h : AnQ w B U pk XP n a b ds b0 vs w') : AnPost w B U pk XP n a b ds vs w' := by
  obtain ⟨X, sa, sc, G, U2, hX, rfl, hs, hG, a1, hU, a2, a3, h1⟩ := h
  exact ⟨X, sa, sc, G, hX, rfl, hs, U2, a1, a2, a3⟩
end Go.Proofs.YtdcbagmgflcemaaGreatDoor
namespace Go.Proofs.YtdcbagmgflcemaaGreatDoor
open Go.ChangeShapes Go.WideShapes Go.ChangeAt Go.RowKit
set_option linter.unusedVariables false
/-- What a node tells of itself. -/
def stV (kd md ln sz : Int) : Value := .agg #[.int .i64 kd, .int .i64 md, .int .i64 0, .int .i64 0, .int .i64 ln, .int .i64 sz]
/-- The first user, with all capabilities. -/
def crV : Value := .agg #[.int .i64 0, .int .i64 0, .slice none 0 0, .int .i64 127, .int .i64 0, .int .i64 0]
set_option maxRecDepth 100000 in
set_option maxHeartbeats 1000000 in
theorem mdcheck_ok (w : World) (kd md ln sz : Int) (h1 : 0 ≤ md) (h2 : md ≤ 511) : Calls Tryz.prog 243 #[stV kd md ln sz] w fun e w' => e = .returned (.int .i64 0) ∧ Chg Nil w w' := by
  have i1 : ¬ md < 0 := by omega
  have i2 : ¬ 511 < md := by omega
  unfold stV
  go_enter Tryz.func243, Tryz.ntmps243
  go_wp2
  go_ret
  exact ⟨rfl, (Chg.refl Nil w).alloc _⟩
set_option maxRecDepth 100000 in
set_option maxHeartbeats 1000000 in
theorem mdwanted_ok (w : World) (a b : Int) (h : (a = 1 ∧ b = 4) ∨ (a = 2 ∧ b = 2) ∨ (a = 3 ∧ b = 6) ∨ (a = 4 ∧ b = 1)) : Calls Tryz.prog 244 #[.int .i64 a] w fun e w' => e = .returned (.int .i64 b) ∧ w = w' := by
  rcases h with ⟨rfl, rfl⟩ | ⟨rfl, rfl⟩ | ⟨rfl, rfl⟩ | ⟨rfl, rfl⟩
  all_goals
    go_enter Tryz.func244, Tryz.ntmps244
    go_wp2
    go_ret
    exact ⟨by kernel_rfl, rfl⟩
set_option maxRecDepth 100000 in
set_option maxHeartbeats 1000000 in
theorem mdover_ok (w : World) (kd md ln sz a : Int) (h : (kd = 2 ∧ a = 7) ∨ (kd = 1 ∧ a = 6)) : Calls Tryz.prog 246 #[stV kd md ln sz, crV] w fun e w' => e = .returned (.int .i64 a) ∧ Chg Nil w w' := by
  unfold stV crV
  have o1 : bits BinOp.and IntKind.i64 127 1 = 1 := by kernel_rfl
  have o2 : bits BinOp.and IntKind.i64 127 2 = 2 := by kernel_rfl
  have o3 : bits BinOp.or IntKind.i64 0 4 = 4 := by kernel_rfl
  have o4 : bits BinOp.or IntKind.i64 4 1 = 5 := by kernel_rfl
  have o5 : bits BinOp.or IntKind.i64 5 2 = 7 := by kernel_rfl
  have o6 : bits BinOp.or IntKind.i64 4 2 = 6 := by kernel_rfl
  rcases h with ⟨rfl, rfl⟩ | ⟨rfl, rfl⟩
  all_goals
    go_enter Tryz.func246, Tryz.ntmps246
    go_wp2
    go_ret
    exact ⟨rfl, ((Chg.refl Nil w).alloc _).alloc _⟩
set_option maxRecDepth 100000 in
set_option maxHeartbeats 1000000 in
theorem mdbits_ok (w : World) (kd md ln sz : Int) : Calls Tryz.prog 245 #[stV kd md ln sz, crV] w fun e w' => ∃ b, e = .returned (.int .i64 b) ∧ Chg Nil w w' := by
  unfold stV crV
  go_enter Tryz.func245, Tryz.ntmps245
  go_wp2
  go_ret
  exact ⟨_, rfl, ((Chg.refl Nil w).alloc _).alloc _⟩
set_option maxRecDepth 100000 in
set_option maxHeartbeats 2000000 in
theorem crcheck_ok (w : World) : Calls Tryz.prog 186 #[crV] w fun e w' => e = .returned (.int .i64 0) ∧ Chg Nil w w' := by
  unfold crV
  obtain ⟨W, hW⟩ : ∃ W, W = (w.alloc (.cells #[.int .i64 0, .int .i64 0, .slice none 0 0, .int .i64 127, .int .i64 0, .int .i64 0] 55)).alloc (.cells #[.int .i64 0, .int .i64 0] 3) := ⟨_, rfl⟩
  have CW : Chg Nil w W := by rw [hW]; exact ((Chg.refl Nil w).alloc _).alloc _
  have BA : Blk W w.heap.size 55 [.int .i64 0, .int .i64 0, .slice none 0 0, .int .i64 127, .int .i64 0, .int .i64 0] := by rw [hW]; exact (Blk.new w _ [.int .i64 0, .int .i64 0, .slice none 0 0, .int .i64 127, .int .i64 0, .int .i64 0]).alloc _
  have BB : Blk W (w.heap.size + 1) 3 [.int .i64 0, .int .i64 0] := by
    have := Blk.new (w.alloc (.cells #[.int .i64 0, .int .i64 0, .slice none 0 0, .int .i64 127, .int .i64 0, .int .i64 0] 55)) 3 [.int .i64 0, .int .i64 0]
    rw [alloc_size] at this
    rw [hW]
    exact this
  have a2 := BA.cell 2
  have a3 := BA.cell 3
  have a4 := BA.cell 4
  have a5 := BA.cell 5
  have b0 := BB.cell 0
  have b1 := BB.cell 1
  simp only [List.getElem?_cons_succ, List.getElem?_cons_zero] at a2 a3 a4 a5 b0 b1
  replace BA := hid BA
  replace BB := hid BB
  replace CW := hid CW
  replace hW := hid hW
  go_enter Tryz.func186, Tryz.ntmps186
  go_wp2
  rw [← hW.out]
  go_loopw [13] (fun i wr => ∃ k : Nat, k ≤ 2 ∧ i = .int .i64 k ∧ Hid (wr = W)) (fun i _ => 2 - (intOf i).toNat)
  case atStart => exact ⟨0, Nat.zero_le _, rfl, rfl⟩
  case round =>
    obtain ⟨k, hk, rfl, hw⟩ := hrel
    have hw' := hw.out
    subst hw'
    clear hw
    have h3 : k = 0 ∨ k = 1 ∨ k = 2 := by omega
    rcases h3 with h3 | h3 | h3
    · subst h3
      go_wp2
      go_roundw
      case measure => simp [intOf]
      case rel => exact ⟨1, by omega, rfl, by first | exact rfl | exact hid trivial⟩
    · subst h3
      go_wp2
      go_roundw
      case measure => simp [intOf]
      case rel => exact ⟨2, by omega, rfl, by first | exact rfl | exact hid trivial⟩
    · subst h3
      go_wp2
      go_loopw [31] (fun i wq => i = .int .i64 0 ∧ Hid (wq = wr)) (fun i _ => 0)
      case atStart => exact ⟨rfl, rfl⟩
      case round =>
        obtain ⟨rfl, hw⟩ := hrel
        have hw' := hw.out
        subst hw'
        clear hw
        go_wp2
        go_ret
        exact ⟨rfl, CW.out⟩
end Go.Proofs.YtdcbagmgflcemaaGreatDoor
namespace Go.Proofs.YtdcbagmgflcemaaGreatDoor
open Go.ChangeShapes Go.WideShapes Go.ChangeAt Go.RowKit
set_option linter.unusedVariables false
set_option maxRecDepth 100000 in
set_option maxHeartbeats 4000000 in
theorem mdmay_ok (w : World) (kd md ln sz want wb ov : Int) (m1 : 0 ≤ md) (m2 : md ≤ 511) (hw : (want = 1 ∧ wb = 4) ∨ (want = 2 ∧ wb = 2) ∨ (want = 3 ∧ wb = 6) ∨ (want = 4 ∧ wb = 1)) (ho : (kd = 2 ∧ ov = 7) ∨ (kd = 1 ∧ ov = 6)) (hok : ∀ b, bits .andNot .i64 wb (bits .or .i64 b ov) = 0) :
    Calls Tryz.prog 170 #[stV kd md ln sz, crV, .int .i64 want] w fun e w' => e = .returned (.tuple #[.bool true, .int .i64 0]) ∧ Chg Nil w w' := by
  obtain ⟨W, hW⟩ : ∃ W, W = (w.alloc (.cells #[.int .i64 kd, .int .i64 md, .int .i64 0, .int .i64 0, .int .i64 ln, .int .i64 sz] 31)).alloc (.cells #[.int .i64 0, .int .i64 0, .slice none 0 0, .int .i64 127, .int .i64 0, .int .i64 0] 55) := ⟨_, rfl⟩
  have CW : Chg Nil w W := by rw [hW]; exact ((Chg.refl Nil w).alloc _).alloc _
  have BA : Blk W w.heap.size 31 [.int .i64 kd, .int .i64 md, .int .i64 0, .int .i64 0, .int .i64 ln, .int .i64 sz] := by rw [hW]; exact (Blk.new w _ [.int .i64 kd, .int .i64 md, .int .i64 0, .int .i64 0, .int .i64 ln, .int .i64 sz]).alloc _
  have BB : Blk W (w.heap.size + 1) 55 [.int .i64 0, .int .i64 0, .slice none 0 0, .int .i64 127, .int .i64 0, .int .i64 0] := by
    have := Blk.new (w.alloc (.cells #[.int .i64 kd, .int .i64 md, .int .i64 0, .int .i64 0, .int .i64 ln, .int .i64 sz] 31)) 55 [.int .i64 0, .int .i64 0, .slice none 0 0, .int .i64 127, .int .i64 0, .int .i64 0]
    rw [alloc_size] at this
    rw [hW]
    exact this
  have HC := hid (crcheck_ok W)
  replace BA := hid BA
  replace BB := hid BB
  replace CW := hid CW
  have hwr : Hid (0 ≤ want ∧ want ≤ 7) := hid (by omega)
  have w1 : ¬ want < 0 := by have := hwr.out; omega
  have w2 : ¬ 7 < want := by have := hwr.out; omega
  replace hW := hid hW
  replace hw := hid hw
  replace ho := hid ho
  unfold stV crV
  go_enter Tryz.func170, Tryz.ntmps170
  go_wp2_with fail
  rw [← hW.out]
  refine HC.out.mono ?_
  rintro e w3 ⟨rfl, c3⟩
  have BA3 := BA.out.chg c3 (fun h => h)
  have BB3 := BB.out.chg c3 (fun h => h)
  have C3 := hid (CW.out.trans c3 (fun _ _ h => h))
  have L3 := load_blk (P := Tryz.prog) (ty := 31) BA3 Tryz.underlying31 rfl (by kernel_rfl)
  replace BA3 := hid BA3
  replace BB3 := hid BB3
  clear HC c3
  go_wp2_with (refine wpList_load_run L3 (by rfl) (by rfl) (by rfl) ?_)
  refine (mdcheck_ok w3 kd md ln sz m1 m2).mono ?_
  rintro e w4 ⟨rfl, c4⟩
  have BA4 := BA3.out.chg c4 (fun h => h)
  have BB4 := BB3.out.chg c4 (fun h => h)
  have C4 := hid (C3.out.trans c4 (fun _ _ h => h))
  have HA := hid (fun w' (hc : Chg Nil w4 w') => BA4.chg hc (fun h => h))
  have HB := hid (fun w' (hc : Chg Nil w4 w') => BB4.chg hc (fun h => h))
  have p0 := BA4.cell 0
  have p1 := BA4.cell 1
  have p2 := BA4.cell 2
  have p3 := BA4.cell 3
  have p4 := BA4.cell 4
  have p5 := BA4.cell 5
  have q0 := BB4.cell 0
  have q1 := BB4.cell 1
  have q2 := BB4.cell 2
  have q3 := BB4.cell 3
  have q4 := BB4.cell 4
  have q5 := BB4.cell 5
  simp only [List.getElem?_cons_succ, List.getElem?_cons_zero] at p0 p1 p2 p3 p4 p5 q0 q1 q2 q3 q4 q5
  have HW := hid (fun w' => mdwanted_ok w' want wb hw.out)
  have HO := hid (fun w' => mdover_ok w' kd md ln sz ov ho.out)
  replace BA4 := hid BA4
  replace BB4 := hid BB4
  clear L3 c4
  go_upto_region 9 with fail
  go_region_held3 (fun w' => w'.cell? ⟨w.heap.size, 0, none⟩ = some (.int .i64 kd) ∧ w'.cell? ⟨w.heap.size, 1, none⟩ = some (.int .i64 md) ∧ w'.cell? ⟨w.heap.size, 2, none⟩ = some (.int .i64 0) ∧ w'.cell? ⟨w.heap.size, 3, none⟩ = some (.int .i64 0) ∧ w'.cell? ⟨w.heap.size, 4, none⟩ = some (.int .i64 ln) ∧ w'.cell? ⟨w.heap.size, 5, none⟩ = some (.int .i64 sz) ∧ w'.cell? ⟨w.heap.size + 1, 0, none⟩ = some (.int .i64 0) ∧ w'.cell? ⟨w.heap.size + 1, 1, none⟩ = some (.int .i64 0) ∧ w'.cell? ⟨w.heap.size + 1, 2, none⟩ = some (.slice none 0 0) ∧ w'.cell? ⟨w.heap.size + 1, 3, none⟩ = some (.int .i64 127) ∧ w'.cell? ⟨w.heap.size + 1, 4, none⟩ = some (.int .i64 0) ∧ w'.cell? ⟨w.heap.size + 1, 5, none⟩ = some (.int .i64 0)) (first | exact ⟨z0, z1, z2, z3, z4, z5, v0, v1, v2, v3, v4, v5⟩ | exact ⟨x0, x1, x2, x3, x4, x5, y0, y1, y2, y3, y4, y5⟩ | exact ⟨p0, p1, p2, p3, p4, p5, q0, q1, q2, q3, q4, q5⟩ | go_keep) (first | (go_at_call 244; (refine (HW.out _).mono ?_); rintro e w' ⟨rfl, rfl⟩) | (go_at_call 245; (refine (mdbits_ok _ kd md ln sz).mono ?_); rintro e w5 ⟨b5, rfl, c5⟩; have C5 := (Chg.refl Nil w4).drew.trans c5 (fun _ _ h => h); have X5 := HA.out w5 C5; have Y5 := HB.out w5 C5; have x0 := X5.cell 0; have x1 := X5.cell 1; have x2 := X5.cell 2; have x3 := X5.cell 3; have x4 := X5.cell 4; have x5 := X5.cell 5; have y0 := Y5.cell 0; have y1 := Y5.cell 1; have y2 := Y5.cell 2; have y3 := Y5.cell 3; have y4 := Y5.cell 4; have y5 := Y5.cell 5; simp only [List.getElem?_cons_succ, List.getElem?_cons_zero] at x0 x1 x2 x3 x4 x5 y0 y1 y2 y3 y4 y5; replace X5 := hid X5; replace Y5 := hid Y5; replace C5 := hid C5; replace c5 := hid c5) | (go_at_call 246; (refine (HO.out _).mono ?_); rintro e w6 ⟨rfl, c6⟩; have C6 := C5.out.trans c6 (fun _ _ h => h); have X6 := HA.out w6 C6; have Y6 := HB.out w6 C6; have z0 := X6.cell 0; have z1 := X6.cell 1; have z2 := X6.cell 2; have z3 := X6.cell 3; have z4 := X6.cell 4; have z5 := X6.cell 5; have v0 := Y6.cell 0; have v1 := Y6.cell 1; have v2 := Y6.cell 2; have v3 := Y6.cell 3; have v4 := Y6.cell 4; have v5 := Y6.cell 5; simp only [List.getElem?_cons_succ, List.getElem?_cons_zero] at z0 z1 z2 z3 z4 z5 v0 v1 v2 v3 v4 v5; replace X6 := hid X6; replace Y6 := hid Y6; replace C6 := hid C6; replace c6 := hid c6))
  all_goals
    have hb := hok b5
    go_wp2
    go_ret2
    exact ⟨rfl, C4.out.trans C6.out (fun _ _ h => h)⟩
end Go.Proofs.YtdcbagmgflcemaaGreatDoor
namespace Go.Proofs.YtdcbagmgflcemaaGreatDoor
open Go.ChangeShapes Go.WideShapes Go.ChangeAt Go.RowKit
set_option linter.unusedVariables false
theorem an_vec (x b y : BitVec 64) (h : x &&& ~~~y = 0#64) : x &&& ~~~(b ||| y) = 0#64 := by
  rw [BitVec.not_or, BitVec.and_comm (~~~b), ← BitVec.and_assoc, h]
  simp
theorem wrap_back (x : BitVec 64) : BitVec.ofInt 64 (IntKind.i64.wrap (x.toNat : Int)) = x := by
  apply BitVec.eq_of_toNat_eq
  rw [BitVec.toNat_ofInt, IntKind.wrap_i64]
  have := x.isLt
  omega
theorem an_bits (x b y : Int) (h : BitVec.ofInt 64 x &&& ~~~BitVec.ofInt 64 y = 0#64) : bits .andNot .i64 x (bits .or .i64 b y) = 0 := by
  show IntKind.i64.wrap (((BitVec.ofInt 64 x) &&& ~~~(BitVec.ofInt 64 (IntKind.i64.wrap (((BitVec.ofInt 64 b ||| BitVec.ofInt 64 y).toNat : Nat) : Int)))).toNat : Int) = 0
  rw [wrap_back, an_vec _ _ _ h]
  rfl
theorem an_1_7 (b : Int) : bits .andNot .i64 1 (bits .or .i64 b 7) = 0 := an_bits 1 b 7 (by decide)
theorem an_2_7 (b : Int) : bits .andNot .i64 2 (bits .or .i64 b 7) = 0 := an_bits 2 b 7 (by decide)
theorem an_6_6 (b : Int) : bits .andNot .i64 6 (bits .or .i64 b 6) = 0 := an_bits 6 b 6 (by decide)
end Go.Proofs.YtdcbagmgflcemaaGreatDoor
namespace Go.Proofs.YtdcbagmgflcemaaGreatDoor
open Go.ChangeShapes Go.WideShapes Go.ChangeAt Go.RowKit
set_option linter.unusedVariables false
theorem kn_set {hd : Nat → Value} {ts : Nat → Nat → Value} {i : Nat} (hi : i < 8) (v : Value) : (tab 655 (knV hd ts)).set i v = tab 655 (knV (updH hd i v) ts) := by
  rw [tab_set (by omega)]
  refine tab_ext (fun j hj => ?_)
  unfold knV
  by_cases he : j = i
  · subst he
    rw [if_pos rfl, if_pos hi]
    unfold updH
    rw [if_pos rfl]
  · rw [if_neg he]
    split
    · unfold updH
      rw [if_neg he]
    · rfl
theorem one_ite {c : Prop} [Decidable c] {a b : Value} (ha : a.oneCell' = true) (hb : b.oneCell' = true) : (if c then a else b).oneCell' = true := by
  split
  · exact ha
  · exact hb
theorem SOk0 (n : Nat) (h1 : 1 ≤ n) (h2 : n ≤ 4) : SOk 0 ⟨n, 0, 0, []⟩ :=
  ⟨h1, h2, Int.le_refl _, Int.le_refl _, Int.le_refl _, Int.le_refl _, Nat.zero_le _, fun x hx => by cases hx⟩
end Go.Proofs.YtdcbagmgflcemaaGreatDoor
