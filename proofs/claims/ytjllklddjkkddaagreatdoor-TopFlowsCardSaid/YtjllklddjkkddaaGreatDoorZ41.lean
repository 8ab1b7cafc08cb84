/- The law's small functions: a remainder, an asking behind the signals, a start. Conditions: a remainder by 1 to 1000; no signal came. -/
import Derived.Test.YtjllklddjkkddaaGreatDoorZ36
import Derived.Test.YtjllklddjkkddaaGreatDoorZ40
namespace Go.Proofs.YtjllklddjkkddaaGreatDoor
open Go.ChangeShapes Go.WideShapes Go.ChangeAt Go.RowKit
set_option linter.unusedVariables false
theorem tmod_nat (x : Int) (m : Nat) (h0 : 0 ≤ x) (m0 : 0 < m) : ∃ r : Nat, r < m ∧ x.tmod (m : Int) = (r : Int) := by
  have h1 := Int.tmod_lt_of_pos x (show (0 : Int) < (m : Int) by omega)
  have h2 := Int.tmod_nonneg (m : Int) h0
  exact ⟨(x.tmod m).toNat, by omega, by omega⟩
theorem g3rest_ok (w : World) (n : Int) (h1 : -9223372036854775808 ≤ n) (h2 : n ≤ 9223372036854775807) (m : Nat) (m0 : 0 < m) (m1 : m ≤ 1000) :
    Calls Tryz.prog 8 #[.int .i64 n, .int .i64 (m : Int)] w fun e w' => ∃ r : Nat, r < m ∧ e = .returned (.int .i64 (r : Int)) ∧ w = w' := by
  have hm : ¬ (m : Int) = 0 := by omega
  by_cases hn : n < 0
  · obtain ⟨r, hr, he⟩ := tmod_nat (-(n + 1)) m (by omega) m0
    have e1 : wrap64 (n + 1) = n + 1 := by unfold wrap64; omega
    have e2 : wrap64 (-(n + 1)) = -(n + 1) := by unfold wrap64; omega
    go_enter Tryz.func8, Tryz.ntmps8
    go_wp2
    go_ret
    exact ⟨r, hr, rfl, rfl⟩
  · obtain ⟨r, hr, he⟩ := tmod_nat n m (by omega) m0
    go_enter Tryz.func8, Tryz.ntmps8
    go_wp2
    go_ret
    exact ⟨r, hr, rfl, rfl⟩
/-- The kernel when it has started. -/
def xS (ts : Nat → Nat → Value) : KX := ⟨1, updF (fun _ => false) 1 true, none, ((SR.mk 1 0 0 []).doAdd 1 1 10).1, fun _ => flZ, fun _ _ => 0, updF (fun _ => peZ) 1 ⟨1, 0, 1, 0⟩, ts, true⟩
theorem g3start_ok (w : World) : Calls Tryz.prog 4 #[.slice none 0 0] w fun e w' => ∃ pk ts B U, e = .returned (.tuple #[.pointer (some ⟨pk, 0, none⟩), .bool true]) ∧ KAt w' B U pk (xS ts) ∧ TsA ts 1 1 ∧ TsN ts 1 ∧ Chg Nil w w' ∧ w.heap.size ≤ B := by
  go_enter Tryz.func4, Tryz.ntmps4
  go_wp2_with fail
  refine (make_ok w 128 (by omega) (by omega)).mono ?_
  rintro e w1 ⟨F, p, zs, rfl, hD, hz, c1, g1⟩
  have HK := hid (kstart_ok w1 F p 128 0 zs hD (by omega) hz)
  have C1 := hid c1
  clear hD hz c1 g1
  go_wp2_with fail
  refine HK.out.mono ?_
  rintro e w2 ⟨pk, ts, rfl, hS, hA, hN, c2⟩
  obtain ⟨U, hU⟩ := hS.at
  have HU := hid hU
  replace hA := hid hA
  replace hN := hid hN
  replace c2 := hid c2
  clear hS hU
  go_wp2
  go_ret2
  exact ⟨pk, ts, _, U, rfl, HU.out, hA.out, hN.out, C1.out.trans c2.out (fun _ _ h => h), C1.out.size⟩
set_option maxRecDepth 100000 in
set_option maxHeartbeats 4000000 in
theorem g3ask_ok (w : World) (B : Nat) (U : Nat → Prop) (pk : Nat) (X : KX) (XP : KX → Prop) (h : KAt w B U pk X) (num ca cb cn n a b : Int) (d : Value) (ds : List Int) (hn : n = 0)
    (HD : ∀ w', Chg Nil w w' → KCall 5 #[.pointer (some ⟨pk, 0, none⟩), .int .i64 1, .agg #[.int .i64 num, .int .i64 ca, .int .i64 cb, .int .i64 cn, .string ⟨#[]⟩, .string ⟨#[]⟩, d]] w' B U pk XP n a b ds) :
    KCall 10 #[.pointer (some ⟨pk, 0, none⟩), .agg #[.int .i64 num, .int .i64 ca, .int .i64 cb, .int .i64 cn, .string ⟨#[]⟩, .string ⟨#[]⟩, d]] w B U pk XP n a b ds := by
  subst hn
  obtain ⟨BA, BC⟩ := boxes2 w (clC num ca cb cn d)
  have CA : Chg Nil w ((w.alloc (.cells (clC num ca cb cn d).toArray 36)).alloc (.cells anZ.toArray 33)) := ((Chg.refl Nil w).alloc _).alloc _
  have hlt := h.lt
  have HP := HD _ CA
  have hbU : ¬ U (w.heap.size + 1) := fun hh => by have := hlt _ hh; omega
  replace HP := hid HP
  replace BA := hid BA
  replace BC := hid BC
  replace CA := hid CA
  replace hbU := hid hbU
  clear h hlt HD
  unfold KCall
  go_enter Tryz.func10, Tryz.ntmps10
  go_wp2_with fail
  refine HP.out.mono ?_
  rintro e w2 ⟨vs, rfl, kp⟩
  have B2 := kp.keeps BC.out hbU.out
  have kp' := hid kp
  obtain ⟨X1, sa, sc, G, hX, hvs, hs, hk⟩ := kp
  clear hX hs hk
  subst hvs
  have BC3 := B2.alloc (.cells (anC 0 a b (.slice sa ds.length sc)).toArray 33)
  have B5 := Blk.new w2 33 (anC 0 a b (.slice sa ds.length sc))
  have e0 := B5.cell 0
  have LL := load_blk (P := Tryz.prog) (ty := 33) B5 Tryz.underlying33 rfl (by kernel_rfl)
  obtain ⟨W, S1, S2, S3⟩ := an_store BC3 (vs := anC 0 a b (.slice sa ds.length sc)) rfl rfl (anC_one _ _ _ _ rfl)
  have kw := hid (AnPost.laid CA.out (kp'.out.nil ((Chg.refl Nil w2).alloc (.cells (anC 0 a b (.slice sa ds.length sc)).toArray 33))) hbU.out (by omega) BC.out.lt BC3 S3)
  obtain ⟨W3, hW3⟩ : ∃ W3, W3 = w2.alloc (.cells (anC 0 a b (.slice sa ds.length sc)).toArray 33) := ⟨_, rfl⟩
  rw [← hW3] at e0 LL S1
  simp only [anC, List.getElem?_cons_zero] at e0
  have hW3' : w2.alloc (.cells #[.int .i64 0, .int .i64 a, .int .i64 b, .slice sa ds.length sc, .slice none 0 0, .int .i64 0, .int .i64 0, .int .i64 0, .int .i64 0, .int .i64 0, .int .i64 0] 33) = W3 := hW3.symm
  replace S2 := hid S2
  replace S1 := hid S1
  replace LL := hid LL
  replace hW3 := hid hW3
  replace hW3' := hid hW3'
  clear B2 kp' BC3 B5 S3 HP
  simp only [anC]
  go_wp2
  rw [hW3'.out]
  go_loopw [6] (fun i wr => i = .int .i64 0 ∧ Hid (wr = W3)) (fun i _ => 0)
  case atStart => exact ⟨rfl, rfl⟩
  case round =>
    obtain ⟨rfl, hw⟩ := hrel
    have hw' := hw.out
    subst hw'
    have L1 := LL.out
    have Q1 := S1.out
    clear LL S1 hw
    go_wp2_with (first | (refine wpList_load_run L1 (by rfl) (by rfl) (by rfl) ?_) | (refine wpList_store_run Q1 (by rfl) (by rfl) (by rfl) (by rfl) ?_))
    refine bodyPost_ret (an_ret rfl S2.out rfl rfl) rfl ?_
    exact ⟨_, rfl, kw.out⟩
end Go.Proofs.YtjllklddjkkddaaGreatDoor
