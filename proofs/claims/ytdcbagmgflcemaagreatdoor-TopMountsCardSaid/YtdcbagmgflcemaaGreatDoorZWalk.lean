/- The walk of the law TopMounts: for every two rows of bytes it returns true, and nothing that was there is changed. No condition. -/
import Derived.Test.YtdcbagmgflcemaaGreatDoorZ47
import Derived.Test.YtdcbagmgflcemaaGreatDoorZ09
import Derived.Deep.CutBlock
namespace Go.Proofs.YtdcbagmgflcemaaGreatDoor
open Go.ChangeShapes Go.WideShapes Go.ChangeAt Go.RowKit
set_option linter.unusedVariables false
theorem ma_field (n a b : Int) (d : Value) (w : World) : (Instr.field 33 (.agg #[.int .i64 n, .int .i64 a, .int .i64 b, d, .slice none 0 0, .int .i64 0, .int .i64 0, .int .i64 0, .int .i64 0, .int .i64 0, .int .i64 0]) 0).run Tryz.prog w = .ok (.int .i64 n) w := by kernel_rfl
def maK (k : Nat) : MaY := if k = 0 then maY0 else if k = 1 then maY1 else maY2
def nmK (k : Nat) : ByteArray := if k = 0 then ⟨#[97]⟩ else ⟨#[98]⟩
theorem l_mk {w0 w : World} {P : MaP} {V : Nat → Prop} (k : Nat) (hk : k < 2) (h : MaL w0 w P (maK k) V) : Calls Tryz.prog 5 #[.pointer (some ⟨P.pk, 0, none⟩), .int .i64 1, .agg #[.int .i64 12, .int .i64 493, .int .i64 0, .int .i64 0, .string (nmK k), .string ⟨#[]⟩, .slice none 0 0]] w (AnsTo w0 w P (maK (k + 1)) V) := by
  obtain rfl | rfl : k = 0 ∨ k = 1 := by omega
  · exact l_mka h
  · exact l_mkb h
def One2 (b : Nat) : Nat → Prop := fun k => k = b
/-- Behind the two rows: what is kept. -/
theorem take_rd {w0 w : World} {a : Option Addr} {n c N : Nat} {xs : List Int} (h : IsRow .u8 w0 a n c xs) (hb : Below w0.heap.size w0 w) (hN : N ≤ n) : Rd w (Upto w0.heap.size) 1 a N c (bys (xs.take N)) := by
  have h1 := rd_kept h.1 hb
  have := h1.take_n (k := N) hN
  rw [Nat.mul_one] at this
  have e : (ints .u8 xs).take N = ints .u8 (xs.take N) := by unfold ints; rw [List.map_take]
  rw [e] at this
  exact this
set_option maxRecDepth 100000 in
set_option maxHeartbeats 16000000 in
theorem topMounts_walk (a0 : Option Addr) (len0 cap0 : Nat) (xs : List Int) (a1 : Option Addr) (len1 cap1 : Nat) (ys : List Int) (w : World) (h0 : IsRow .u8 w a0 len0 cap0 xs) (h1 : IsRow .u8 w a1 len1 cap1 ys) :
    Calls Tryz.prog 3 #[.slice a0 len0 cap0, .slice a1 len1 cap1] w fun e w' => e = .returned (.bool true) ∧ Below w.heap.size w w' := by
  have hfd := ma_field
  have hx0 := h0.1.ilen
  have hx1 := h1.1.ilen
  have hc0 := h0.1.1
  have hc1 := h1.1.1
  have hm0 := h0.1.2.1
  have hm1 := h1.1.2.1
  unfold maxLen at hm0 hm1
  replace h0 := hid h0
  replace h1 := hid h1
  replace hx0 := hid hx0
  replace hx1 := hid hx1
  go_enter Tryz.func3, Tryz.ntmps3
  go_wp2_with fail
  refine (started_ok w).mono ?_
  rintro e w1 ⟨P, dv, rfl, HL⟩
  have F1 := hid HL
  clear HL
  go_upto_region 4 with fail
  go_cut [0, 1] (fun s0 s1 wx => Hid (Chg Nil w1 wx) ∧ ∃ N M : Nat, N ≤ 50 ∧ N ≤ len0 ∧ M ≤ 50 ∧ M ≤ len1 ∧ s0 = .slice a0 N cap0 ∧ s1 = .slice a1 M cap1)
  case first =>
    have q0 : 0 ≤ min (len0 : Int) 50 ∧ min (len0 : Int) 50 ≤ (cap0 : Int) := by omega
    have q1 : 0 ≤ min (len1 : Int) 50 ∧ min (len1 : Int) 50 ≤ (cap1 : Int) := by omega
    go_region_law fail
    all_goals
      go_wp2
      go_meet
      refine ⟨(Chg.refl Nil w1).drew, min len0 50, min len1 50, Nat.min_le_right _ _, Nat.min_le_left _ _, Nat.min_le_right _ _, Nat.min_le_left _ _, ?_, ?_⟩
      all_goals (congr 1 <;> omega)
  case rest =>
    obtain ⟨hcw, N, M, hN1, hN2, hM1, hM2, rfl, rfl⟩ := hcut
    have F2 := hid (F1.out.nil hcw.out)
    clear F1 hcw hc0 hc1 hm0 hm1
    go_upto_region 6 with fail
    have hw35 : Hid (∃ b35 W, b35 = wc.heap.size ∧ W = wc.alloc (.cells #[.string ⟨#[97]⟩, .string ⟨#[98]⟩] 9) ∧ MaL w W P maY0 (One2 b35) ∧ Blk W b35 9 [.string ⟨#[97]⟩, .string ⟨#[98]⟩]) := hid ⟨_, _, rfl, rfl, (F2.out.lay _).less (fun k hk => .inr hk), Blk.new wc 9 [.string ⟨#[97]⟩, .string ⟨#[98]⟩]⟩
    obtain ⟨b35, W, hb, hW, F3, B3⟩ := hw35.out
    rw [← hW, ← hb]
    replace hb := hid hb
    replace hW := hid hW
    replace F3 := hid F3
    replace B3 := hid B3
    clear hw35 F2
    go_loopw [37] (fun i wr => ∃ k : Nat, k ≤ 2 ∧ i = .int .i64 k ∧ Hid (MaL w wr P (maK k) (One2 b35)) ∧ Hid (Blk wr b35 9 [.string ⟨#[97]⟩, .string ⟨#[98]⟩])) (fun i _ => 2 - (intOf i).toNat)
    case atStart => exact ⟨0, Nat.zero_le _, rfl, F3, B3⟩
    case round =>
      obtain ⟨k, hk, rfl, F4, B4⟩ := hrel
      by_cases hlt : k < 2
      · have e0 : wr.cell? ⟨b35, k, none⟩ = some (.string (nmK k)) := by
          rw [B4.out.cell k]
          obtain rfl | rfl : k = 0 ∨ k = 1 := by omega
          all_goals rfl
        have HE := hid (l_mk k hlt F4.out)
        go_wp2_with fail
        refine HE.out.mono ?_
        rintro e w3 ⟨sa, sc, rfl, h3, kp⟩
        have B5 := hid (kp.blk B4.out rfl)
        replace h3 := hid h3
        clear kp e0 HE
        go_wp2
        go_roundw
        case rel => exact ⟨k + 1, by omega, by go_num, h3, B5⟩
        case measure => simp [intOf]; omega
      · obtain rfl : k = 2 := by omega
        have F5 := hid (F4.out.less (V' := fun _ => False) (fun k hk => hk.elim))
        clear F4 B4 F3 B3 hlt hk
        obtain ⟨wo, hwo⟩ : ∃ wo : World, wo = wr := ⟨_, rfl⟩
        rw [← hwo] at F5 ⊢
        replace hwo := hid hwo
        obtain ⟨l, hl⟩ : ∃ l, l = xs.take N := ⟨_, rfl⟩
        obtain ⟨m, hm⟩ : ∃ m, m = ys.take M := ⟨_, rfl⟩
        have RL : Hid (∀ V, Below w.heap.size w V → Rd V (Upto w.heap.size) 1 a0 N cap0 (bys l)) := hid (fun V hV => by rw [hl]; exact take_rd h0.out hV hN2)
        have RM : Hid (∀ V, Below w.heap.size w V → Rd V (Upto w.heap.size) 1 a1 M cap1 (bys m)) := hid (fun V hV => by rw [hm]; exact take_rd h1.out hV hM2)
        have hll : Hid (N = l.length) := hid (by rw [hl, List.length_take]; have := hx0.out; omega)
        have hlm : Hid (M = m.length) := hid (by rw [hm, List.length_take]; have := hx1.out; omega)
        clear hl hm
        go_wp2_with fail
        refine (l_op3 F5.out).mono ?_
        rintro e w4 ⟨rfl, h4, -⟩
        replace h4 := hid h4
        clear F5
        go_wp2_with fail
        refine (l_op4 h4.out).mono ?_
        rintro e w5 ⟨rfl, h5, -⟩
        have R5 := hid (RL.out w5 h5.below)
        replace h5 := hid h5
        clear h4
        go_wp2_with fail
        refine (l_put5 h5.out l N hll.out hN1 _ a0 cap0 R5.out).mono ?_
        rintro e w6 ⟨rfl, h6, -⟩
        have R6 := hid (RM.out w6 h6.below)
        replace h6 := hid h6
        clear h5 R5
        go_wp2_with fail
        refine (l_put6 l h6.out m M hlm.out hM1 _ a1 cap1 R6.out).mono ?_
        rintro e w7 ⟨rfl, h7, -⟩
        replace h7 := hid h7
        clear h6 R6
        go_wp2_with fail
        refine (l_mount l m h7.out).mono ?_
        rintro e w8 ⟨sa8, sc8, rfl, h8, -⟩
        have hw12 : Hid (∃ b12 V, b12 = w8.heap.size ∧ V = w8.alloc (.cells #[.int .i64 0, .int .i64 0, .int .i64 0, .slice sa8 0 sc8, .slice none 0 0, .int .i64 0, .int .i64 0, .int .i64 0, .int .i64 0, .int .i64 0, .int .i64 0] 33) ∧ MaL w V P (maY7 l m) (One2 b12) ∧ Blk V b12 33 [.int .i64 0, .int .i64 0, .int .i64 0, .slice sa8 0 sc8, .slice none 0 0, .int .i64 0, .int .i64 0, .int .i64 0, .int .i64 0, .int .i64 0, .int .i64 0]) := hid ⟨_, _, rfl, rfl, (h8.lay _).less (fun k hk => .inr hk), Blk.new w8 33 [.int .i64 0, .int .i64 0, .int .i64 0, .slice sa8 0 sc8, .slice none 0 0, .int .i64 0, .int .i64 0, .int .i64 0, .int .i64 0, .int .i64 0, .int .i64 0]⟩
        clear h7 h8
        go_upto_region 15 with fail
        obtain ⟨b12, V8, hb12, hV8, h9, B9⟩ := hw12.out
        rw [← hV8, ← hb12]
        replace hb12 := hid hb12
        replace hV8 := hid hV8
        replace h9 := hid h9
        replace B9 := hid B9
        clear hw12
        go_wp2_with fail
        refine (l_op8 l m h9.out).mono ?_
        rintro e w10 ⟨rfl, h10, kp10⟩
        have B10 := hid (kp10.blk B9.out rfl)
        replace h10 := hid h10
        clear h9 B9 kp10
        go_wp2_with fail
        refine (l_got9 l m (by rw [← hlm.out]; exact hM1) h10.out).mono ?_
        rintro e w11 ⟨sa, sc, G, rfl, s11, h11, kp11⟩
        have B11 := hid (kp11.blk B10.out rfl)
        replace s11 := hid s11
        replace h11 := hid h11
        clear h10 B10 kp11
        go_wp2_with fail
        refine (l_leave l m h11.out).mono ?_
        rintro e w12 ⟨sa12, sc12, rfl, h12, kp12⟩
        have hw15 : Hid (∃ b15 V, b15 = w12.heap.size ∧ V = w12.alloc (.cells #[.int .i64 0, .int .i64 0, .int .i64 0, .slice sa12 0 sc12, .slice none 0 0, .int .i64 0, .int .i64 0, .int .i64 0, .int .i64 0, .int .i64 0, .int .i64 0] 33) ∧ MaL w V P (maY10 l m) (fun k => (One2 b12 k ∨ G = some k) ∨ k = b15) ∧ Blk V b12 33 [.int .i64 0, .int .i64 0, .int .i64 0, .slice sa8 0 sc8, .slice none 0 0, .int .i64 0, .int .i64 0, .int .i64 0, .int .i64 0, .int .i64 0, .int .i64 0] ∧ Blk V b15 33 [.int .i64 0, .int .i64 0, .int .i64 0, .slice sa12 0 sc12, .slice none 0 0, .int .i64 0, .int .i64 0, .int .i64 0, .int .i64 0, .int .i64 0, .int .i64 0] ∧ Sl V 5 1 sa m.length sc (bys m) G) := hid ⟨_, _, rfl, rfl, h12.lay _, (kp12.blk B11.out (.inl rfl)).alloc _, Blk.new w12 33 [.int .i64 0, .int .i64 0, .int .i64 0, .slice sa12 0 sc12, .slice none 0 0, .int .i64 0, .int .i64 0, .int .i64 0, .int .i64 0, .int .i64 0, .int .i64 0], (kp12.sl s11.out (fun g hg => .inr hg)).alloc _⟩
        clear h11 B11 s11 h12 kp12
        go_upto_region 18 with fail
        obtain ⟨b15, V12, hb15, hV12, h13, B13, C13, s13⟩ := hw15.out
        rw [← hV12, ← hb15]
        replace hb15 := hid hb15
        replace hV12 := hid hV12
        replace h13 := hid h13
        replace B13 := hid B13
        replace C13 := hid C13
        replace s13 := hid s13
        clear hw15
        go_wp2_with fail
        refine (l_op11 l m h13.out).mono ?_
        rintro e w14 ⟨rfl, h14, kp14⟩
        have B14 := hid (kp14.blk B13.out (.inl (.inl rfl)))
        have C14 := hid (kp14.blk C13.out (.inr rfl))
        have s14 := hid (kp14.sl s13.out (fun g hg => .inl (.inr hg)))
        replace h14 := hid h14
        clear h13 B13 C13 s13 kp14
        go_wp2_with fail
        refine (l_got12 l m (by rw [← hll.out]; exact hN1) h14.out).mono ?_
        rintro e w15 ⟨ta, tc, G2, rfl, t15, h15, kp15⟩
        have B15 := kp15.blk B14.out (.inl (.inl rfl))
        have C15 := kp15.blk C14.out (.inr rfl)
        have s15 := hid (kp15.sl s14.out (fun g hg => .inl (.inr hg)))
        have e0 := B15.cell 0
        have e1 := C15.cell 0
        simp only [List.getElem?_cons_zero] at e0 e1
        have hbel := hid h15.below
        replace t15 := hid t15
        clear h14 B14 C14 s14 kp15 h15 B15 C15
        have HG := hid (good06_ok (w15.alloc (.cells #[.int .i64 0, .int .i64 0, .int .i64 0, .int .i64 0] 28)) w15.heap.size (Blk.new w15 28 [.int .i64 0, .int .i64 0, .int .i64 0, .int .i64 0]))
        go_wp2_with fail
        refine HG.out.mono ?_
        rintro e w16 ⟨rfl, rfl⟩
        have C16 := hid ((Chg.refl Nil w15).alloc (.cells #[.int .i64 0, .int .i64 0, .int .i64 0, .int .i64 0] 28))
        have hb16 := hid (below_nil hbel.out C16.out)
        have HE1 := hid (equal_by (Opt G) (Upto w.heap.size) sa a1 m.length sc M cap1 m m _ (s15.out.chg C16.out (fun _ _ h => h)).rd (RM.out _ hb16.out) (by rw [← hlm.out]; omega) (by omega))
        clear HG e0 e1
        go_wp2_with fail
        refine HE1.out.mono ?_
        rintro e w17 ⟨rfl, k17, rfl⟩
        have C17 := hid (C16.out.drewN k17)
        have hb17 := hid (below_nil hbel.out C17.out)
        have HE2 := hid (equal_by (Opt G2) (Upto w.heap.size) ta a0 l.length tc N cap0 l l _ (t15.out.chg C17.out (fun _ _ h => h)).rd (RL.out _ hb17.out) (by rw [← hll.out]; omega) (by omega))
        clear HE1
        rw [eqI_true rfl]
        go_wp2_with fail
        refine HE2.out.mono ?_
        rintro e w18 ⟨rfl, k18, rfl⟩
        rw [eqI_true rfl]
        have hb18 := hid (below_nil hbel.out (C17.out.drewN k18))
        clear HE2
        go_wp2
        go_ret
        have hb19 := hb18.out
        rw [World.drewN_drewN] at hb19
        exact ⟨rfl, hb19⟩
end Go.Proofs.YtdcbagmgflcemaaGreatDoor
