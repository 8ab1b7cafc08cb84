/- The walk of the law WrapRing: it returns true and changes nothing that was there. No condition. -/
import Derived.Test.YtbkcjfeahaphgaaRingSame
import Derived.Test.YtbkcjfeahaphgaaWrapOwnWalk
import Derived.Deep.DeepCutAuto
namespace Go.Proofs.Ytbkcjfeahaphgaa
open Go.ChangeShapes Go.WideShapes Go.ChangeAt Go.RowKit
set_option linter.unusedVariables false
/-- The last s of the first k rows. -/
def lasts (zs : List (List Int)) (s k : Nat) : List (List Int) := (cuts zs k).drop (k - s)
theorem lasts_length (zs : List (List Int)) (s k : Nat) (h : k ≤ zs.length) : (lasts zs s k).length = min k s := by
  unfold lasts
  rw [List.length_drop, cuts_length zs k h]
  omega
theorem lasts_room (zs : List (List Int)) (s k : Nat) (h : k < zs.length) (hs : k < s) : lasts zs s (k + 1) = lasts zs s k ++ [zs[k].take 32] := by
  unfold lasts
  rw [show k + 1 - s = 0 by omega, show k - s = 0 by omega, List.drop_zero, List.drop_zero, cuts_succ zs k h]
theorem lasts_full (zs : List (List Int)) (s k : Nat) (h : k < zs.length) (hs : s ≤ k) (h1 : 1 ≤ s) : lasts zs s (k + 1) = (lasts zs s k ++ [zs[k].take 32]).drop 1 := by
  unfold lasts
  have hl := cuts_length zs k (by omega)
  rw [cuts_succ zs k h, ← List.drop_append_of_le_length (by omega), List.drop_drop]
  congr 1
  omega
set_option maxHeartbeats 1000000 in
theorem put_lasts (w : World) (F : Nat → Prop) (p : Nat) (s k : Nat) (next : Int) (zs : List (List Int)) (R : Nat → Prop) (b : Option Addr) (n d : Nat) (hk : k < zs.length) (h : RingAt w F p s next (lasts zs s k)) (hb : Rd w R 1 b n d (ints .u8 (zs[k].take 32))) (hn : n ≤ 32) (h1 : 1 ≤ s) (h2 : s ≤ 64) (h3 : 0 ≤ next) (h4 : next < 4294967296) :
    Calls Try.prog 21 #[.pointer (some ⟨p, 0, none⟩), .slice b n d] w fun e w' => ∃ F', e = .returned (.tuple #[.int .u32 next, .int .i64 0]) ∧ RingAt w' F' p s ((next + 1) % 4294967296) (lasts zs s (k + 1)) ∧ Chg F w w' ∧ Grew w.heap.size F F' := by
  have hl := lasts_length zs s k (by omega)
  by_cases hs : k < s
  · rw [lasts_room zs s k hk hs]
    exact put_room w F p s next _ R b n d _ h hb hn (by omega) (by omega) h3 h4
  · rw [lasts_full zs s k hk (by omega) h1]
    exact put_full w F p s next _ R b n d _ h hb hn (by omega) (by omega) (by omega) h3 h4
def WRInv (w0 : World) (zs : List (List Int)) (a b : Int) (s px py k : Nat) (w : World) : Prop :=
  ∃ F F', RingAt w F px s ((a + k) % 4294967296) (lasts zs s k) ∧ RingAt w F' py s ((b + k) % 4294967296) (lasts zs s k) ∧ Dj F F' ∧ Below w0.heap.size w0 w ∧ (∀ g, F g → w0.heap.size ≤ g) ∧ ∀ g, F' g → w0.heap.size ≤ g
set_option maxRecDepth 100000 in
set_option maxHeartbeats 2000000 in
theorem wrapRing_walk (a0 : Int) (a1 : Int) (a2 : Int) (a3 : Option Addr) (len3 cap3 : Nat) (z3 : List (List Int)) (w : World) (w0 : (Lit.int .i64 a0).wf = true) (w1 : (Lit.int .u32 a1).wf = true) (w2 : (Lit.int .u32 a2).wf = true) (w3 : IsRows .u8 w a3 len3 cap3 z3) :
    Calls Try.prog 9 #[.int .i64 a0, .int .u32 a1, .int .u32 a2, .slice a3 len3 cap3] w fun e w' => e = .returned (.bool true) ∧ Below w.heap.size w w' := by
  have b1 := bounds_u32 w1
  have b2 := bounds_u32 w2
  have hz : z3.length = len3 := by obtain ⟨_, _, h, _⟩ := w3; exact h
  have hcap : len3 ≤ cap3 ∧ cap3 ≤ maxLen := by obtain ⟨_, h, _⟩ := w3; exact ⟨h.1, h.2.1⟩
  obtain ⟨hl1, hl2⟩ := hcap
  unfold maxLen at hl2
  have W3 := hid w3
  have Z3 := hid hz
  clear w3 hz
  have r1 := rest_nonneg a0 64 (by omega)
  have r2 := rest_lt a0 64 (by omega)
  obtain ⟨s, hs⟩ := Int.eq_ofNat_of_zero_le (show 0 ≤ 1 + rest a0 64 by omega)
  have s1 : 1 ≤ s := by omega
  have s2 : s ≤ 64 := by omega
  have HS : rest a0 64 = (s : Int) - 1 := by omega
  replace HS := hid HS
  have e1 : (1 : Int) + ((s : Int) - 1) = s := by omega
  replace e1 := hid e1
  clear hs r1 r2
  go_enter Try.func9, Try.ntmps9
  go_wp2_with fail
  refine (rest_any _ _ _ (by omega) (by omega)).mono ?_
  rw [HS.out]
  rintro e w' ⟨rfl, rfl⟩
  go_wp2_with fail
  rw [e1.out]
  refine (new_ok s a1 w (by omega) (by omega)).mono ?_
  rintro e w1 ⟨rfl, q1, q2⟩
  go_wp2_with fail
  refine (new_ok s a2 w1 (by omega) (by omega)).mono ?_
  rintro e w2 ⟨rfl, q3, q4⟩
  have ea : (a1 + ((0 : Nat) : Int)) % 4294967296 = a1 := by omega
  have eb : (a2 + ((0 : Nat) : Int)) % 4294967296 = a2 := by omega
  have hlt := q1.lt_all _ rfl
  have el : lasts z3 s 0 = [] := by simp [lasts, cuts]
  have hI : Hid (WRInv w z3 a1 a2 s w.heap.size w1.heap.size 0 w2) := ⟨One w.heap.size, One w1.heap.size, (by rw [ea, el]; exact q1.chg q4 (fun _ _ h => h)), (by rw [eb, el]; exact q3), (fun k h h' => by have e1 : k = w.heap.size := h; have e2 : k = w1.heap.size := h'; omega), (q2.trans q4 (fun _ _ h => h)).below (fun _ _ h => h) (Nat.le_refl _), (fun g hg => by rw [hg]; exact Nat.le_refl _), fun g hg => by rw [hg]; have := q2.size; omega⟩
  clear q1 q2 q3 q4 ea eb hlt el
  generalize hpx : w.heap.size = px at hI ⊢
  generalize hpy : w1.heap.size = py at hI ⊢
  replace hpx := hid hpx
  clear hpy
  go_upto_region 7 with fail
  go_cut [59, 60, 61] (fun s59 s60 s61 wx => wx = w2 ∧ ∃ N : Nat, N ≤ 200 ∧ N ≤ len3 ∧ s59 = .slice a3 N cap3 ∧ s60 = .int .i64 N ∧ s61 = .int .i64 0)
  case first =>
    go_wp2
    go_meet
    exact ⟨rfl, (min (len3 : Int) 200).toNat, by omega, by omega, rfl, by rw [show max (min (len3 : Int) 200) 0 = (((min (len3 : Int) 200).toNat : Nat) : Int) by omega], rfl⟩
  case rest =>
    obtain ⟨rfl, N, hN1, hN2, rfl, rfl, rfl⟩ := hcut
    go_wp2
    go_loopw [13, 61] (fun s13 s61 wr => ∃ k : Nat, k ≤ N ∧ s61 = .int .i64 k ∧ s13 = .int .i64 k ∧ Hid (WRInv w z3 a1 a2 s px py k wr)) (fun _ s61 _ => N - (intOf s61).toNat)
    case atStart => exact ⟨0, by omega, rfl, rfl, hI⟩
    case round =>
      obtain ⟨k, hk, rfl, rfl, hJ⟩ := hrel
      clear hI
      by_cases hlt : k < N
      · have hz : k < z3.length := by have := Z3.out; omega
        obtain ⟨F, F', j1, j2, j3, j4, j5, j6⟩ := hJ.out
        obtain ⟨g, off, ab, nb, cb, rfl, hc1, hg, hrow⟩ := W3.out.row hz
        rw [← j4.cell (p := ⟨g, off + k, none⟩) hg] at hc1
        have hnb := hrow.1
        have hcb := hrow.2.1
        unfold maxLen at hcb
        go_upto_region 10 with fail
        go_cut [15] (fun s15 wx => wx = wr ∧ ∃ M : Nat, M = min nb 32 ∧ s15 = .slice ab M cb)
        case first =>
          go_wp2
          go_meet
          exact ⟨rfl, (min (nb : Int) 32).toNat, by omega, rfl⟩
        case rest =>
          obtain ⟨rfl, M, hM, rfl⟩ := hcut
          have hrow0 := hrow.upto hM
          have hM32 : M ≤ 32 := by omega
          have HB : Hid (∀ w', Below w.heap.size w w' → Rd w' (Upto w.heap.size) 1 ab M cb (ints .u8 (z3[k].take 32))) := fun w' h => hrow0.chg (Chg.of_below h Nil) (fun _ _ _ h => h)
          replace hM := hid hM
          clear hrow hrow0
          go_wp2_with fail
          refine (put_lasts _ _ _ _ _ _ _ _ _ _ _ hz j1 (HB.out _ j4) hM32 s1 s2 (by omega) (by omega)).mono ?_
          rintro e w4 ⟨Fx, rfl, x1, x2, x3⟩
          have y1 := j2.chg x2 (fun g h h' => j3 g h' h)
          have b4 := below_chg j4 x2 j5
          go_wp2_with fail
          refine (put_lasts _ _ _ _ _ _ _ _ _ _ _ hz y1 (HB.out _ b4) hM32 s1 s2 (by omega) (by omega)).mono ?_
          rintro e w5 ⟨Fy, rfl, y2, y3, y4⟩
          have b5 := below_chg b4 y3 j6
          have hd : ∀ g, Fx g → ¬ F' g := fun g h h' => by
            rcases x3 g h with h1 | h1
            · exact j3 g h1 h'
            · have := j2.lt_all g h'; omega
          have z1 := x1.chg y3 hd
          have hinv : WRInv w z3 a1 a2 s px py (k + 1) w5 := by
            refine ⟨Fx, Fy, ?_, ?_, fun g h h' => ?_, b5, grew_ge x3 j5 j4.size, grew_ge y4 j6 b4.size⟩
            · rw [show (a1 + ((k + 1 : Nat) : Int)) % 4294967296 = ((a1 + (k : Int)) % 4294967296 + 1) % 4294967296 by omega]; exact z1
            · rw [show (a2 + ((k + 1 : Nat) : Int)) % 4294967296 = ((a2 + (k : Int)) % 4294967296 + 1) % 4294967296 by omega]; exact y2
            · rcases y4 g h' with h1 | h1
              · exact hd g h h1
              · have := x1.lt_all g h; omega
          replace hinv := hid hinv
          have f1 : ((a1 + (k : Int)) % 4294967296 - a1) % 4294967296 = k := by omega
          have f2 : ((a2 + (k : Int)) % 4294967296 - a2) % 4294967296 = k := by omega
          have f3 : (k : Int) % 4294967296 = k := by omega
          replace x3 := hid x3
          replace y4 := hid y4
          replace hd := hid hd
          replace j3 := hid j3
          replace j5 := hid j5
          replace j6 := hid j6
          go_wp2
          go_roundw
          case rel => exact ⟨k + 1, by omega, by simp, by simp, hinv⟩
          case measure => simp [intOf]; omega
      · obtain ⟨F, F', j1, j2, j3, j4, j5, j6⟩ := hJ.out
        obtain rfl : k = N := by omega
        have hkz : k ≤ z3.length := by have := Z3.out; omega
        have hl := lasts_length z3 s k hkz
        obtain ⟨rows, hrows⟩ : ∃ rows, lasts z3 s k = rows := ⟨_, rfl⟩
        rw [hrows] at j1 j2 hl
        obtain ⟨m, hm⟩ : ∃ m, m = rows.length := ⟨_, rfl⟩
        have hms : m = min k s := by rw [hm, hl]
        have fmin : min (k : Int) (s : Int) = (m : Int) := by omega
        have hm64 : rows.length ≤ 64 := by omega
        have hm32 : rows.length < 4294967296 := by omega
        have fp : (firstOf ((a1 + (k : Int)) % 4294967296) rows - a1) % 4294967296 = (k : Int) - m := by unfold firstOf; omega
        have fs : (firstOf ((a2 + (k : Int)) % 4294967296) rows - a2) % 4294967296 = (k : Int) - m := by unfold firstOf; omega
        have fq : ((a1 + (k : Int)) % 4294967296 - a1) % 4294967296 = k := by omega
        have ft : ((a2 + (k : Int)) % 4294967296 - a2) % 4294967296 = k := by omega
        have fr : ((a1 + (k : Int)) % 4294967296 - firstOf ((a1 + (k : Int)) % 4294967296) rows) % 4294967296 = m := by unfold firstOf; omega
        have HM := hid hm
        clear hl hms hm hrows hkz
        go_wp2_with fail
        refine (span_ok _ _ _ _ _ _ j1 hm32).mono ?_
        rintro e w4 ⟨rfl, q1⟩
        have k1 := j1.chg q1 (fun _ _ h => h)
        have k2 := j2.chg q1 (fun _ _ h => h)
        have B4 := below_nil j4 q1
        go_wp2_with fail
        refine (span_ok _ _ _ _ _ _ k2 hm32).mono ?_
        rintro e w5 ⟨rfl, q2⟩
        have l1 := k1.chg q2 (fun _ _ h => h)
        have l2 := k2.chg q2 (fun _ _ h => h)
        have B5 := below_nil B4 q2
        have J3 := hid j3
        have J5 := hid j5
        have J6 := hid j6
        clear j3 j5 j6
        go_wp2_with fail
        refine (from_ok _ _ _ _ _ _ l1 hm64 (by omega) (by omega)).mono ?_
        rw [← HM.out]
        rintro e w6 ⟨au, cu, rfl, G, vs, H, s1', s2', s3', s4', s5'⟩
        have n2 := l2.chg s3' (fun _ _ h => h)
        have B6 := below_nil B5 s3'
        replace s4' := hid s4'
        replace s5' := hid s5'
        go_wp2_with fail
        refine (from_ok _ _ _ _ _ _ n2 hm64 (by omega) (by omega)).mono ?_
        rw [← HM.out]
        rintro e w7 ⟨av, cv, rfl, G', vs', H', t1', t2', t3', t4', t5'⟩
        have B7 := below_nil B6 t3'
        rw [List.take_of_length_le (by rw [HM.out]; exact Nat.le_refl _)] at s2' t2'
        have u1 := s1'.chg t3' (fun _ _ h => h)
        have u2 := s2'.chg t3' (fun _ _ _ _ h => h)
        replace t4' := hid t4'
        replace t5' := hid t5'
        have HE := hid (equalF_rows _ _ _ _ _ _ _ _ _ _ _ _ _ HM.out u1.rd t1'.rd u2 t2')
        have BB := hid B7
        clear s2' t2' u1 u2 s1' t1'
        go_wp2_with (go_at_call 27; refine HE.out.mono ?_; rintro e w' ⟨rfl, rfl⟩)
        go_ret
        have b8 := BB.out
        have b9 := BB.out
        rw [hpx.out] at b9
        exact ⟨rfl, by first | exact b8 | exact b9⟩
end Go.Proofs.Ytbkcjfeahaphgaa
