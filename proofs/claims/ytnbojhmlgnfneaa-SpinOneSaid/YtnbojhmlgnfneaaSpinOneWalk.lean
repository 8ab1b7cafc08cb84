/- The walk of the law SpinOne: it returns true and changes nothing that was there. No condition. -/
import Derived.Test.YtnbojhmlgnfneaaSpinMore
import Derived.Deep.DeepCutAuto
namespace Go.Proofs.Ytnbojhmlgnfneaa
open Go.ChangeShapes Go.WideShapes Go.ChangeAt Go.RowKit
set_option linter.unusedVariables false
/-- The lock, and the law's own row of who has a ticket. -/
def OneInv (w0 : World) (p : Nat) (f : Int) (row : List Nat) (took : Int) (a : Option Addr) (c : Nat) (w : World) : Prop :=
  ∃ G, LockAt w p ((f + (took - row.length)) % 65536) row ∧ Sl w 3 1 a row.length c (ints .i64 (nats row)) G ∧ Below w0.heap.size w0 w ∧ w0.heap.size ≤ p ∧ (∀ g, G = some g → w0.heap.size ≤ g) ∧ row.length ≤ took
theorem ne_lock {w : World} {p : Nat} {c : Int} {row : List Nat} {n cc : Nat} {a : Option Addr} {xs : List Value} {G : Option Nat} (h : LockAt w p c row) (hs : Sl w 3 1 a n cc xs G) : G ≠ some p := by
  obtain ⟨h1, t1, hb, hr⟩ := h
  exact hs.ne_blk hb (by decide)
/-- How many of the first processors have the lock. -/
def mineTo (row : List Nat) (j : Nat) : Int := match row with | [] => 0 | x :: _ => if x < j then 1 else 0
theorem mineTo_bd (row : List Nat) (j : Nat) : 0 ≤ mineTo row j ∧ mineTo row j ≤ 1 := by unfold mineTo; split <;> (try split) <;> omega
theorem mineTo_none {row : List Nat} (h : row.head? = none) (j : Nat) : mineTo row j = 0 := by
  cases row with
  | nil => rfl
  | cons x r => simp at h
theorem mineTo_some {row : List Nat} {x : Nat} (h : row.head? = some x) (j : Nat) : mineTo row j = if x < j then 1 else 0 := by
  cases row with
  | nil => simp at h
  | cons y r => obtain rfl : y = x := by simpa using h
                rfl
theorem head_len {row : List Nat} {x : Nat} (h : row.head? = some x) : 0 < row.length ∧ ∀ h' : 0 < (nats row).length, (nats row)[0] = x := by
  cases row with
  | nil => simp at h
  | cons y r =>
    obtain rfl : y = x := by simpa using h
    exact ⟨by simp, fun _ => by simp [nats]⟩
theorem head_none_len {row : List Nat} (h : row.head? = none) : row.length = 0 := by
  cases row with
  | nil => rfl
  | cons x r => simp at h
theorem hasI_nats (row : List Nat) (i : Nat) : hasI (nats row) i = decide (i ∈ row) := by
  unfold hasI nats
  rw [decide_eq_decide, List.mem_map]
  constructor
  · rintro ⟨x, hx, he⟩
    have : x = i := by omega
    subst this; exact hx
  · intro h; exact ⟨i, h, rfl⟩
set_option maxRecDepth 100000 in
set_option maxHeartbeats 1000000 in
theorem spinOne_walk (a0 : Int) (a1 : Option Addr) (len1 cap1 : Nat) (z1 : List Int) (w : World) (w0 : (Lit.int .u16 a0).wf = true) (w1 : IsRow .i64 w a1 len1 cap1 z1) :
    Calls Try.prog 7 #[.int .u16 a0, .slice a1 len1 cap1] w fun e w' => e = .returned (.bool true) ∧ Below w.heap.size w w' := by
  have b0 := bounds_u16 w0
  have hl1 := w1.1.1
  have hl2 := w1.1.2.1
  unfold maxLen at hl2
  have W1 := hid w1
  clear w1
  go_enter Try.func7, Try.ntmps7
  go_wp2_with fail
  refine (spinBegun_ok _).mono ?_
  rintro e w1 ⟨rfl, c1⟩
  go_wp2_with fail
  refine (newLock_ok a0 _ (by omega) (by omega)).mono ?_
  rintro e w2 ⟨p, rfl, h1, h2, h3⟩
  have hI : OneInv w p a0 [] 0 none 0 w2 := by
    have := c1.size
    refine ⟨none, ?_, Sl.empty _ _ _ _, below_nil (below_nil (Below.refl _ w) c1) h2, by omega, (fun g h => by cases h), by simp⟩
    rw [show (a0 + (0 - (([] : List Nat).length : Int))) % 65536 = a0 by simp; omega]
    exact h1
  replace hI := hid hI
  clear h1 h2 h3 c1
  go_upto_region 6 with fail
  go_cut [26, 27, 28] (fun s26 s27 s28 wx => wx = w2 ∧ ∃ N : Nat, N ≤ 200 ∧ N ≤ len1 ∧ s26 = .slice a1 N cap1 ∧ s27 = .int .i64 N ∧ s28 = .int .i64 0)
  case first =>
    go_wp2
    · go_meet
      exact ⟨rfl, 200, by omega, by omega, rfl, rfl, rfl⟩
    · go_meet
      exact ⟨rfl, len1, by omega, by omega, by simp, by simp, rfl⟩
  case rest =>
    obtain ⟨rfl, N, hN1, hN2, rfl, rfl, rfl⟩ := hcut
    go_wp2
    go_loopw [6, 7, 28] (fun s6 s7 s28 wr => ∃ (k : Nat) (row : List Nat) (took : Int) (a : Option Addr) (c : Nat), k ≤ N ∧ took ≤ k ∧ 0 ≤ took ∧ s28 = .int .i64 k ∧ s7 = .int .i64 took ∧ s6 = .slice a row.length c ∧ Hid (OneInv w p a0 row took a c wr)) (fun _ _ s28 _ => N - (intOf s28).toNat)
    case atStart => exact ⟨0, [], 0, none, 0, Nat.zero_le _, by simp, by simp, rfl, rfl, rfl, hI⟩
    case round =>
      obtain ⟨k, row, took, a, c, hk, ht1, ht2, rfl, rfl, rfl, hJ⟩ := hrel
      clear hI
      obtain ⟨G, i1, i2, i3, i4, i5, i6⟩ := id hJ.out
      have hne := ne_lock i1 i2
      by_cases hlt : k < N
      · have hz : k < z1.length := by have := W1.out.1.ilen; omega
        have HA : Rd wr (Upto w.heap.size) 1 a1 len1 cap1 (ints .i64 z1) := W1.out.1.chg (Chg.of_below i3 Nil) (fun _ _ _ h => h)
        obtain ⟨g, off, rfl, _, _, hc⟩ := HA.at hz
        have hc1 := hc k hz
        clear hc HA
        have r1 := rest_nonneg z1[k] 2 (by omega)
        have r2 := rest_lt z1[k] 2 (by omega)
        have r3 := rest_nonneg (wrap64 (z1[k].tdiv 2)) 4 (by omega)
        have r4 := rest_lt (wrap64 (z1[k].tdiv 2)) 4 (by omega)
        obtain ⟨i, hi⟩ := Int.eq_ofNat_of_zero_le r3
        have hi4 : i < 4 := by omega
        have HI := hid hi
        rw [hi] at r3 r4
        clear hi
        have hln := i1.len
        replace i5 := hid i5
        replace hne := hid hne
        go_upto_if 37 with (go_at_call 13; refine (rest_any _ _ _ (by omega) (by omega)).mono ?_; (first | rw [HI.out] | skip); rintro e w' ⟨rfl, rfl⟩)
        go_cut [6, 7] (fun s6 s7 wc => ∃ (row : List Nat) (took : Int) (a : Option Addr) (c : Nat), took ≤ k + 1 ∧ 0 ≤ took ∧ s7 = .int .i64 took ∧ s6 = .slice a row.length c ∧ Hid (OneInv w p a0 row took a c wc))
        case first =>
          by_cases h2 : rest z1[k] 2 = 0
          · have hb2 : (rest z1[k] 2 == 0) = true := by rw [beq_iff_eq]; exact h2
            clear h2
            by_cases hm : i ∈ row
            · have hh : hasI (nats row) i = true := by rw [hasI_nats]; simpa using hm
              go_wp2_with (first | (go_at_call 14; refine (take_has i _ p _ row i1 hi4 hm).mono ?_; rintro e w' ⟨rfl, rfl⟩) | (go_at_call 23; refine (contains_int _ _ _ _ _ _ _ i2.rd (by omega)).mono ?_; rw [hh]; rintro e w' ⟨rfl, rfl⟩))
              go_meet
              exact ⟨row, took, a, c, by omega, by omega, rfl, rfl, hJ⟩
            · have hh : hasI (nats row) i = false := by rw [hasI_nats]; simpa using hm
              obtain ⟨n1, hn1⟩ : ∃ n1, n1 = ((a0 + (took - row.length)) % 65536 + row.length) % 65536 := ⟨_, rfl⟩
              have hap : ((n1 - a0 + 32768) % 65536 - 32768 != took) = false := by rw [bne_eq_false_iff_eq]; omega
              have u1 : 0 ≤ n1 := by omega
              have u2 : n1 < 65536 := by omega
              replace hn1 := hid hn1
              go_wp2_with (first | (go_at_call 14; refine (take_ok i _ p _ row i1 hi4 hm).mono ?_; rw [← hn1.out]; rintro e w5 ⟨rfl, q1, q2⟩; have i2' := i2.chg q2 (fun g hg hF => hne.out (by rw [hg, show g = p from hF])); have HS := hid (i2'.alloc (.cells #[.int .i64 i] 3)); have HN := hid (Rd.of_blk (n := 1) (s := 1) (Blk.new w5 3 (ints .i64 [(i : Int)])) rfl (by decide))) | (go_at_call 23; refine (contains_int _ _ _ _ _ _ _ i2'.rd (by omega)).mono ?_; rw [hh]; rintro e w' ⟨rfl, rfl⟩) | (go_at_call 18; refine (apart_ok _ _ _ (by omega) (by omega) (by omega) (by omega)).mono ?_; rintro e w' ⟨rfl, rfl⟩) | (at_builtin; refine wpList_append_sl rfl _ _ eInt rfl rfl rfl HS.out HN.out (ints_one _ _) (by omega) (by omega) ?_; intro a' c' w3 G' y1 y2 y3; replace y3 := hid y3))
              go_meet
              refine ⟨row ++ [i], took + 1, a', c', by omega, by omega, by go_num, by simp, G', ?_, ?_, ?_, i4, ?_, by simp; omega⟩
              · rw [show (a0 + (took + 1 - ((row ++ [i]).length : Nat))) % 65536 = (a0 + (took - row.length)) % 65536 by simp; omega]
                exact q1.chg (push_chg y2) (fun h => hne.out h)
              · have h1 := sl_push (nats_length row).symm y1
                have h2 : nats row ++ [(i : Int)] = nats (row ++ [i]) := by simp [nats]
                rw [h2, nats_length] at h1
                exact h1
              · exact below_chg (below_chg i3 q2 (fun k h => by rw [show k = p from h]; exact i4)) (push_chg y2) (fun k hk => i5.out k hk)
              · intro g hg
                rcases push_grew y3.out g hg with h | h
                · exact i5.out g h
                · have := q2.size; have := i3.size; omega
          · have hb2 : (rest z1[k] 2 == 0) = false := by rw [beq_eq_false_iff_ne]; exact h2
            clear h2
            cases row with
            | nil =>
              have hm : ([] : List Nat).head? ≠ some i := by simp
              go_wp2_with (go_at_call 15; refine (free_no i _ p _ [] i1 hi4 hm).mono ?_; rintro e w5 ⟨rfl, k1, rfl⟩)
              go_meet
              refine ⟨[], took, a, c, by omega, by omega, rfl, rfl, G, i1.chg ((Chg.refl Nil wr).drewN k1) (fun h => h), i2, below_nil i3 ((Chg.refl Nil wr).drewN k1), i4, i5.out, by simp; omega⟩
            | cons x r =>
              simp only [List.length_cons] at i6 hln
              obtain ⟨g', off', rfl, _, _, hc'⟩ := i2.rd.at (i := 0) (by simp [nats])
              have hx0 := hc' 0 (by simp [nats])
              have hx1 : wr.cell? ⟨g', off', none⟩ = some (.int .i64 (x : Int)) := by simpa [nats] using hx0
              clear hc' hx0
              have hcap := i2.1
              simp only [List.length_cons] at hcap
              by_cases hxi : x = i
              · subst hxi
                have hbx : (((x : Nat) : Int) == (x : Int)) = true := by simp
                have HT := hid (show ∃ G', Sl wr 3 1 (some ⟨g', off' + 1, none⟩) r.length (c - 1) (ints .i64 (nats r)) G' ∧ ∀ g'', G' = some g'' → G = some g'' from Sl.tail i2)
                have hfin : ∀ (w5 : World) (A : Option Addr) (C : Nat), LockAt w5 p (((a0 + (took - (x :: r).length)) % 65536 + 1) % 65536) r → Chg (One p) wr w5 → (∃ G3, Sl wr 3 1 A r.length C (ints .i64 (nats r)) G3 ∧ ∀ g', G3 = some g' → G = some g') → OneInv w p a0 r took A C w5 := by
                  rintro w5 A C q1 q2 ⟨G3, t1, t2⟩
                  refine ⟨G3, ?_, t1.chg q2 (fun g hg hF => hne.out (by rw [t2 g hg, show g = p from hF])), below_chg i3 q2 (fun k h => by rw [show k = p from h]; exact i4), i4, fun g hg => i5.out g (t2 g hg), by omega⟩
                  rw [show (a0 + (took - (r.length : Int))) % 65536 = ((a0 + (took - ((x :: r).length : Nat))) % 65536 + 1) % 65536 by simp; omega]
                  exact q1
                replace hfin := hid hfin
                have FREE : True := trivial
                by_cases hc1' : c = 1
                · go_wp2_with (go_at_call 15; refine (free_ok x _ p _ r i1).mono ?_; rintro e w5 ⟨rfl, q1, q2⟩; have hx2 := (q2.cell (a := ⟨g', off', none⟩) (lt_of_cell hx1).1 (fun hF => hne.out (by have := i2.rd.at (i := 0) (by simp [nats]); obtain ⟨g2, o2, e2, _, r2, _⟩ := this; injection e2 with e2; injection e2 with e2; rw [← e2] at r2; rw [← show g' = p from hF]; exact r2))).trans hx1)
                  go_meet
                  have h0 : r = [] := List.eq_nil_of_length_eq_zero (by omega)
                  subst h0
                  exact ⟨[], took, _, _, by omega, by omega, rfl, rfl, hfin.out _ _ _ q1 q2 ⟨none, Sl.empty _ _ _ _, fun _ h => by cases h⟩⟩
                · go_wp2_with (go_at_call 15; refine (free_ok x _ p _ r i1).mono ?_; rintro e w5 ⟨rfl, q1, q2⟩; have hx2 := (q2.cell (a := ⟨g', off', none⟩) (lt_of_cell hx1).1 (fun hF => hne.out (by have := i2.rd.at (i := 0) (by simp [nats]); obtain ⟨g2, o2, e2, _, r2, _⟩ := this; injection e2 with e2; injection e2 with e2; rw [← e2] at r2; rw [← show g' = p from hF]; exact r2))).trans hx1)
                  go_meet
                  exact ⟨r, took, _, _, by omega, by omega, rfl, rfl, hfin.out _ _ _ q1 q2 HT.out⟩
              · have hbx : (((x : Nat) : Int) == (i : Int)) = false := by rw [beq_eq_false_iff_ne]; omega
                have hm : (x :: r).head? ≠ some i := by simpa using hxi
                go_wp2_with (go_at_call 15; refine (free_no i _ p _ (x :: r) i1 hi4 hm).mono ?_; rintro e w5 ⟨rfl, k1, rfl⟩)
                go_meet
                refine ⟨x :: r, took, _, c, by omega, by omega, rfl, rfl, G, i1.chg ((Chg.refl Nil wr).drewN k1) (fun h => h), i2, below_nil i3 ((Chg.refl Nil wr).drewN k1), i4, i5.out, by simp; omega⟩
        case rest =>
          clear hJ i1 i2 i3 i4 i5 i6 hne hln ht1 ht2
          obtain ⟨row, took, a, c, ht1, ht2, rfl, rfl, hJ⟩ := hcut
          go_wp2
          obtain ⟨wo, rfl⟩ : ∃ wo : World, wo = wc := ⟨_, rfl⟩
          have hln : row.length ≤ 4 := by obtain ⟨G, i1, _⟩ := id hJ.out; exact i1.len
          go_loopw [14, 83] (fun s14 s83 wi => ∃ (j : Nat), j ≤ 4 ∧ s83 = .int .i64 j ∧ s14 = .int .i64 (mineTo row j) ∧ Hid (OneInv w p a0 row took a c wi)) (fun _ s83 _ => 4 - (intOf s83).toNat)
          case atStart =>
            refine ⟨0, by omega, rfl, ?_, hJ⟩
            have : mineTo row 0 = 0 := by unfold mineTo; split <;> simp
            rw [this]
          case round =>
            clear hJ
            obtain ⟨j, hj, rfl, rfl, hJ⟩ := hrel
            obtain ⟨G, i1, i2, i3, i4, i5, i6⟩ := id hJ.out
            have hmb := mineTo_bd row j
            by_cases hj4 : j < 4
            · have HNX : ∀ q, Hid (OneInv w p a0 row took a c (wr.drewN q)) := fun q => ⟨G, i1.chg ((Chg.refl Nil wr).drewN q) (fun h => h), i2, below_nil i3 ((Chg.refl Nil wr).drewN q), i4, i5, i6⟩
              replace HNX := hid HNX
              cases hrow : row.head? with
              | none =>
                have hd : decide (row.head? = some j) = false := by rw [hrow]; simp
                have hm0 := hid (mineTo_none hrow)
                replace hrow := hid hrow
                go_wp2_with (go_at_call 29; refine (mine_any j _ p _ row i1 hj4).mono ?_; rw [hd]; rintro e w5 ⟨rfl, k1, rfl⟩)
                go_roundw
                case rel => exact ⟨j + 1, by omega, by go_num, by rw [hm0.out, hm0.out], HNX.out k1⟩
                case measure => simp [intOf]; omega
              | some x =>
                obtain ⟨hl0, hx'⟩ := head_len hrow
                obtain ⟨g', off', rfl, _, _, hc'⟩ := i2.rd.at (i := 0) (by rw [nats_length]; exact hl0)
                have hx1 : wr.cell? ⟨g', off', none⟩ = some (.int .i64 (x : Int)) := by
                  have := hc' 0 (by rw [nats_length]; exact hl0)
                  rw [hx' (by rw [nats_length]; exact hl0)] at this
                  simpa using this
                clear hc' hx'
                have hlb : ((row.length : Int) == 0) = false := by rw [beq_eq_false_iff_ne]; omega
                have hms := hid (mineTo_some hrow)
                by_cases hxj : x = j
                · subst hxj
                  have hd : decide (row.head? = some x) = true := by rw [hrow]; simp
                  have hbx : (((x : Nat) : Int) != (x : Int)) = false := by simp
                  have hm0 := hid (show mineTo row x = 0 by rw [hms.out]; simp)
                  have hm1 := hid (show mineTo row (x + 1) = mineTo row x + 1 by rw [hms.out, hms.out]; simp)
                  replace hrow := hid hrow
                  go_wp2_with (go_at_call 29; refine (mine_any x _ p _ row i1 hj4).mono ?_; rw [hd]; rintro e w5 ⟨rfl, k1, rfl⟩)
                  go_roundw
                  case rel => exact ⟨x + 1, by omega, by go_num, by rw [hm1.out], HNX.out k1⟩
                  case measure => simp [intOf]; omega
                · have hd : decide (row.head? = some j) = false := by rw [hrow]; simpa using hxj
                  have hm1 := hid (show mineTo row (j + 1) = mineTo row j by rw [hms.out, hms.out]; split <;> split <;> omega)
                  replace hrow := hid hrow
                  go_wp2_with (go_at_call 29; refine (mine_any j _ p _ row i1 hj4).mono ?_; rw [hd]; rintro e w5 ⟨rfl, k1, rfl⟩)
                  go_roundw
                  case rel => exact ⟨j + 1, by omega, by go_num, by rw [hm1.out], HNX.out k1⟩
                  case measure => simp [intOf]; omega
            · have hj4' : j = 4 := by omega
              subst hj4'
              have hbx : ∀ x ∈ row, x < 4 := by obtain ⟨h1, t1, hb, hr⟩ := i1; exact hr.2.2.2.1
              have he : eqI (nats row) (nats row) = true := eqI_true rfl
              have hfin : ∀ w5 a5 c5 G5 q, Sl w5 3 1 a5 row.length c5 (ints .i64 (nats row)) G5 → Chg Nil wr w5 → OneInv w p a0 row took a c (w5.drewN q) := fun w5 a5 c5 G5 q q1 q2 =>
                ⟨G, (i1.chg q2 (fun h => h)).chg ((Chg.refl Nil w5).drewN q) (fun h => h), (i2.chg q2 (fun _ _ h => h)).drewN q, below_nil (below_nil i3 q2) ((Chg.refl Nil w5).drewN q), i4, i5, i6⟩
              replace hfin := hid hfin
              replace i5 := hid i5
              cases hrow : row.head? with
              | none =>
                have hm0 : mineTo row 4 = 0 := mineTo_none hrow 4
                have hl0 := head_none_len hrow
                have hl1 : ¬ (1 ≤ (row.length : Int)) := by omega
                have hv : ((0 : Int) != (row.length : Int)) = false := by rw [bne_eq_false_iff_eq]; omega
                rw [hm0]
                clear hmb hm0 hbx
                replace hrow := hid hrow
                replace hl0 := hid hl0
                go_wp2_with (first | (go_at_call 17; refine (row_any _ p _ row i1).mono ?_; rintro e w5 ⟨a5, c5, G5, rfl, q1, q2, q3⟩; replace q3 := hid q3; have i2' := i2.chg q2 (fun _ _ h => h)) | (go_at_call 16; refine (equal_int _ _ _ _ _ _ _ _ _ _ _ q1.rd i2'.rd (by omega) (by omega)).mono ?_; rw [he]; rintro e w7 ⟨rfl, kq, rfl⟩))
                go_roundw
                case rel => exact ⟨k + 1, row, took, a, c, by omega, by omega, by omega, by go_num, rfl, rfl, hfin.out _ _ _ _ _ q1 q2⟩
                case measure => simp [intOf]; omega
              | some x =>
                obtain ⟨hl0, hx'⟩ := head_len hrow
                have hx4 := hbx x (List.mem_of_mem_head? hrow)
                have hm1 : mineTo row 4 = 1 := by rw [mineTo_some hrow, if_pos hx4]
                rw [hm1]
                clear hmb hm1 hbx hx'
                replace hrow := hid hrow
                go_wp2_with (first | (go_at_call 17; refine (row_any _ p _ row i1).mono ?_; rintro e w5 ⟨a5, c5, G5, rfl, q1, q2, q3⟩; replace q3 := hid q3; have i2' := i2.chg q2 (fun _ _ h => h)) | (go_at_call 16; refine (equal_int _ _ _ _ _ _ _ _ _ _ _ q1.rd i2'.rd (by omega) (by omega)).mono ?_; rw [he]; rintro e w7 ⟨rfl, kq, rfl⟩))
                go_roundw
                case rel => exact ⟨k + 1, row, took, a, c, by omega, by omega, by omega, by go_num, rfl, rfl, hfin.out _ _ _ _ _ q1 q2⟩
                case measure => simp [intOf]; omega
      · go_wp2
        go_ret
        exact ⟨rfl, i3⟩
end Go.Proofs.Ytnbojhmlgnfneaa
