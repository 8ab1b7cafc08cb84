/- The walk of the law VtimeLags: it returns true and changes nothing that was there. No condition. -/
import Derived.Test.YtbkcjfeahaphgaaLag
import Derived.Deep.DeepCutAuto
import Derived.Deep.RegionHeld3
import Derived.WalkLawsBesides
import Derived.Deep.RegionLaw
namespace Go.Proofs.Ytbkcjfeahaphgaa
open Go.ChangeShapes Go.WideShapes Go.ChangeAt Go.RowKit
set_option linter.unusedVariables false
def wsOf (l : List Int) (k : Nat) : List Int := (l.take k).map (fun x => 1 + rest x 100)
def tsOf (l : List Int) (k : Nat) : List Int := (l.take k).map (fun x => rest x 1000)
theorem wsOf_succ (l : List Int) (k : Nat) (h : k < l.length) : wsOf l (k + 1) = wsOf l k ++ [1 + rest l[k] 100] := by
  unfold wsOf; rw [List.take_succ_eq_append_getElem h, List.map_append]; rfl
theorem tsOf_succ (l : List Int) (k : Nat) (h : k < l.length) : tsOf l (k + 1) = tsOf l k ++ [rest l[k] 1000] := by
  unfold tsOf; rw [List.take_succ_eq_append_getElem h, List.map_append]; rfl
theorem wsOf_len (l : List Int) (k : Nat) (h : k ≤ l.length) : (wsOf l k).length = k := by unfold wsOf; rw [List.length_map, List.length_take]; omega
theorem tsOf_len (l : List Int) (k : Nat) (h : k ≤ l.length) : (tsOf l k).length = k := by unfold tsOf; rw [List.length_map, List.length_take]; omega
theorem wsOf_bd (l : List Int) (k : Nat) : ∀ x ∈ wsOf l k, 1 ≤ x ∧ x ≤ 100 := by
  intro x hx
  obtain ⟨y, _, rfl⟩ := List.mem_map.1 hx
  have h1 := rest_nonneg y 100 (by omega)
  have h2 := rest_lt y 100 (by omega)
  omega
theorem tsOf_bd (l : List Int) (k : Nat) : ∀ x ∈ tsOf l k, 0 ≤ x ∧ x ≤ 999 := by
  intro x hx
  obtain ⟨y, _, rfl⟩ := List.mem_map.1 hx
  have h1 := rest_nonneg y 1000 (by omega)
  have h2 := rest_lt y 1000 (by omega)
  omega
/-- The lags of the first ones, added up. -/
def lagSum (ws ts : List Int) (k : Nat) : Int := ts.sum * (ws.take k).sum - (ts.take k).sum * ws.sum
theorem lagSum_succ (ws ts : List Int) (k : Nat) (h1 : k < ws.length) (h2 : k < ts.length) : lagSum ws ts (k + 1) = lagSum ws ts k + lagOf ws ts k := by
  unfold lagSum lagOf
  rw [sum_take_succ ws k h1, sum_take_succ ts k h2, Int.mul_add, Int.add_mul, List.getD_eq_getElem?_getD, List.getD_eq_getElem?_getD, List.getElem?_eq_getElem h1, List.getElem?_eq_getElem h2]
  simp only [Option.getD_some]
  omega
theorem lagSum_all (ws ts : List Int) (n : Nat) (h1 : ws.length = n) (h2 : ts.length = n) : lagSum ws ts n = 0 := by
  unfold lagSum
  rw [List.take_of_length_le (by omega), List.take_of_length_le (by omega)]
  omega
theorem sum_set (l : List Int) (i : Nat) (h : i < l.length) (v : Int) : (l.set i v).sum = l.sum - l[i] + v := by
  induction l generalizing i with
  | nil => simp at h
  | cons x l ih =>
    cases i with
    | zero => simp; omega
    | succ i =>
      have := ih i (by simpa using h)
      simp only [List.set_cons_succ, List.sum_cons, List.getElem_cons_succ, this]
      omega
theorem lag_more (ws ts : List Int) (i j : Nat) (hi : i < ts.length) (hj : j < ws.length) (hl : ws.length = ts.length) :
    lagOf ws (ts.set i (ts[i] + 1)) j = lagOf ws ts j + ws[j] - (if j = i then ws.sum else 0) := by
  have hj' : j < ts.length := by omega
  unfold lagOf
  rw [sum_set ts i hi, List.getD_eq_getElem?_getD, List.getD_eq_getElem?_getD, List.getD_eq_getElem?_getD, List.getElem?_eq_getElem hj, List.getElem?_eq_getElem hj']
  simp only [Option.getD_some]
  by_cases h : j = i
  · subst h
    rw [List.getElem?_set_self hi, if_pos rfl]
    simp only [Option.getD_some]
    rw [show ts.sum - ts[j] + (ts[j] + 1) = ts.sum + 1 by omega, Int.add_mul, Int.add_mul]
    omega
  · rw [List.getElem?_set_ne (fun e => h e.symm), List.getElem?_eq_getElem hj', if_neg h]
    simp only [Option.getD_some]
    rw [show ts.sum - ts[i] + (ts[i] + 1) = ts.sum + 1 by omega, Int.add_mul]
    omega
theorem sum_gt (ws : List Int) (hw : ∀ x ∈ ws, 1 ≤ x ∧ x ≤ 100) (i : Nat) (hi : i < ws.length) (h2 : 1 < ws.length) : ws[i] < ws.sum := by
  have h := sum_set ws i hi 0
  have hb : 1 ≤ (ws.set i 0).sum := by
    cases i with
    | zero =>
      cases ws with
      | nil => simp at h2
      | cons x l =>
        simp only [List.set_cons_zero, List.sum_cons]
        have := (sum_bd l 1 100 (fun y hy => hw y (by simp [hy]))).1
        simp only [List.length_cons] at h2
        omega
    | succ i =>
      cases ws with
      | nil => simp at h2
      | cons x l =>
        simp only [List.set_cons_succ, List.sum_cons]
        have hx := (hw x (by simp)).1
        have : 0 ≤ (l.set i 0).sum := by
          have := (sum_bd (l.set i 0) 0 100 (fun y hy => by
            rcases List.mem_or_eq_of_mem_set hy with h | h
            · have := hw y (by simp [h]); omega
            · omega)).1
          omega
        omega
  omega
theorem lagSum_bd (ws ts : List Int) (k : Nat) (hk : k ≤ ws.length) (hk' : k ≤ ts.length) (h16 : ws.length ≤ 16) (h16' : ts.length ≤ 16) (hw : ∀ x ∈ ws, 1 ≤ x ∧ x ≤ 100) (ht : ∀ x ∈ ts, 0 ≤ x ∧ x ≤ 1073741824) : -1000000000000000 ≤ lagSum ws ts k ∧ lagSum ws ts k ≤ 1000000000000000 := by
  have a1 := sum_bd ws 1 100 hw
  have a2 := sum_bd ts 0 1073741824 ht
  have a3 := sum_take_bd ws 1 100 k hk hw
  have a4 := sum_take_bd ts 0 1073741824 k hk' ht
  have p1 : ts.sum * (ws.take k).sum ≤ 17179869184 * 1600 := Int.mul_le_mul (by omega) (by omega) (by omega) (by omega)
  have p2 : (ts.take k).sum * ws.sum ≤ 17179869184 * 1600 := Int.mul_le_mul (by omega) (by omega) (by omega) (by omega)
  have p3 : 0 ≤ ts.sum * (ws.take k).sum := Int.mul_nonneg (by omega) (by omega)
  have p4 : 0 ≤ (ts.take k).sum * ws.sum := Int.mul_nonneg (by omega) (by omega)
  unfold lagSum
  omega
theorem lagOf_bd (ws ts : List Int) (k : Nat) (hk : k < ws.length) (hk' : k < ts.length) (h16 : ws.length ≤ 16) (h16' : ts.length ≤ 16) (hw : ∀ x ∈ ws, 1 ≤ x ∧ x ≤ 100) (ht : ∀ x ∈ ts, 0 ≤ x ∧ x ≤ 1073741824) : -2000000000000000 ≤ lagOf ws ts k ∧ lagOf ws ts k ≤ 2000000000000000 := by
  have h1 := lagSum_bd ws ts k (by omega) (by omega) h16 h16' hw ht
  have h2 := lagSum_bd ws ts (k + 1) (by omega) (by omega) h16 h16' hw ht
  have h3 := lagSum_succ ws ts k hk hk'
  omega
theorem old_cell {B : Nat} {w w3 : World} {F : Nat → Prop} (hc : Chg F w w3) (hF : ∀ k, F k → B ≤ k) {g o : Nat} {v : Value} (hg : g < B) (h : w.cell? ⟨g, o, none⟩ = some v) : w3.cell? ⟨g, o, none⟩ = some v :=
  (hc.cell (a := ⟨g, o, none⟩) (lt_of_cell h).1 (fun hf => by have := hF g hf; omega)).trans h
def LInv (w0 : World) (ws ts : List Int) (k : Nat) (a b : Option Addr) (c d : Nat) (w : World) : Prop :=
  ∃ G H, Below w0.heap.size w0 w ∧ Sl w 3 1 a k c (ints .i64 ws) G ∧ Sl w 3 1 b k d (ints .i64 ts) H ∧ Sep w0.heap.size w.heap.size [Opt G, Opt H]
set_option maxRecDepth 100000 in
set_option maxHeartbeats 2000000 in
theorem vtimeLags_walk (a0 : Option Addr) (len0 cap0 : Nat) (z0 : List Int) (a1 : Option Addr) (len1 cap1 : Nat) (z1 : List Int) (a2 : Int) (w : World) (w0 : IsRow .i64 w a0 len0 cap0 z0) (w1 : IsRow .i64 w a1 len1 cap1 z1) (w2 : (Lit.int .i64 a2).wf = true) :
    Calls Try.prog 6 #[.slice a0 len0 cap0, .slice a1 len1 cap1, .int .i64 a2] w fun e w' => e = .returned (.bool true) ∧ Below w.heap.size w w' := by
  have hl1 := w0.1.1
  have hl2 := w0.1.2.1
  have hl3 := w1.1.1
  have hl4 := w1.1.2.1
  unfold maxLen at hl2 hl4
  have hz0 := w0.1.ilen
  have hz1 := w1.1.ilen
  have W0 := hid w0
  have W1 := hid w1
  have Z0 := hid hz0
  have Z1 := hid hz1
  clear w0 w1 hz0 hz1
  have R0 : Hid (Rd ((w.alloc (.cells #[.int .i64 1, .int .i64 1] 3)).alloc (.cells #[.int .i64 3, .int .i64 5] 3)) (One w.heap.size) 1 (some ⟨w.heap.size, 0, none⟩) 2 2 (ints .i64 [1, 1])) := (Rd.of_blk (n := 2) (s := 1) (Blk.new w 3 (ints .i64 [1, 1])) rfl (by decide)).alloc _
  have R1 : Hid (Rd ((w.alloc (.cells #[.int .i64 1, .int .i64 1] 3)).alloc (.cells #[.int .i64 3, .int .i64 5] 3)) (One (w.alloc (.cells #[.int .i64 1, .int .i64 1] 3)).heap.size) 1 (some ⟨w.heap.size + 1, 0, none⟩) 2 2 (ints .i64 [3, 5])) := by
    have h := Rd.of_blk (n := 2) (s := 1) (Blk.new (w.alloc (.cells #[.int .i64 1, .int .i64 1] 3)) 3 (ints .i64 [3, 5])) rfl (by decide)
    have hs : (w.alloc (.cells #[.int .i64 1, .int .i64 1] 3)).heap.size = w.heap.size + 1 := by simp
    rw [hs] at h ⊢
    exact h
  have hlg : (lagOf [1, 1] [3, 5] 0 != 2) = false := by decide
  go_enter Try.func6, Try.ntmps6
  go_wp2_with fail
  refine (lag_ok _ _ _ _ _ 0 _ _ [1, 1] [3, 5] _ R0.out R1.out (by omega) (by simp) (by simp) (by omega)).mono ?_
  rintro e w1 ⟨rfl, kq, rfl⟩
  go_upto_region 4 with fail
  obtain ⟨wb, hwb⟩ : ∃ wb : World, wb = ((w.alloc (.cells #[.int .i64 1, .int .i64 1] 3)).alloc (.cells #[.int .i64 3, .int .i64 5] 3)).drewN kq := ⟨_, rfl⟩
  rw [← hwb]
  have bb : Below w.heap.size w wb := by rw [hwb]; exact below_nil (Below.refl _ w) ((((Chg.refl Nil w).alloc _).alloc _).drewN kq)
  replace hwb := hid hwb
  go_cut [9] (fun s9 wx => wx = wb ∧ ∃ n : Nat, n ≤ 16 ∧ n ≤ len0 ∧ n ≤ len1 ∧ s9 = .int .i64 n)
  case first =>
    go_wp2
    all_goals go_meet
    all_goals first
      | exact ⟨rfl, 16, by omega, by omega, by omega, rfl⟩
      | exact ⟨rfl, len0, by omega, by omega, by omega, rfl⟩
      | exact ⟨rfl, len1, by omega, by omega, by omega, rfl⟩
  case rest =>
    obtain ⟨rfl, n, hn1, hn2, hn3, rfl⟩ := hcut
    go_wp2
    go_loopw [10, 11, 38] (fun s10 s11 s38 wr => ∃ (k : Nat) (a b : Option Addr) (c d : Nat), k ≤ n ∧ s38 = .int .i64 k ∧ s10 = .slice a k c ∧ s11 = .slice b k d ∧ Hid (LInv w (wsOf z0 k) (tsOf z1 k) k a b c d wr)) (fun _ _ s38 _ => n - (intOf s38).toNat)
    case atStart =>
      refine ⟨0, none, none, 0, 0, by omega, rfl, rfl, rfl, none, none, bb, Sl.empty _ _ _ _, Sl.empty _ _ _ _, ?_⟩
      exact ((Sep.empty _ _).cons_none bb.size).cons_none bb.size
    case round =>
      obtain ⟨k, a, b, c, d, hk, rfl, rfl, rfl, hJ⟩ := hrel
      obtain ⟨G, H, i1, i2, i3, i4⟩ := id hJ.out
      by_cases hlt : k < n
      · have hk0 : k < z0.length := by have := Z0.out; omega
        have hk1 : k < z1.length := by have := Z1.out; omega
        obtain ⟨g, off, rfl, g1, g2, hc⟩ := (W0.out.1.chg (Chg.of_below i1 Nil) (fun _ _ _ h => h)).at hk0
        obtain ⟨g', off', rfl, g1', g2', hd⟩ := (W1.out.1.chg (Chg.of_below i1 Nil) (fun _ _ _ h => h)).at hk1
        have hc1 := hc k hk0
        have hd1 := hd k hk1
        clear hc hd
        have r1 := rest_nonneg z0[k] 100 (by omega)
        have r2 := rest_lt z0[k] 100 (by omega)
        have r3 := rest_nonneg z1[k] 1000 (by omega)
        have r4 := rest_lt z1[k] 1000 (by omega)
        have j1 : (k : Int) < (len0 : Int) := by omega
        have j2 : (k : Int) < (len1 : Int) := by omega
        have j3 : (k : Int) < (n : Int) := by omega
        have ea := World.new_ne wr ⟨g, off + k, none⟩ hc1
        have eb := World.new_ne wr ⟨g', off' + k, none⟩ hd1
        have HS1 : Hid (Sl (wr.alloc (.cells #[.int .i64 (1 + rest z0[k] 100)] 3)).drew 3 1 a k c (ints .i64 (wsOf z0 k)) G) := i2.alloc _
        have HN1 : Hid (Rd (wr.alloc (.cells #[.int .i64 (1 + rest z0[k] 100)] 3)).drew (One wr.heap.size) 1 (some ⟨wr.heap.size, 0, none⟩) 1 1 (ints .i64 [1 + rest z0[k] 100])) := Rd.of_blk (n := 1) (s := 1) (Blk.new wr 3 (ints .i64 [1 + rest z0[k] 100])) rfl (by decide)
        have hone1 := ints_one .i64 [1 + rest z0[k] 100]
        have hk16 : k + 1 ≤ 4294967296 := by omega
        have h84 : 8 ≤ 4096 := by omega
        go_wp2
        have hwr : IntKind.i64.wrap (1 + rest z0[k] 100) = 1 + rest z0[k] 100 := IntWalk.i64_in _ (by omega)
        have hlt0 : g < w.heap.size := g2
        have hlt1 : g' < w.heap.size := g2'
        have hB := i1.size
        have hone2 := ints_one .i64 [rest z1[k] 1000]
        have ca : (wr.alloc (.cells #[.int .i64 (1 + rest z0[k] 100)] 3)).drew.cell? ⟨g, off + k, none⟩ = some (.int .i64 z0[k]) := (((Chg.refl Nil wr).alloc (.cells #[.int .i64 (1 + rest z0[k] 100)] 3)).cell (a := ⟨g, off + k, none⟩) g1 (fun h => h)).trans hc1
        have cb : (wr.alloc (.cells #[.int .i64 (1 + rest z0[k] 100)] 3)).drew.cell? ⟨g', off' + k, none⟩ = some (.int .i64 z1[k]) := (((Chg.refl Nil wr).alloc (.cells #[.int .i64 (1 + rest z0[k] 100)] 3)).cell (a := ⟨g', off' + k, none⟩) g1' (fun h => h)).trans hd1
        have CA := hid ca
        have CB := hid cb
        clear ca cb
        have I4 := hid i4
        clear i4
        have dGH := hid (I4.out.dj 0 1 rfl rfl (by decide))
        go_region_held3 (fun w' => w'.cell? ⟨g, off + k, none⟩ = some (.int .i64 z0[k]) ∧ w'.cell? ⟨g', off' + k, none⟩ = some (.int .i64 z1[k])) (first | exact ⟨k1, k2⟩ | exact ⟨k3, k4⟩ | exact ⟨k5, k6⟩ | go_keep)
          (first | (go_at_call 12; refine (rest_any _ _ _ (by omega) (by omega)).mono ?_; rintro e w' ⟨rfl, rfl⟩) | (refine step_append_sl rfl (.tmp 41) (.tmp 48) eInt rfl rfl rfl HS1.out HN1.out hone1 hk16 h84 ?_; intro a' c' w3 G' y1 y2 y3; have k1 := old_cell y2 (I4.out.ge 0 rfl) hlt0 CA.out; have k2 := old_cell y2 (I4.out.ge 0 rfl) hlt1 CB.out; have k3 := ((Chg.refl Nil w3).alloc (.cells #[.int .i64 (rest z1[k] 1000)] 3)).cell (a := ⟨g, off + k, none⟩) (lt_of_cell k1).1 (fun h => h) |>.trans k1; have k4 := ((Chg.refl Nil w3).alloc (.cells #[.int .i64 (rest z1[k] 1000)] 3)).cell (a := ⟨g', off' + k, none⟩) (lt_of_cell k2).1 (fun h => h) |>.trans k2; replace y3 := hid y3; have y2' : Chg (Opt G) wr w3 := (((Chg.refl _ wr).alloc _).drew).trans y2 (fun _ _ h => h); have HS2 := hid ((i3.chg y2' (fun x hx hG => dGH.out x hG hx)).alloc (.cells #[.int .i64 (rest z1[k] 1000)] 3)); have HN2 := hid (Rd.of_blk (n := 1) (s := 1) (Blk.new w3 3 (ints .i64 [rest z1[k] 1000])) rfl (by decide))) | (refine step_append_sl rfl (.tmp 50) (.tmp 56) eInt rfl rfl rfl HS2.out HN2.out hone2 hk16 h84 ?_; intro a'' c'' w5 G'' v1 v2 v3; have k5 := old_cell v2 (I4.out.ge 1 rfl) hlt0 k3; have k6 := old_cell v2 (I4.out.ge 1 rfl) hlt1 k4; replace v3 := hid v3))
        go_wp2
        go_roundw
        case rel =>
          have e1 := wsOf_succ z0 k hk0
          have e2 := tsOf_succ z1 k hk1
          have hs1 := I4.out.upd 0 (F' := Opt G') rfl (fun x hx => by
            rcases opt_grew y3.out x hx with h | h
            · exact .inl h
            · simp at h; exact .inr (by omega)) (N' := w3.heap.size) y1.lt y2'.size hB
          have hs2 := push_sep (i := 1) hs1 rfl v2 v3.out v1.lt (Nat.le_trans hB y2'.size)
          refine ⟨k + 1, a', a'', c', c'', by omega, by go_num, rfl, rfl, G', G'', ?_, ?_, ?_, hs2⟩
          · exact below_chg (below_chg i1 y2' (I4.out.ge 0 rfl)) (push_chg v2) (I4.out.ge 1 rfl)
          · rw [e1, ← ints_append]
            exact y1.chg (push_chg v2) (fun x hx hG => hs1.dj 0 1 rfl rfl (by decide) x hx hG)
          · rw [e2, ← ints_append]
            exact v1
        case measure => simp [intOf]; omega
      · obtain rfl : k = n := by omega
        obtain ⟨ws, hws⟩ : ∃ ws, ws = wsOf z0 k := ⟨_, rfl⟩
        obtain ⟨ts, hts⟩ : ∃ ts, ts = tsOf z1 k := ⟨_, rfl⟩
        have lw : ws.length = k := by rw [hws]; exact wsOf_len z0 k (by have := Z0.out; omega)
        have lt : ts.length = k := by rw [hts]; exact tsOf_len z1 k (by have := Z1.out; omega)
        have hw : ∀ x ∈ ws, 1 ≤ x ∧ x ≤ 100 := by rw [hws]; exact wsOf_bd z0 k
        have ht9 : ∀ x ∈ ts, 0 ≤ x ∧ x ≤ 999 := by rw [hts]; exact tsOf_bd z1 k
        rw [← hws] at i2
        rw [← hts] at i3
        clear hws hts hJ
        by_cases hk0 : k = 0
        · have hkb : ((k : Int) == 0) = true := by rw [beq_iff_eq]; omega
          replace hk0 := hid hk0
          clear hw ht9 lw lt i4
          go_wp2
          go_ret
          exact ⟨rfl, i1⟩
        · have hkb : ((k : Int) == 0) = false := by rw [beq_eq_false_iff_ne]; omega
          have r1 := rest_nonneg a2 k (by omega)
          have r2 := rest_lt a2 k (by omega)
          obtain ⟨r, hr⟩ := Int.eq_ofNat_of_zero_le r1
          have hrk : r < k := by omega
          have HR := hid hr
          clear hr r1 r2
          have HW := hid hw
          have HT9 := hid ht9
          have LW := hid lw
          have LT := hid lt
          have hrt : r < ts.length := by omega
          have tb := ht9 ts[r] (List.getElem_mem hrt)
          have I4 := hid i4
          clear hw ht9 lw lt i4
          go_wp2_with (first | (go_at_call 12; refine (rest_any _ _ _ (by omega) (by omega)).mono ?_; rw [HR.out]; rintro e w' ⟨rfl, rfl⟩) | (go_at_call 16; refine (clone_int _ _ _ _ _ _ i3.rd (ints_one _ _) (by omega)).mono ?_; rintro e w3 ⟨a3, c3, G3, rfl, q1, q2, q3⟩; obtain ⟨gm, om, rfl, _, gmr, hcm⟩ := q1.rd.at hrt; have hm1 := hcm r hrt; clear hcm; have fm : w3.frozen? ⟨gm, om + r, none⟩ = false := q1.unfrozen hrk; replace q3 := hid q3))
          have hmore : Sl (w3.setCell ⟨gm, om + r, none⟩ (.int .i64 (ts[r] + 1))) 3 1 (some ⟨gm, om, none⟩) k c3 (ints .i64 (ts.set r (ts[r] + 1))) G3 := by
            have := q1.put hrk (.int .i64 (ts[r] + 1))
            rw [show (ints .i64 ts).set r (.int .i64 (ts[r] + 1)) = ints .i64 (ts.set r (ts[r] + 1)) by rw [ints, ints, List.map_set]] at this
            exact this
          have hgm : G3 = some gm := gmr
          have cset : Chg (Opt G3) w3 (w3.setCell ⟨gm, om + r, none⟩ (.int .i64 (ts[r] + 1))) := (Chg.refl _ w3).setCell (p := ⟨gm, om + r, none⟩) (.inl hgm) _
          have sw := (i2.chg q2 (fun _ _ h => h)).chg cset (fun x hx hG => by have h1 := i2.lt x hx; have h2 := q3.out x hG; omega)
          have st := (i3.chg q2 (fun _ _ h => h)).chg cset (fun x hx hG => by have h1 := i3.lt x hx; have h2 := q3.out x hG; omega)
          have bw := below_chg (below_nil i1 q2) cset (fun x hx => by have h2 := q3.out x hx; have h3 := i1.size; omega)
          have X := hid (show Sl _ _ _ _ _ _ _ _ ∧ Sl _ _ _ _ _ _ _ _ ∧ Sl _ _ _ _ _ _ _ _ ∧ Below _ _ _ from ⟨sw, st, hmore, bw⟩)
          clear sw st hmore bw cset hgm q1 i2 i3 i1 hm1 fm gmr
          generalize w3.setCell ⟨gm, om + r, none⟩ (.int .i64 (ts[r] + 1)) = wm at X ⊢
          go_loopw [14, 73] (fun s14 s73 wv => ∃ j : Nat, j ≤ k ∧ s73 = .int .i64 j ∧ s14 = .int .i64 (lagSum ws ts j) ∧ Hid (∃ q, wv = wm.drewN q)) (fun _ s73 _ => k - (intOf s73).toNat)
          case atStart => exact ⟨0, by omega, rfl, by simp [lagSum], 0, rfl⟩
          case round =>
            obtain ⟨j, hj, rfl, rfl, q, rfl⟩ := hrel
            have ht : ∀ x ∈ ts, 0 ≤ x ∧ x ≤ 1073741824 := fun x hx => by have := HT9.out x hx; omega
            have ht' : ∀ x ∈ ts.set r (ts[r] + 1), 0 ≤ x ∧ x ≤ 1073741824 := fun x hx => by
              rcases List.mem_or_eq_of_mem_set hx with h | h
              · exact ht x h
              · omega
            have lw := LW.out
            have lt := LT.out
            have sb := lagSum_bd ws ts j (by omega) (by omega) (by omega) (by omega) HW.out ht
            by_cases hjk : j < k
            · have hjw : j < ws.length := by omega
              have hjt : j < ts.length := by omega
              have hjt' : j < (ts.set r (ts[r] + 1)).length := by rw [List.length_set]; omega
              have lb := lagOf_bd ws ts j hjw hjt (by omega) (by omega) HW.out ht
              have lb' := lagOf_bd ws (ts.set r (ts[r] + 1)) j hjw hjt' (by omega) (by rw [List.length_set]; omega) HW.out ht'
              have hm := lag_more ws ts r j hrt hjw (by omega)
              have wb := HW.out ws[j] (List.getElem_mem hjw)
              have hss := hid (lagSum_succ ws ts j hjw hjt)
              obtain ⟨gw, ow, rfl, _, _, hcw⟩ := X.out.1.rd.at hjw
              have hw1 := hcw j hjw
              clear hcw
              have HTT := hid ht
              have HTT' := hid ht'
              have i9 : (j : Int) < (k : Int) := by omega
              obtain ⟨L, hL⟩ : ∃ L, L = lagOf ws ts j := ⟨_, rfl⟩
              obtain ⟨M, hM⟩ : ∃ M, M = lagOf ws (ts.set r (ts[r] + 1)) j := ⟨_, rfl⟩
              rw [← hL] at lb
              rw [← hM] at lb'
              rw [← hL, ← hM] at hm
              replace hL := hid hL
              replace hM := hid hM
              have LAGS : True := trivial
              clear lw lt ht ht'
              by_cases hjr : j = r
              · rw [if_pos hjr] at hm
                have c1 : ((j : Int) != (r : Int)) = false := by rw [bne_eq_false_iff_eq]; omega
                have c2 : ((j : Int) == (r : Int)) = true := by rw [beq_iff_eq]; omega
                by_cases hk1 : 1 < k
                · have hgt := sum_gt ws HW.out j hjw (by have := LW.out; omega)
                  have c3 : decide (L ≤ M) = false := by simp; omega
                  replace hm := hid hm
                  replace hjr := hid hjr
                  clear hgt
                  go_wp2_with fail
                  refine (lag_ok _ _ _ _ _ j _ _ ws ts _ (X.out.1.rd.drewN _) (X.out.2.1.rd.drewN _) (by omega) HW.out HTT.out hjk).mono ?_
                  rw [← hL.out]
                  rintro e w' ⟨rfl, kq, rfl⟩
                  go_wp2_with fail
                  refine (lag_ok _ _ _ _ _ j _ _ ws _ _ (X.out.1.rd.drewN _) (X.out.2.2.1.rd.drewN _) (by omega) HW.out HTT'.out hjk).mono ?_
                  rw [← hM.out]
                  rintro e w' ⟨rfl, kq2, rfl⟩
                  go_wp2
                  go_roundw
                  case rel => exact ⟨j + 1, by omega, by go_num, by rw [hss.out, ← hL.out], _, rfl⟩
                  case measure => simp [intOf]; omega
                · replace hm := hid hm
                  replace hjr := hid hjr
                  have c4 : decide (1 < (k : Int)) = false := by simp; omega
                  go_wp2_with fail
                  refine (lag_ok _ _ _ _ _ j _ _ ws ts _ (X.out.1.rd.drewN _) (X.out.2.1.rd.drewN _) (by omega) HW.out HTT.out hjk).mono ?_
                  rw [← hL.out]
                  rintro e w' ⟨rfl, kq, rfl⟩
                  go_wp2_with fail
                  refine (lag_ok _ _ _ _ _ j _ _ ws _ _ (X.out.1.rd.drewN _) (X.out.2.2.1.rd.drewN _) (by omega) HW.out HTT'.out hjk).mono ?_
                  rw [← hM.out]
                  rintro e w' ⟨rfl, kq2, rfl⟩
                  go_wp2
                  go_roundw
                  case rel => exact ⟨j + 1, by omega, by go_num, by rw [hss.out, ← hL.out], _, rfl⟩
                  case measure => simp [intOf]; omega
              · rw [if_neg hjr] at hm
                have c1 : ((j : Int) != (r : Int)) = true := by rw [bne_iff_ne]; omega
                have c2 : ((j : Int) == (r : Int)) = false := by rw [beq_eq_false_iff_ne]; omega
                have c3 : (M != L + ws[j]) = false := by rw [bne_eq_false_iff_eq]; omega
                replace hm := hid hm
                replace hjr := hid hjr
                go_wp2_with fail
                refine (lag_ok _ _ _ _ _ j _ _ ws ts _ (X.out.1.rd.drewN _) (X.out.2.1.rd.drewN _) (by omega) HW.out HTT.out hjk).mono ?_
                rw [← hL.out]
                rintro e w' ⟨rfl, kq, rfl⟩
                go_wp2_with fail
                refine (lag_ok _ _ _ _ _ j _ _ ws _ _ (X.out.1.rd.drewN _) (X.out.2.2.1.rd.drewN _) (by omega) HW.out HTT'.out hjk).mono ?_
                rw [← hM.out]
                rintro e w' ⟨rfl, kq2, rfl⟩
                go_wp2
                go_roundw
                case rel => exact ⟨j + 1, by omega, by go_num, by rw [hss.out, ← hL.out], _, rfl⟩
                case measure => simp [intOf]; omega
            · obtain rfl : j = k := by omega
              have hz : (lagSum ws ts j == 0) = true := by rw [beq_iff_eq]; exact lagSum_all ws ts j lw lt
              replace lw := hid lw
              replace lt := hid lt
              clear ht ht'
              go_wp2
              go_ret
              exact ⟨by simp, below_nil X.out.2.2.2 ((Chg.refl Nil wm).drewN q)⟩
end Go.Proofs.Ytbkcjfeahaphgaa
