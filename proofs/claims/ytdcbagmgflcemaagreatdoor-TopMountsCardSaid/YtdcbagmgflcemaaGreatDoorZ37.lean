/- Package dir: entries are right; they are sorted already. Conditions: names of one letter, all apart; at most two entries, by rising names · Entries that lie by rising names are sorted: nothing moves. Conditions: at most two; names of one letter · Entries that lie by rising names are sorted: two. Conditions: at most two; names of one letter · dir.Lay: the tree of entries is laid. Conditions: at most two entries, by rising names, of one letter each · dir.Lay: entries as bytes. Conditions: at most two entries, by rising names, of one letter each. -/
import Derived.Test.YtdcbagmgflcemaaGreatDoorZ30
import Derived.Test.YtdcbagmgflcemaaGreatDoorZ16
namespace Go.Proofs.YtdcbagmgflcemaaGreatDoor
open Go.ChangeShapes Go.WideShapes Go.ChangeAt Go.RowKit
set_option linter.unusedVariables false
theorem enL_take (l : List En) (k : Nat) : (enL l).take (k * 2) = enL (l.take k) := by
  induction l generalizing k with
  | nil => simp [enL]
  | cons x l ih =>
    cases k with
    | zero => simp [enL]
    | succ k =>
      have e : enL (x :: l) = En.row x ++ enL l := rfl
      have e2 : enL (List.take (k + 1) (x :: l)) = En.row x ++ enL (l.take k) := rfl
      rw [e, e2, List.take_append, List.take_of_length_le (by simp [En.row]; omega), show (k + 1) * 2 - (En.row x).length = k * 2 by simp [En.row]; omega, ih]
theorem enL_one (l : List En) : ∀ u ∈ enL l, u.oneCell' = true := by
  intro u hu
  unfold enL at hu
  rw [List.mem_flatMap] at hu
  obtain ⟨x, _, hx⟩ := hu
  simp only [En.row, List.mem_cons, List.not_mem_nil, or_false] at hx
  rcases hx with rfl | rfl <;> rfl
set_option maxRecDepth 100000 in
set_option maxHeartbeats 1000000 in
theorem dright_ok (R : Nat → Prop) (a : Option Addr) (n c : Nat) (l : List En) (w : World) (h : Rd w R 2 a n c (enL l)) (hn : n = l.length) (hl : n ≤ 32) (hok : ∀ y, y ∈ l → EnOk y) (hd : ∀ (k : Nat) (x : En), l[k]? = some x → ∀ y, y ∈ l.take k → (x.c == y.c) = false) :
    Calls Tryz.prog 335 #[.slice a n c] w fun e w' => e = .returned (.int .i64 0) ∧ Chg Nil w w' := by
  subst hn
  have H := hid h
  have HOK := hid hok
  have HD := hid hd
  clear h hok hd
  go_enter Tryz.func335, Tryz.ntmps335
  go_wp2
  go_loopw [10] (fun i wr => ∃ k : Nat, k ≤ l.length ∧ i = .int .i64 k ∧ Hid (Chg Nil w wr)) (fun i _ => l.length - (intOf i).toNat)
  case atStart => exact ⟨0, Nat.zero_le _, rfl, Chg.refl _ _⟩
  case round =>
    obtain ⟨k, hk, rfl, hw⟩ := hrel
    by_cases hlt : k < l.length
    · obtain ⟨g, off, hg0, hg1, hg2, hc⟩ := (H.out.chg hw.out (fun _ _ _ h => h)).elem (f := En.row) (fun _ => rfl) rfl (by omega)
      have hx1 := HOK.out _ (List.getElem_mem hlt)
      have hx2 := HD.out k _ (List.getElem?_eq_getElem hlt)
      have e0 := hc k hlt 0 (by omega)
      have e1 := hc k hlt 1 (by omega)
      clear hc
      simp only [En.row, List.getElem?_cons_succ, List.getElem?_cons_zero, Nat.add_zero] at e0 e1
      have HT := hid (fun W (hcw : Chg Nil w W) (q : Nat) (hq : W.cell? ⟨q, 0, none⟩ = some (.string ⟨#[l[k].c]⟩)) => econR R a k c q (l.take k) l[k] W (by rw [← enL_take]; exact (H.out.chg hcw (fun _ _ _ h => h)).take_n hk) (by rw [List.length_take]; omega) (by omega) hq hx2)
      subst hg0
      obtain ⟨x, hx⟩ : ∃ x, x = l[k] := ⟨_, rfl⟩
      rw [← hx] at e0 e1 hx1 HT
      obtain ⟨hnm, hi1, hi2⟩ : IsNm x.c ∧ 1 ≤ x.i ∧ x.i ≤ 32 := hx1
      have i1 : ¬ ((x.i : Int) < 1) := by omega
      have i2 : ¬ ((x.i : Int) > 32) := by omega
      have HN := hid (fun W => dname_ok W x.c hnm)
      have hkc : k ≤ c := Nat.le_trans hk H.out.1
      clear hx2 hx
      replace hnm := hid hnm
      replace hi1 := hid hi1
      replace hi2 := hid hi2
      go_wp2_with fail
      refine (HN.out _).mono ?_
      rintro e w' ⟨rfl, rfl⟩
      have C1 := hw.out.alloc (.cells #[.string ⟨#[x.c]⟩, .int .i64 (x.i : Int)] 389)
      have q0 : (wr.alloc (.cells #[.string ⟨#[x.c]⟩, .int .i64 (x.i : Int)] 389)).cell? ⟨wr.heap.size, 0, none⟩ = some (.string ⟨#[x.c]⟩) := (Blk.new wr 389 [.string ⟨#[x.c]⟩, .int .i64 (x.i : Int)]).cell 0
      have HU := hid (HT.out _ C1 _ q0)
      go_wp2_with fail
      refine HU.out.mono ?_
      rintro e w2 ⟨rfl, d1⟩
      replace C1 := hid C1
      replace d1 := hid d1
      go_wp2
      go_roundw
      case rel => exact ⟨k + 1, by omega, by go_num, C1.out.trans d1.out (fun _ _ h => h)⟩
      case measure => simp [intOf]; omega
    · go_wp2
      go_ret
      exact ⟨rfl, hw.out⟩
end Go.Proofs.YtdcbagmgflcemaaGreatDoor
namespace Go.Proofs.YtdcbagmgflcemaaGreatDoor
open Go.ChangeShapes Go.WideShapes Go.ChangeAt Go.RowKit
set_option linter.unusedVariables false
theorem eEn : ETy Tryz.prog 29 389 2 24 := ⟨Tryz.underlying29, info_of (z := .agg #[.string ⟨#[]⟩, .int .i64 0]) (by kernel_rfl) rfl, by decide⟩
theorem eclone_ok (R : Nat → Prop) (a : Option Addr) (n c : Nat) (xs : List Value) (w : World) (h : Rd w R 2 a n c xs) (hone : ∀ u ∈ xs, u.oneCell' = true) (hn : n ≤ 4294967296) :
    Calls Tryz.prog 336 #[.slice a n c] w fun e w' => ∃ a' c' G, e = .returned (.slice a' n c') ∧ Sl w' 389 2 a' n c' xs G ∧ Chg Nil w w' ∧ ∀ g, G = some g → w.heap.size ≤ g := by
  have he := fun (w : World) (a : Option Addr) (n c : Nat) => Lib.run_eql_slice_nil (P := Tryz.prog) w 29 389 a n c 0 0 Tryz.underlying29
  cases a with
  | none =>
    have h1 : n = 0 := rd_none h
    subst h1
    have hx : xs = [] := List.eq_nil_of_length_eq_zero (by have := h.len; omega)
    subst hx
    clear h
    go_enter Tryz.func336, Tryz.ntmps336
    go_wp2
    go_ret
    exact ⟨none, 0, none, rfl, Sl.empty _ _ _ _, Chg.refl _ _, fun g hg => by cases hg⟩
  | some x =>
    have H := hid (h.alloc (.cells #[] 389))
    have HO := hid hone
    clear h hone
    go_enter Tryz.func336, Tryz.ntmps336
    go_wp2_with (at_builtin; refine wpList_append_sl rfl _ _ eEn rfl rfl rfl (Sl.empty _ _ _ _) H.out HO.out (by omega) (by omega) ?_; intro a' c' w' G' q1 q2 q3)
    go_ret
    rw [Nat.zero_add, List.nil_append] at q1
    refine ⟨_, _, G', rfl, q1, ((Chg.refl Nil w).alloc _).trans q2 (fun i _ h => by cases h), fun g hg => ?_⟩
    rcases q3 with q3 | q3 <;> rw [q3] at hg
    · cases hg
    · injection hg with hg; rw [← hg]; simp
set_option maxRecDepth 100000 in
theorem elay1_ok (x y : En) (hx : IsNm x.c) (hy : IsNm y.c) (w : World) :
    Calls Tryz.prog 338 #[.agg #[.string ⟨#[x.c]⟩, .int .i64 (x.i : Int)], .agg #[.string ⟨#[y.c]⟩, .int .i64 (y.i : Int)]] w fun e w' => e = .returned (.int .i64 (cmpN x.c y.c)) ∧ Chg Nil w w' := by
  have HC := hid (fun W => cmpstr_ok W x.c y.c hx hy)
  clear hx hy
  go_enter Tryz.func338, Tryz.ntmps338
  go_wp2_with fail
  refine (HC.out _).mono ?_
  rintro e w' ⟨rfl, rfl⟩
  go_wp2
  go_ret
  exact ⟨rfl, ((Chg.refl _ _).alloc _).alloc _⟩
set_option maxRecDepth 100000 in
theorem len64_2 (w : World) (n : Nat) (hn : n ≤ 2) : Calls Tryz.prog 285 #[.int .u64 (n : Int)] w fun e w' => e = .returned (.int .i64 (n : Int)) ∧ w' = w := by
  obtain rfl | rfl | rfl : n = 0 ∨ n = 1 ∨ n = 2 := by omega
  all_goals
    go_enter Tryz.func285, Tryz.ntmps285
    go_wp2
    go_ret
    exact ⟨by kernel_rfl, rfl⟩
set_option maxRecDepth 100000 in
theorem len_2 (w : World) (n : Nat) (hn : n ≤ 2) : Calls Tryz.prog 217 #[.int .u64 (n : Int)] w fun e w' => e = .returned (.int .i64 (n : Int)) ∧ w' = w := by
  have H := hid (fun W => len64_2 W n hn)
  go_enter Tryz.func217, Tryz.ntmps217
  go_wp2_with (go_at_call 285; refine (H.out _).mono ?_; rintro e w' ⟨rfl, rfl⟩)
  go_ret
  exact ⟨rfl, rfl⟩
def EnS (l : List En) : Prop := (∀ y, y ∈ l → EnOk y) ∧ (l = [] ∨ (∃ x, l = [x]) ∨ ∃ x y, l = [x, y] ∧ x.c < y.c)
theorem EnS.len {l : List En} (h : EnS l) : l.length ≤ 2 := by
  rcases h.2 with rfl | ⟨x, rfl⟩ | ⟨x, y, rfl, _⟩ <;> simp
theorem EnS.apart {l : List En} (h : EnS l) : ∀ (k : Nat) (x : En), l[k]? = some x → ∀ y, y ∈ l.take k → (x.c == y.c) = false := by
  intro k x hx y hy
  rcases h.2 with rfl | ⟨z, rfl⟩ | ⟨z, u, rfl, hlt⟩
  · cases hx
  · match k with
    | 0 => simp at hy
    | k + 1 => simp at hx
  · match k with
    | 0 => simp at hy
    | 1 =>
      simp at hx hy
      subst hx; subst hy
      rw [beq_eq_false_iff_ne]
      intro hh
      rw [hh] at hlt
      exact absurd hlt (UInt8.lt_irrefl _)
    | k + 2 => simp at hx
theorem cmpN_gt {c d : UInt8} (h : c < d) : cmpN d c = 1 := by
  unfold cmpN
  rw [if_neg (UInt8.lt_asymm h), if_pos h]
set_option maxRecDepth 100000 in
theorem einsert_1 (a : Option Addr) (n c : Nat) (w : World) (g : Value) (hn : n ≤ 1) :
    Calls Tryz.prog 378 #[.slice a n c, .int .i64 0, .int .i64 (n : Int), g] w fun e w' => e = .returned (.tuple #[]) ∧ w' = w := by
  have hn' : ¬ ((1 : Int) < (n : Int)) := by omega
  go_enter Tryz.func378, Tryz.ntmps378
  go_wp2
  go_loop [8] (fun i => i = .int .i64 1) (fun _ => 0)
  case atStart => rfl
  case round =>
    subst hrel
    go_wp2
    go_end0
    exact ⟨rfl, rfl⟩
end Go.Proofs.YtdcbagmgflcemaaGreatDoor
namespace Go.Proofs.YtdcbagmgflcemaaGreatDoor
open Go.ChangeShapes Go.WideShapes Go.ChangeAt Go.RowKit
set_option linter.unusedVariables false
set_option maxRecDepth 100000 in
set_option maxHeartbeats 1000000 in
theorem einsert_2 (R : Nat → Prop) (a : Option Addr) (c : Nat) (x y : En) (w : World) (h : Rd w R 2 a 2 c (enL [x, y])) (hx : IsNm x.c) (hy : IsNm y.c) (hlt : x.c < y.c) :
    Calls Tryz.prog 378 #[.slice a 2 c, .int .i64 0, .int .i64 2, .func (.func 338) #[] #[]] w fun e w' => e = .returned (.tuple #[]) ∧ Chg Nil w w' := by
  obtain ⟨g, off, hg0, hg1, hg2, hc⟩ := h.elem (f := En.row) (l := [x, y]) (fun _ => rfl) rfl (by omega)
  subst hg0
  have a0 := hc 0 (by simp) 0 (by omega)
  have a1 := hc 0 (by simp) 1 (by omega)
  have b0 := hc 1 (by simp) 0 (by omega)
  have b1 := hc 1 (by simp) 1 (by omega)
  simp only [En.row, List.getElem_cons_zero, List.getElem_cons_succ, List.getElem?_cons_succ, List.getElem?_cons_zero, Nat.add_zero, Nat.zero_mul, Nat.one_mul] at a0 a1 b0 b1
  have HC := hid (fun W => by have := elay1_ok y x hy hx W; rwa [cmpN_gt hlt] at this)
  clear h hx hy hlt hc
  go_enter Tryz.func378, Tryz.ntmps378
  go_wp2
  go_loopw [8] (fun i wr => (i = .int .i64 1 ∧ wr = w) ∨ (i = .int .i64 2 ∧ Hid (Chg Nil w wr))) (fun i _ => 2 - (intOf i).toNat)
  case atStart => exact .inl ⟨rfl, rfl⟩
  case round =>
    rcases hrel with ⟨rfl, rfl⟩ | ⟨rfl, hw⟩
    · go_wp2
      go_loopw [9] (fun j wq => j = .int .i64 1 ∧ Hid (wq = wr)) (fun j _ => 0)
      case atStart => exact ⟨rfl, rfl⟩
      case round =>
        obtain ⟨rfl, hw⟩ := hrel
        have hw' := hw.out
        subst hw'
        clear hw
        go_upto_region 4 with fail
        have v0 : IntKind.i64.wrap 0 = 0 := IntWalk.i64_in _ (by omega)
        have v1 : IntKind.i64.wrap (1 - 1) = 0 := IntWalk.i64_in _ (by omega)
        have A0 := (show wr.drew.cell? ⟨g, off, none⟩ = _ from a0)
        have A1 := (show wr.drew.cell? ⟨g, off + 1, none⟩ = _ from a1)
        have E0 := (show wr.drew.cell? ⟨g, off + 2, none⟩ = _ from b0)
        have E1 := (show wr.drew.cell? ⟨g, off + 2 + 1, none⟩ = _ from b1)
        go_region_held3 (fun w' => w'.cell? ⟨g, off, none⟩ = some (.string ⟨#[x.c]⟩) ∧ w'.cell? ⟨g, off + 1, none⟩ = some (.int .i64 (x.i : Int)) ∧ w'.cell? ⟨g, off + 2, none⟩ = some (.string ⟨#[y.c]⟩) ∧ w'.cell? ⟨g, off + 2 + 1, none⟩ = some (.int .i64 (y.i : Int))) (first | exact ⟨A0, A1, E0, E1⟩ | exact ⟨x0, x1, x2, x3⟩ | go_keep) (first | (go_at_call 338; (refine (HC.out _).mono ?_); rintro e w1 ⟨rfl, d1⟩; have x0 := (d1.cell (a := ⟨g, off, none⟩) hg1 (fun h => h)).trans A0; have x1 := (d1.cell (a := ⟨g, off + 1, none⟩) hg1 (fun h => h)).trans A1; have x2 := (d1.cell (a := ⟨g, off + 2, none⟩) hg1 (fun h => h)).trans E0; have x3 := (d1.cell (a := ⟨g, off + 2 + 1, none⟩) hg1 (fun h => h)).trans E1; replace d1 := hid d1) | fail)
        all_goals
          go_wp2
          go_roundw
          case rel => exact .inr ⟨rfl, (((Chg.refl Nil _).drewN 1).trans d1.out (fun _ _ h => h) : Chg Nil _ _)⟩
          case measure => simp [intOf]
    · go_wp2
      go_end0
      exact ⟨rfl, hw.out⟩
set_option maxRecDepth 100000 in
theorem einsert_ok (R : Nat → Prop) (a : Option Addr) (n c : Nat) (l : List En) (w : World) (h : Rd w R 2 a n c (enL l)) (hn : n = l.length) (hs : EnS l) :
    Calls Tryz.prog 378 #[.slice a n c, .int .i64 0, .int .i64 (n : Int), .func (.func 338) #[] #[]] w fun e w' => e = .returned (.tuple #[]) ∧ Chg Nil w w' := by
  rcases hs with ⟨h1, rfl | ⟨x, rfl⟩ | ⟨x, y, rfl, hlt⟩⟩
  · subst hn
    exact (einsert_1 a 0 c w _ (by omega)).mono (fun e w' ⟨h1, h2⟩ => ⟨h1, by rw [h2]; exact Chg.refl _ _⟩)
  · subst hn
    exact (einsert_1 a 1 c w _ (by omega)).mono (fun e w' ⟨h1, h2⟩ => ⟨h1, by rw [h2]; exact Chg.refl _ _⟩)
  · subst hn
    exact einsert_2 R a c x y w h (h1 x (by simp)).1 (h1 y (by simp)).1 hlt
set_option maxRecDepth 100000 in
theorem epdq_ok (R : Nat → Prop) (a : Option Addr) (n c : Nat) (l : List En) (w : World) (h : Rd w R 2 a n c (enL l)) (hn : n = l.length) (hs : EnS l) (m : Int) :
    Calls Tryz.prog 355 #[.slice a n c, .int .i64 0, .int .i64 (n : Int), .int .i64 m, .func (.func 338) #[] #[]] w fun e w' => e = .returned (.tuple #[]) ∧ Chg Nil w w' := by
  have HI := hid (einsert_ok R a n c l w h hn hs)
  have h2 : (n : Int) ≤ 12 := by have := hs.len; omega
  have hwr : IntKind.i64.wrap (n : Int) = (n : Int) := IntWalk.i64_in _ (by have := hs.len; omega)
  clear h hs hn
  go_enter Tryz.func355, Tryz.ntmps355
  go_wp2
  go_loop [1, 2] (fun a b => a = .int .i64 0 ∧ b = .int .i64 (n : Int)) (fun _ _ => 0)
  case atStart => exact ⟨rfl, rfl⟩
  case round =>
    obtain ⟨rfl, rfl⟩ := hrel
    go_wp2_with (go_at_call 378; refine HI.out.mono ?_; rintro e w' ⟨rfl, d1⟩; replace d1 := hid d1)
    first | go_end0 | refine bodyPost_ret (results_none rfl _ _ _) rfl ?_
    exact ⟨rfl, d1.out⟩
set_option maxRecDepth 100000 in
theorem esort_ok (R : Nat → Prop) (a : Option Addr) (n c : Nat) (l : List En) (w : World) (h : Rd w R 2 a n c (enL l)) (hn : n = l.length) (hs : EnS l) :
    Calls Tryz.prog 337 #[.slice a n c, .func (.func 338) #[] #[]] w fun e w' => e = .returned (.tuple #[]) ∧ Chg Nil w w' := by
  have HP := hid (fun m => epdq_ok R a n c l w h hn hs m)
  have HL := hid (fun W => len_2 W n (by have := hs.len; omega))
  have hwr : IntKind.u64.wrap (n : Int) = (n : Int) := by have := hs.len; exact IntWalk.u64_in _ (by omega)
  clear h hs hn
  go_enter Tryz.func337, Tryz.ntmps337
  go_wp2_with (first | (go_at_call 217; refine (HL.out _).mono ?_; rintro e w' ⟨rfl, rfl⟩) | (go_at_call 355; refine (HP.out _).mono ?_; rintro e w' ⟨rfl, d1⟩; replace d1 := hid d1))
  go_end0
  exact ⟨rfl, d1.out⟩
end Go.Proofs.YtdcbagmgflcemaaGreatDoor
namespace Go.Proofs.YtdcbagmgflcemaaGreatDoor
open Go.ChangeShapes Go.WideShapes Go.ChangeAt Go.RowKit
set_option linter.unusedVariables false
set_option linter.unusedSimpArgs false
/-- What the closure that lays has: the entries, itself, the bytes, the entry that is next. -/
structure LyA (w : World) (R : Nat → Prop) (q1 q2 q3 q4 : Nat) (a : Option Addr) (n c : Nat) (l : List En) (on og : Nat) (o : List Int) (k : Nat) : Prop where
  b1 : Blk w q1 29 [.slice a n c]
  rd : Rd w R 2 a n c (enL l)
  b2 : Blk w q2 141 [.func (.func 339) #[] #[.pointer (some ⟨q1, 0, none⟩), .pointer (some ⟨q2, 0, none⟩), .pointer (some ⟨q3, 0, none⟩), .pointer (some ⟨q4, 0, none⟩)]]
  b3 : Blk w q3 22 [.slice (some ⟨og, 0, none⟩) on on]
  sl : Sl w 5 1 (some ⟨og, 0, none⟩) on on (bys o) (some og)
  b4 : Blk w q4 3 [.int .i64 (k : Int)]
  rn : ¬ R og ∧ ¬ R q4
  ne : q1 ≠ og ∧ q2 ≠ og ∧ q3 ≠ og ∧ q4 ≠ og ∧ q1 ≠ q4 ∧ q2 ≠ q4 ∧ q3 ≠ q4
def LyF (og q4 : Nat) : Nat → Prop := fun k => k = og ∨ k = q4
def putRow (o : List Int) (j : Nat) (x : En) : List Int := (o.take (16 * j) ++ [(x.c.toNat : Int)] ++ o.drop (16 * j + 1)).set (16 * j + 14) (x.i : Int)
set_option maxRecDepth 100000 in
theorem lyleaf {w : World} {R : Nat → Prop} {q1 q2 q3 q4 : Nat} {a : Option Addr} {n c : Nat} {l : List En} {on og : Nat} {o : List Int} {k : Nat} (h : LyA w R q1 q2 q3 q4 a n c l on og o k) (j : Int) (hj : (n : Int) ≤ j) :
    Calls Tryz.prog 339 #[.int .i64 j, .pointer (some ⟨q1, 0, none⟩), .pointer (some ⟨q2, 0, none⟩), .pointer (some ⟨q3, 0, none⟩), .pointer (some ⟨q4, 0, none⟩)] w fun e w' => e = .returned (.tuple #[]) ∧ w' = w := by
  have k1 := h.b1.cell 0
  simp only [List.getElem?_cons_zero] at k1
  have hj' : j ≥ (n : Int) := hj
  clear h
  go_enter Tryz.func339, Tryz.ntmps339
  go_wp2
  first | go_end0 | refine bodyPost_ret (results_none rfl _ _ _) rfl ?_
  exact ⟨rfl, rfl⟩
theorem LyA.step {w w' : World} {R : Nat → Prop} {q1 q2 q3 q4 : Nat} {a : Option Addr} {n c : Nat} {l : List En} {on og : Nat} {o o' : List Int} {k k' : Nat} (h : LyA w R q1 q2 q3 q4 a n c l on og o k) (hc : Chg (LyF og q4) w w')
    (hs : Sl w' 5 1 (some ⟨og, 0, none⟩) on on (bys o') (some og)) (h4 : Blk w' q4 3 [.int .i64 (k' : Int)]) : LyA w' R q1 q2 q3 q4 a n c l on og o' k' := by
  have hn := h.ne
  refine ⟨h.b1.chg hc ?_, h.rd.chg hc ?_, h.b2.chg hc ?_, h.b3.chg hc ?_, hs, h4, h.rn, h.ne⟩
  · rintro (hh | hh) <;> omega
  · rintro g _ hg (rfl | rfl)
    · exact h.rn.1 hg
    · exact h.rn.2 hg
  · rintro (hh | hh) <;> omega
  · rintro (hh | hh) <;> omega
/-- A name's one byte is laid. -/
theorem copy_nm {w : World} {on og : Nat} {o : List Int} (SL : Sl w 5 1 (some ⟨og, 0, none⟩) on on (bys o) (some og)) (x : En) (lo m : Nat) (hlo : lo + 1 ≤ on) (hm : m = on - lo) :
    (∀ ty, (Builtin.copy_ #[22, 9] ty #[.slice (some ⟨og, lo, none⟩) m m, .string ⟨#[x.c]⟩]).run Tryz.prog w = .ok (goInt 1) (w.setCells og lo [.int .u8 (x.c.toNat : Int)])) ∧
    Sl (w.setCells og lo [.int .u8 (x.c.toNat : Int)]) 5 1 (some ⟨og, 0, none⟩) on on (bys (o.take lo ++ [(x.c.toNat : Int)] ++ o.drop (lo + 1))) (some og) ∧ Chg (One og) w (w.setCells og lo [.int .u8 (x.c.toNat : Int)]) := by
  obtain ⟨g8, o8, e8, _, _, hcl⟩ := SL.rd.cellAt (by omega)
  have hl := SL.rd.ilen
  obtain ⟨rfl, rfl⟩ : og = g8 ∧ 0 = o8 := by simpa using e8
  refine ⟨fun ty => ?_, ?_, setCells_chg _ _ _ _ _ rfl⟩
  · have := run_copy_string (P := Tryz.prog) w 22 9 ty 5 og lo m m ⟨#[x.c]⟩ Tryz.underlying22 (by intro w; exact Tryz.sizeOf5 w) (by show 1 ≤ m; omega) (fun j hj => by
      have hj' : j < 1 := hj
      have := hcl (lo + j) (by omega)
      rw [Nat.zero_add] at this
      rw [this, ints_get _ _ (by omega)]
      rfl) (fun j hj => SL.free _ (by omega))
    exact this
  · have := SL.over (lo := lo) (vs := [.int .u8 (x.c.toNat : Int)]) (by omega) (by simpa using hlo)
    rw [Nat.zero_add] at this
    have e : List.take lo (bys o) ++ [Value.int .u8 (x.c.toNat : Int)] ++ List.drop (lo + [Value.int .u8 (x.c.toNat : Int)].length) (bys o) = bys (o.take lo ++ [(x.c.toNat : Int)] ++ o.drop (lo + 1)) := by
      simp [ints, List.map_take, List.map_drop]
    rw [e] at this
    exact this
/-- What is left when an entry was laid. -/
theorem ly_after {w1 W2 : World} {R : Nat → Prop} {q1 q2 q3 q4 : Nat} {a : Option Addr} {n c : Nat} {l : List En} {on og : Nat} {o1 : List Int} {k1 : Nat} (A1 : LyA w1 R q1 q2 q3 q4 a n c l on og o1 k1) (c2 : Chg (One og) w1 W2) (x : En) (lo z j : Nat)
    (S2 : Sl W2 5 1 (some ⟨og, 0, none⟩) on on (bys (o1.take lo ++ [(x.c.toNat : Int)] ++ o1.drop (lo + 1))) (some og)) (hz : z = lo + 14) (hlo : lo = 16 * j) (hb : lo + 16 ≤ on) :
    LyA ((W2.setCell ⟨og, z, none⟩ (.int .u8 (x.i : Int))).drew.setCell ⟨q4, 0, none⟩ (.int .i64 ((k1 + 1 : Nat) : Int))) R q1 q2 q3 q4 a n c l on og (putRow o1 j x) (k1 + 1) ∧ Chg (LyF og q4) w1 ((W2.setCell ⟨og, z, none⟩ (.int .u8 (x.i : Int))).drew.setCell ⟨q4, 0, none⟩ (.int .i64 ((k1 + 1 : Nat) : Int))) ∧ (W2.setCell ⟨og, z, none⟩ (.int .u8 (x.i : Int))).drew.frozen? ⟨q4, 0, none⟩ = false := by
  have hne := A1.ne
  have S3 := S2.put (i := z) (by omega) (.int .u8 (x.i : Int))
  rw [Nat.zero_add] at S3
  have e : (bys (o1.take lo ++ [(x.c.toNat : Int)] ++ o1.drop (lo + 1))).set z (.int .u8 (x.i : Int)) = bys (putRow o1 j x) := by
    rw [ints_set]
    unfold putRow
    rw [hz, ← hlo]
  rw [e] at S3
  have B2 := A1.b4.chg c2 (fun hh => hne.2.2.2.1 hh)
  have B3 := B2.far (p := ⟨og, z, none⟩) (fun hh => hne.2.2.2.1 hh) (.int .u8 (x.i : Int))
  have B4 := B3.drew.set 0 (.int .i64 ((k1 + 1 : Nat) : Int))
  have C4 : Chg (LyF og q4) w1 ((W2.setCell ⟨og, z, none⟩ (.int .u8 (x.i : Int))).drew.setCell ⟨q4, 0, none⟩ (.int .i64 ((k1 + 1 : Nat) : Int))) :=
    (((c2.mono (G := LyF og q4) (fun k _ hk => Or.inl hk)).setCell (p := ⟨og, z, none⟩) (.inl (Or.inl rfl)) _).drew).setCell (p := ⟨q4, 0, none⟩) (.inl (Or.inr rfl)) _
  have S4 := (S3.drewN 1).set_far (p := ⟨q4, 0, none⟩) (fun hh => by injection hh with hh; exact hne.2.2.2.1 hh.symm) (.int .i64 ((k1 + 1 : Nat) : Int))
  exact ⟨A1.step C4 S4 B4, C4, B3.frozen 0⟩
set_option maxRecDepth 100000 in
set_option maxHeartbeats 4000000 in
theorem lynode {w : World} {R : Nat → Prop} {q1 q2 q3 q4 : Nat} {a : Option Addr} {n c : Nat} {l : List En} {on og : Nat} {o : List Int} {k : Nat} (h : LyA w R q1 q2 q3 q4 a n c l on og o k) (j k1 lo m : Nat) (ji ki : Int) (hlo : lo = 16 * j) (hji : ji = (j : Int)) (hki : (k1 : Int) = ki) (o1 : List Int) (x : En) (hx : l[k1]? = some x) (hi : x.i ≤ 32) (hln : l.length = n)
    (hcase : (n = 1 ∧ on = 16 ∧ j = 0 ∧ k1 = 0 ∧ ji = 0 ∧ ki = 0 ∧ lo = 0 ∧ m = 16) ∨ (n = 2 ∧ on = 32 ∧ j = 1 ∧ k1 = 0 ∧ ji = 1 ∧ ki = 0 ∧ lo = 16 ∧ m = 16) ∨ (n = 2 ∧ on = 32 ∧ j = 0 ∧ k1 = 1 ∧ ji = 0 ∧ ki = 1 ∧ lo = 0 ∧ m = 32))
    (HL : Calls Tryz.prog 339 #[.int .i64 (2 * ji + 1), .pointer (some ⟨q1, 0, none⟩), .pointer (some ⟨q2, 0, none⟩), .pointer (some ⟨q3, 0, none⟩), .pointer (some ⟨q4, 0, none⟩)] w fun e w' => e = .returned (.tuple #[]) ∧ LyA w' R q1 q2 q3 q4 a n c l on og o1 k1 ∧ Chg (LyF og q4) w w') :
    Calls Tryz.prog 339 #[.int .i64 ji, .pointer (some ⟨q1, 0, none⟩), .pointer (some ⟨q2, 0, none⟩), .pointer (some ⟨q3, 0, none⟩), .pointer (some ⟨q4, 0, none⟩)] w fun e w' => e = .returned (.tuple #[]) ∧ LyA w' R q1 q2 q3 q4 a n c l on og (putRow o1 j x) (k1 + 1) ∧ Chg (LyF og q4) w w' := by
  have z1 := h.b1.cell 0
  have z2 := h.b2.cell 0
  simp only [List.getElem?_cons_zero] at z1 z2
  have HLL := hid HL
  have hi0 : 0 ≤ (x.i : Int) := by omega
  have hi1 : (x.i : Int) < 256 := by omega
  have hi2 : (x.i : Int) % 256 = (x.i : Int) := by omega
  have hkk := hid (List.getElem?_eq_some_iff.1 hx)
  have hln' := hid hln
  clear h HL hx hln hi
  have hu8 : IntKind.u8.wrap (x.i : Int) = (x.i : Int) := IntWalk.u8_in _ (by omega)
  have v0 : IntKind.i64.wrap 0 = 0 := IntWalk.i64_in _ (by omega)
  have v14 : IntKind.i64.wrap 14 = 14 := IntWalk.i64_in _ (by omega)
  have v16 : IntKind.i64.wrap 16 = 16 := IntWalk.i64_in _ (by omega)
  have v30 : IntKind.i64.wrap 30 = 30 := IntWalk.i64_in _ (by omega)
  replace hji := hid hji
  replace hki := hid hki
  replace hlo := hid hlo
  obtain ⟨rfl, rfl, rfl, rfl, rfl, rfl, hlo', hm'⟩ | ⟨rfl, rfl, rfl, rfl, rfl, rfl, hlo', hm'⟩ | ⟨rfl, rfl, rfl, rfl, rfl, rfl, hlo', hm'⟩ := hcase
  · go_enter Tryz.func339, Tryz.ntmps339
    go_wp2_with fail
    refine HLL.out.mono ?_
    rintro e w1 ⟨rfl, A1, C1⟩
    obtain ⟨g, off, hg0, hg1, hg2, hc⟩ := A1.rd.elem (f := En.row) (l := l) (fun _ => rfl) hln'.out.symm (by omega)
    obtain ⟨hk1, hkx⟩ := hkk.out
    have e0 := hc _ hk1 0 (by omega)
    have e1 := hc _ hk1 1 (by omega)
    rw [hkx] at e0 e1
    simp only [En.row, List.getElem?_cons_succ, List.getElem?_cons_zero, Nat.add_zero, Nat.zero_mul, Nat.one_mul] at e0 e1
    clear hc hk1 hkx
    subst hg0
    have y1 := A1.b1.cell 0
    have y2 := A1.b2.cell 0
    have y3 := A1.b3.cell 0
    have y4 := A1.b4.cell 0
    simp only [List.getElem?_cons_zero] at y1 y2 y3 y4
    rw [hki.out] at y4
    have SL := A1.sl.drewN 1
    have hne := A1.ne
    have hrn := A1.rn
    have hgo : g ≠ og := fun hh => hrn.1 (by rw [← hh]; exact hg2)
    obtain ⟨hcp, S2, c2⟩ := copy_nm SL x lo m (by omega) (by omega)
    obtain ⟨W2, hW2⟩ : ∃ W2, W2 = (w1.drewN 1).setCells og lo [.int .u8 (x.c.toNat : Int)] := ⟨_, rfl⟩
    rw [← hW2] at hcp S2 c2
    rw [hlo', hm'] at hcp
    have c2' : Chg (One og) w1 W2 := ((Chg.refl (One og) w1).drewN 1).trans c2 (fun _ _ h => h)
    have lg : ∀ q, w1.cell? ⟨q, 0, none⟩ ≠ none → q < w1.heap.size := fun q hq => by
      cases hh : w1.cell? ⟨q, 0, none⟩ with
      | none => exact absurd hh hq
      | some v => exact (lt_of_cell hh).1
    have t1 := (c2'.cell (a := ⟨q1, 0, none⟩) (lt_of_cell y1).1 (fun hh => hne.1 hh)).trans y1
    have t3 := (c2'.cell (a := ⟨q3, 0, none⟩) (lt_of_cell y3).1 (fun hh => hne.2.2.1 hh)).trans y3
    have t4 := (c2'.cell (a := ⟨q4, 0, none⟩) (lt_of_cell y4).1 (fun hh => hne.2.2.2.1 hh)).trans y4
    have d0 := (c2'.cell (lt_of_cell e0).1 (fun hh => hgo hh)).trans e0
    have d1 := (c2'.cell (lt_of_cell e1).1 (fun hh => hgo hh)).trans e1
    obtain ⟨g8, o8, e8, _, _, hcl⟩ := S2.rd.cellAt (by omega)
    obtain ⟨rfl, rfl⟩ : og = g8 ∧ 0 = o8 := by simpa using e8
    have b14 := hcl (lo + 14) (by omega)
    have f14 := S2.free (lo + 14) (by omega)
    have hil := S2.rd.ilen
    rw [Nat.zero_add, ints_get _ _ (by rw [hil]; omega)] at b14
    obtain ⟨bv, hbv⟩ : ∃ bv, bv = (List.take lo o1 ++ [(x.c.toNat : Int)] ++ List.drop (lo + 1) o1)[lo + 14]'(by rw [hil]; omega) := ⟨_, rfl⟩
    rw [← hbv] at b14
    rw [hlo'] at b14 f14
    simp only [Nat.reduceAdd] at b14 f14
    replace hbv := hid hbv
    replace hil := hid hil
    clear hcl e8
    replace hW2 := hid hW2
    replace hlo' := hid hlo'
    replace hm' := hid hm'
    replace SL := hid SL
    clear lg
    have hcp2 : ∀ ty, (Builtin.copy_ #[22, 9] ty #[.slice (some ⟨og, _, none⟩) _ _, .string ⟨#[x.c]⟩]).run Tryz.prog w1.drew = .ok (goInt 1) W2 := hcp
    clear hcp
    go_upto_region 2 with fail
    go_region_law (fail)
    all_goals
      have T1 : ∀ v, (W2.setCell ⟨og, 14, none⟩ v).drew.cell? ⟨q1, 0, none⟩ = some (.slice (some ⟨g, off, none⟩) 1 c) := fun v => ((((Chg.refl (One og) W2).setCell (p := ⟨og, 14, none⟩) (.inl rfl) v).drew).cell (a := ⟨q1, 0, none⟩) (lt_of_cell t1).1 (fun hh => hne.1 hh)).trans t1
      have T3 : ∀ v, (W2.setCell ⟨og, 14, none⟩ v).drew.cell? ⟨q3, 0, none⟩ = some (.slice (some ⟨og, 0, none⟩) 16 16) := fun v => ((((Chg.refl (One og) W2).setCell (p := ⟨og, 14, none⟩) (.inl rfl) v).drew).cell (a := ⟨q3, 0, none⟩) (lt_of_cell t3).1 (fun hh => hne.2.2.1 hh)).trans t3
      have T4 : ∀ v, (W2.setCell ⟨og, 14, none⟩ v).drew.cell? ⟨q4, 0, none⟩ = some (.int .i64 0) := fun v => ((((Chg.refl (One og) W2).setCell (p := ⟨og, 14, none⟩) (.inl rfl) v).drew).cell (a := ⟨q4, 0, none⟩) (lt_of_cell t4).1 (fun hh => hne.2.2.2.1 hh)).trans t4
      have D1 : ∀ v, (W2.setCell ⟨og, 14, none⟩ v).drew.cell? ⟨g, off + 1, none⟩ = some (.int .i64 (x.i : Int)) := fun v => ((((Chg.refl (One og) W2).setCell (p := ⟨og, 14, none⟩) (.inl rfl) v).drew).cell (lt_of_cell d1).1 (fun hh => hgo hh)).trans d1
      go_upto_region 3 with fail
      go_region_held3 (fun w' => w'.cell? ⟨q1, 0, none⟩ = some (.slice (some ⟨g, off, none⟩) 1 c) ∧ w'.cell? ⟨q3, 0, none⟩ = some (.slice (some ⟨og, 0, none⟩) 16 16) ∧ w'.cell? ⟨q4, 0, none⟩ = some (.int .i64 0) ∧ w'.cell? ⟨g, off + 1, none⟩ = some (.int .i64 (x.i : Int))) (first | exact ⟨t1, t3, t4, d1⟩ | exact ⟨T1 _, T3 _, T4 _, D1 _⟩ | go_keep) (fail)
      have hzl : 14 = lo + 14 := by have := hlo'.out; omega
      have hlb : lo + 16 ≤ 16 := by have := hlo'.out; omega
      obtain ⟨A4, C4, F4⟩ := ly_after A1 c2' x lo 14 0 S2 hzl hlo.out hlb
      have X4 := T4 (.int .u8 (x.i : Int))
      have A4' : Hid (LyA ((W2.setCell ⟨og, 14, none⟩ (.int .u8 (x.i : Int))).drew.setCell ⟨q4, 0, none⟩ (.int .i64 1)) R q1 q2 q3 q4 (some ⟨g, off, none⟩) 1 c l 16 og (putRow o1 0 x) (0 + 1)) := hid A4
      have C4' : Hid (Chg (LyF og q4) w1 ((W2.setCell ⟨og, 14, none⟩ (.int .u8 (x.i : Int))).drew.setCell ⟨q4, 0, none⟩ (.int .i64 1))) := hid C4
      have z2' := A4'.out.b2.cell 0
      simp only [List.getElem?_cons_zero] at z2'
      have LF := hid (lyleaf A4'.out 2 (by omega))
      have CC := hid C1
      clear hzl hlb A4 C4 T1 T3 T4 D1 t1 t3 t4 d0 d1 e0 e1 y1 y3 y4 A1 c2 c2' S2 f14 b14 C1
      generalize (W2.setCell ⟨og, 14, none⟩ (.int .u8 (x.i : Int))).drew = W3 at F4 X4 A4' C4' z2' LF ⊢
      go_wp2_with fail
      refine LF.out.mono ?_
      rintro e w5 ⟨rfl, rfl⟩
      go_wp2
      first | go_end0 | refine bodyPost_ret (results_none rfl _ _ _) rfl ?_
      exact ⟨rfl, A4'.out, CC.out.trans C4'.out (fun _ _ h => h)⟩
  · go_enter Tryz.func339, Tryz.ntmps339
    go_wp2_with fail
    refine HLL.out.mono ?_
    rintro e w1 ⟨rfl, A1, C1⟩
    obtain ⟨g, off, hg0, hg1, hg2, hc⟩ := A1.rd.elem (f := En.row) (l := l) (fun _ => rfl) hln'.out.symm (by omega)
    obtain ⟨hk1, hkx⟩ := hkk.out
    have e0 := hc _ hk1 0 (by omega)
    have e1 := hc _ hk1 1 (by omega)
    rw [hkx] at e0 e1
    simp only [En.row, List.getElem?_cons_succ, List.getElem?_cons_zero, Nat.add_zero, Nat.zero_mul, Nat.one_mul] at e0 e1
    clear hc hk1 hkx
    subst hg0
    have y1 := A1.b1.cell 0
    have y2 := A1.b2.cell 0
    have y3 := A1.b3.cell 0
    have y4 := A1.b4.cell 0
    simp only [List.getElem?_cons_zero] at y1 y2 y3 y4
    rw [hki.out] at y4
    have SL := A1.sl.drewN 1
    have hne := A1.ne
    have hrn := A1.rn
    have hgo : g ≠ og := fun hh => hrn.1 (by rw [← hh]; exact hg2)
    obtain ⟨hcp, S2, c2⟩ := copy_nm SL x lo m (by omega) (by omega)
    obtain ⟨W2, hW2⟩ : ∃ W2, W2 = (w1.drewN 1).setCells og lo [.int .u8 (x.c.toNat : Int)] := ⟨_, rfl⟩
    rw [← hW2] at hcp S2 c2
    rw [hlo', hm'] at hcp
    have c2' : Chg (One og) w1 W2 := ((Chg.refl (One og) w1).drewN 1).trans c2 (fun _ _ h => h)
    have lg : ∀ q, w1.cell? ⟨q, 0, none⟩ ≠ none → q < w1.heap.size := fun q hq => by
      cases hh : w1.cell? ⟨q, 0, none⟩ with
      | none => exact absurd hh hq
      | some v => exact (lt_of_cell hh).1
    have t1 := (c2'.cell (a := ⟨q1, 0, none⟩) (lt_of_cell y1).1 (fun hh => hne.1 hh)).trans y1
    have t3 := (c2'.cell (a := ⟨q3, 0, none⟩) (lt_of_cell y3).1 (fun hh => hne.2.2.1 hh)).trans y3
    have t4 := (c2'.cell (a := ⟨q4, 0, none⟩) (lt_of_cell y4).1 (fun hh => hne.2.2.2.1 hh)).trans y4
    have d0 := (c2'.cell (lt_of_cell e0).1 (fun hh => hgo hh)).trans e0
    have d1 := (c2'.cell (lt_of_cell e1).1 (fun hh => hgo hh)).trans e1
    obtain ⟨g8, o8, e8, _, _, hcl⟩ := S2.rd.cellAt (by omega)
    obtain ⟨rfl, rfl⟩ : og = g8 ∧ 0 = o8 := by simpa using e8
    have b14 := hcl (lo + 14) (by omega)
    have f14 := S2.free (lo + 14) (by omega)
    have hil := S2.rd.ilen
    rw [Nat.zero_add, ints_get _ _ (by rw [hil]; omega)] at b14
    obtain ⟨bv, hbv⟩ : ∃ bv, bv = (List.take lo o1 ++ [(x.c.toNat : Int)] ++ List.drop (lo + 1) o1)[lo + 14]'(by rw [hil]; omega) := ⟨_, rfl⟩
    rw [← hbv] at b14
    rw [hlo'] at b14 f14
    simp only [Nat.reduceAdd] at b14 f14
    replace hbv := hid hbv
    replace hil := hid hil
    clear hcl e8
    replace hW2 := hid hW2
    replace hlo' := hid hlo'
    replace hm' := hid hm'
    replace SL := hid SL
    clear lg
    have hcp2 : ∀ ty, (Builtin.copy_ #[22, 9] ty #[.slice (some ⟨og, _, none⟩) _ _, .string ⟨#[x.c]⟩]).run Tryz.prog w1.drew = .ok (goInt 1) W2 := hcp
    clear hcp
    go_upto_region 2 with fail
    go_region_law (fail)
    all_goals
      have T1 : ∀ v, (W2.setCell ⟨og, 30, none⟩ v).drew.cell? ⟨q1, 0, none⟩ = some (.slice (some ⟨g, off, none⟩) 2 c) := fun v => ((((Chg.refl (One og) W2).setCell (p := ⟨og, 30, none⟩) (.inl rfl) v).drew).cell (a := ⟨q1, 0, none⟩) (lt_of_cell t1).1 (fun hh => hne.1 hh)).trans t1
      have T3 : ∀ v, (W2.setCell ⟨og, 30, none⟩ v).drew.cell? ⟨q3, 0, none⟩ = some (.slice (some ⟨og, 0, none⟩) 32 32) := fun v => ((((Chg.refl (One og) W2).setCell (p := ⟨og, 30, none⟩) (.inl rfl) v).drew).cell (a := ⟨q3, 0, none⟩) (lt_of_cell t3).1 (fun hh => hne.2.2.1 hh)).trans t3
      have T4 : ∀ v, (W2.setCell ⟨og, 30, none⟩ v).drew.cell? ⟨q4, 0, none⟩ = some (.int .i64 0) := fun v => ((((Chg.refl (One og) W2).setCell (p := ⟨og, 30, none⟩) (.inl rfl) v).drew).cell (a := ⟨q4, 0, none⟩) (lt_of_cell t4).1 (fun hh => hne.2.2.2.1 hh)).trans t4
      have D1 : ∀ v, (W2.setCell ⟨og, 30, none⟩ v).drew.cell? ⟨g, off + 1, none⟩ = some (.int .i64 (x.i : Int)) := fun v => ((((Chg.refl (One og) W2).setCell (p := ⟨og, 30, none⟩) (.inl rfl) v).drew).cell (lt_of_cell d1).1 (fun hh => hgo hh)).trans d1
      go_upto_region 3 with fail
      go_region_held3 (fun w' => w'.cell? ⟨q1, 0, none⟩ = some (.slice (some ⟨g, off, none⟩) 2 c) ∧ w'.cell? ⟨q3, 0, none⟩ = some (.slice (some ⟨og, 0, none⟩) 32 32) ∧ w'.cell? ⟨q4, 0, none⟩ = some (.int .i64 0) ∧ w'.cell? ⟨g, off + 1, none⟩ = some (.int .i64 (x.i : Int))) (first | exact ⟨t1, t3, t4, d1⟩ | exact ⟨T1 _, T3 _, T4 _, D1 _⟩ | go_keep) (fail)
      have hzl : 30 = lo + 14 := by have := hlo'.out; omega
      have hlb : lo + 16 ≤ 32 := by have := hlo'.out; omega
      obtain ⟨A4, C4, F4⟩ := ly_after A1 c2' x lo 30 1 S2 hzl hlo.out hlb
      have X4 := T4 (.int .u8 (x.i : Int))
      have A4' : Hid (LyA ((W2.setCell ⟨og, 30, none⟩ (.int .u8 (x.i : Int))).drew.setCell ⟨q4, 0, none⟩ (.int .i64 1)) R q1 q2 q3 q4 (some ⟨g, off, none⟩) 2 c l 32 og (putRow o1 1 x) (0 + 1)) := hid A4
      have C4' : Hid (Chg (LyF og q4) w1 ((W2.setCell ⟨og, 30, none⟩ (.int .u8 (x.i : Int))).drew.setCell ⟨q4, 0, none⟩ (.int .i64 1))) := hid C4
      have z2' := A4'.out.b2.cell 0
      simp only [List.getElem?_cons_zero] at z2'
      have LF := hid (lyleaf A4'.out 4 (by omega))
      have CC := hid C1
      clear hzl hlb A4 C4 T1 T3 T4 D1 t1 t3 t4 d0 d1 e0 e1 y1 y3 y4 A1 c2 c2' S2 f14 b14 C1
      generalize (W2.setCell ⟨og, 30, none⟩ (.int .u8 (x.i : Int))).drew = W3 at F4 X4 A4' C4' z2' LF ⊢
      go_wp2_with fail
      refine LF.out.mono ?_
      rintro e w5 ⟨rfl, rfl⟩
      go_wp2
      first | go_end0 | refine bodyPost_ret (results_none rfl _ _ _) rfl ?_
      exact ⟨rfl, A4'.out, CC.out.trans C4'.out (fun _ _ h => h)⟩
  · go_enter Tryz.func339, Tryz.ntmps339
    go_wp2_with fail
    refine HLL.out.mono ?_
    rintro e w1 ⟨rfl, A1, C1⟩
    obtain ⟨g, off, hg0, hg1, hg2, hc⟩ := A1.rd.elem (f := En.row) (l := l) (fun _ => rfl) hln'.out.symm (by omega)
    obtain ⟨hk1, hkx⟩ := hkk.out
    have e0 := hc _ hk1 0 (by omega)
    have e1 := hc _ hk1 1 (by omega)
    rw [hkx] at e0 e1
    simp only [En.row, List.getElem?_cons_succ, List.getElem?_cons_zero, Nat.add_zero, Nat.zero_mul, Nat.one_mul] at e0 e1
    clear hc hk1 hkx
    subst hg0
    have y1 := A1.b1.cell 0
    have y2 := A1.b2.cell 0
    have y3 := A1.b3.cell 0
    have y4 := A1.b4.cell 0
    simp only [List.getElem?_cons_zero] at y1 y2 y3 y4
    rw [hki.out] at y4
    have SL := A1.sl.drewN 1
    have hne := A1.ne
    have hrn := A1.rn
    have hgo : g ≠ og := fun hh => hrn.1 (by rw [← hh]; exact hg2)
    obtain ⟨hcp, S2, c2⟩ := copy_nm SL x lo m (by omega) (by omega)
    obtain ⟨W2, hW2⟩ : ∃ W2, W2 = (w1.drewN 1).setCells og lo [.int .u8 (x.c.toNat : Int)] := ⟨_, rfl⟩
    rw [← hW2] at hcp S2 c2
    rw [hlo', hm'] at hcp
    have c2' : Chg (One og) w1 W2 := ((Chg.refl (One og) w1).drewN 1).trans c2 (fun _ _ h => h)
    have lg : ∀ q, w1.cell? ⟨q, 0, none⟩ ≠ none → q < w1.heap.size := fun q hq => by
      cases hh : w1.cell? ⟨q, 0, none⟩ with
      | none => exact absurd hh hq
      | some v => exact (lt_of_cell hh).1
    have t1 := (c2'.cell (a := ⟨q1, 0, none⟩) (lt_of_cell y1).1 (fun hh => hne.1 hh)).trans y1
    have t3 := (c2'.cell (a := ⟨q3, 0, none⟩) (lt_of_cell y3).1 (fun hh => hne.2.2.1 hh)).trans y3
    have t4 := (c2'.cell (a := ⟨q4, 0, none⟩) (lt_of_cell y4).1 (fun hh => hne.2.2.2.1 hh)).trans y4
    have d0 := (c2'.cell (lt_of_cell e0).1 (fun hh => hgo hh)).trans e0
    have d1 := (c2'.cell (lt_of_cell e1).1 (fun hh => hgo hh)).trans e1
    obtain ⟨g8, o8, e8, _, _, hcl⟩ := S2.rd.cellAt (by omega)
    obtain ⟨rfl, rfl⟩ : og = g8 ∧ 0 = o8 := by simpa using e8
    have b14 := hcl (lo + 14) (by omega)
    have f14 := S2.free (lo + 14) (by omega)
    have hil := S2.rd.ilen
    rw [Nat.zero_add, ints_get _ _ (by rw [hil]; omega)] at b14
    obtain ⟨bv, hbv⟩ : ∃ bv, bv = (List.take lo o1 ++ [(x.c.toNat : Int)] ++ List.drop (lo + 1) o1)[lo + 14]'(by rw [hil]; omega) := ⟨_, rfl⟩
    rw [← hbv] at b14
    rw [hlo'] at b14 f14
    simp only [Nat.reduceAdd] at b14 f14
    replace hbv := hid hbv
    replace hil := hid hil
    clear hcl e8
    replace hW2 := hid hW2
    replace hlo' := hid hlo'
    replace hm' := hid hm'
    replace SL := hid SL
    clear lg
    have hcp2 : ∀ ty, (Builtin.copy_ #[22, 9] ty #[.slice (some ⟨og, _, none⟩) _ _, .string ⟨#[x.c]⟩]).run Tryz.prog w1.drew = .ok (goInt 1) W2 := hcp
    clear hcp
    go_upto_region 2 with fail
    go_region_law (fail)
    all_goals
      have T1 : ∀ v, (W2.setCell ⟨og, 14, none⟩ v).drew.cell? ⟨q1, 0, none⟩ = some (.slice (some ⟨g, off, none⟩) 2 c) := fun v => ((((Chg.refl (One og) W2).setCell (p := ⟨og, 14, none⟩) (.inl rfl) v).drew).cell (a := ⟨q1, 0, none⟩) (lt_of_cell t1).1 (fun hh => hne.1 hh)).trans t1
      have T3 : ∀ v, (W2.setCell ⟨og, 14, none⟩ v).drew.cell? ⟨q3, 0, none⟩ = some (.slice (some ⟨og, 0, none⟩) 32 32) := fun v => ((((Chg.refl (One og) W2).setCell (p := ⟨og, 14, none⟩) (.inl rfl) v).drew).cell (a := ⟨q3, 0, none⟩) (lt_of_cell t3).1 (fun hh => hne.2.2.1 hh)).trans t3
      have T4 : ∀ v, (W2.setCell ⟨og, 14, none⟩ v).drew.cell? ⟨q4, 0, none⟩ = some (.int .i64 1) := fun v => ((((Chg.refl (One og) W2).setCell (p := ⟨og, 14, none⟩) (.inl rfl) v).drew).cell (a := ⟨q4, 0, none⟩) (lt_of_cell t4).1 (fun hh => hne.2.2.2.1 hh)).trans t4
      have D1 : ∀ v, (W2.setCell ⟨og, 14, none⟩ v).drew.cell? ⟨g, off + 2 + 1, none⟩ = some (.int .i64 (x.i : Int)) := fun v => ((((Chg.refl (One og) W2).setCell (p := ⟨og, 14, none⟩) (.inl rfl) v).drew).cell (lt_of_cell d1).1 (fun hh => hgo hh)).trans d1
      go_upto_region 3 with fail
      go_region_held3 (fun w' => w'.cell? ⟨q1, 0, none⟩ = some (.slice (some ⟨g, off, none⟩) 2 c) ∧ w'.cell? ⟨q3, 0, none⟩ = some (.slice (some ⟨og, 0, none⟩) 32 32) ∧ w'.cell? ⟨q4, 0, none⟩ = some (.int .i64 1) ∧ w'.cell? ⟨g, off + 2 + 1, none⟩ = some (.int .i64 (x.i : Int))) (first | exact ⟨t1, t3, t4, d1⟩ | exact ⟨T1 _, T3 _, T4 _, D1 _⟩ | go_keep) (fail)
      have hzl : 14 = lo + 14 := by have := hlo'.out; omega
      have hlb : lo + 16 ≤ 32 := by have := hlo'.out; omega
      obtain ⟨A4, C4, F4⟩ := ly_after A1 c2' x lo 14 0 S2 hzl hlo.out hlb
      have X4 := T4 (.int .u8 (x.i : Int))
      have A4' : Hid (LyA ((W2.setCell ⟨og, 14, none⟩ (.int .u8 (x.i : Int))).drew.setCell ⟨q4, 0, none⟩ (.int .i64 2)) R q1 q2 q3 q4 (some ⟨g, off, none⟩) 2 c l 32 og (putRow o1 0 x) (1 + 1)) := hid A4
      have C4' : Hid (Chg (LyF og q4) w1 ((W2.setCell ⟨og, 14, none⟩ (.int .u8 (x.i : Int))).drew.setCell ⟨q4, 0, none⟩ (.int .i64 2))) := hid C4
      have z2' := A4'.out.b2.cell 0
      simp only [List.getElem?_cons_zero] at z2'
      have LF := hid (lyleaf A4'.out 2 (by omega))
      have CC := hid C1
      clear hzl hlb A4 C4 T1 T3 T4 D1 t1 t3 t4 d0 d1 e0 e1 y1 y3 y4 A1 c2 c2' S2 f14 b14 C1
      generalize (W2.setCell ⟨og, 14, none⟩ (.int .u8 (x.i : Int))).drew = W3 at F4 X4 A4' C4' z2' LF ⊢
      go_wp2_with fail
      refine LF.out.mono ?_
      rintro e w5 ⟨rfl, rfl⟩
      go_wp2
      first | go_end0 | refine bodyPost_ret (results_none rfl _ _ _) rfl ?_
      exact ⟨rfl, A4'.out, CC.out.trans C4'.out (fun _ _ h => h)⟩
end Go.Proofs.YtdcbagmgflcemaaGreatDoor
namespace Go.Proofs.YtdcbagmgflcemaaGreatDoor
open Go.ChangeShapes Go.WideShapes Go.ChangeAt Go.RowKit
set_option linter.unusedVariables false
/-- The bytes of a directory. -/
def dirB (l : List En) : List Int := match l with
  | [x] => rowB x.c x.i
  | [x, y] => rowB y.c y.i ++ rowB x.c x.i
  | _ => []
theorem dirB_len {l : List En} (h : EnS l) : (dirB l).length = 16 * l.length := by
  rcases h.2 with rfl | ⟨x, rfl⟩ | ⟨x, y, rfl, _⟩
  · rfl
  · exact rowB_len _ _
  · show (rowB y.c y.i ++ rowB x.c x.i).length = _
    rw [List.length_append, rowB_len, rowB_len]
    rfl
/-- The closure's variables, laid. -/
theorem ly_start {w4 : World} {R : Nat → Prop} {q1 : Nat} {a : Option Addr} {n c : Nat} {l : List En} (on : Nat) (hon : on ≤ 64) (h1 : Blk w4 q1 29 [.slice a n c]) (hr : Rd w4 R 2 a n c (enL l)) (hR : ∀ g, R g → g < w4.heap.size) :
    ∀ V, V = (((w4.alloc (.cells (zr on).toArray 5)).alloc (.cells #[.slice (some ⟨w4.heap.size, 0, none⟩) on on] 22)).alloc (.cells #[.int .i64 0] 3)).alloc (.cells #[.func (.func 339) #[] #[.pointer (some ⟨q1, 0, none⟩), .pointer (some ⟨w4.heap.size + 1 + 1 + 1, 0, none⟩), .pointer (some ⟨w4.heap.size + 1, 0, none⟩), .pointer (some ⟨w4.heap.size + 1 + 1, 0, none⟩)]] 141) →
    LyA V R q1 (w4.heap.size + 1 + 1 + 1) (w4.heap.size + 1) (w4.heap.size + 1 + 1) a n c l on w4.heap.size (List.replicate on 0) 0 ∧ Chg Nil w4 V := by
  intro V hV
  subst hV
  have hlt := h1.lt
  have s1 : (w4.alloc (.cells (zr on).toArray 5)).heap.size = w4.heap.size + 1 := alloc_size _ _
  have s2 : ((w4.alloc (.cells (zr on).toArray 5)).alloc (.cells #[.slice (some ⟨w4.heap.size, 0, none⟩) on on] 22)).heap.size = w4.heap.size + 1 + 1 := by rw [alloc_size, alloc_size]
  have s3 : (((w4.alloc (.cells (zr on).toArray 5)).alloc (.cells #[.slice (some ⟨w4.heap.size, 0, none⟩) on on] 22)).alloc (.cells #[.int .i64 0] 3)).heap.size = w4.heap.size + 1 + 1 + 1 := by rw [alloc_size, alloc_size, alloc_size]
  have B3 := Blk.new (w4.alloc (.cells (zr on).toArray 5)) 22 [.slice (some ⟨w4.heap.size, 0, none⟩) on on]
  rw [s1] at B3
  have B4 := Blk.new ((w4.alloc (.cells (zr on).toArray 5)).alloc (.cells #[.slice (some ⟨w4.heap.size, 0, none⟩) on on] 22)) 3 [.int .i64 0]
  rw [s2] at B4
  have B2 := Blk.new (((w4.alloc (.cells (zr on).toArray 5)).alloc (.cells #[.slice (some ⟨w4.heap.size, 0, none⟩) on on] 22)).alloc (.cells #[.int .i64 0] 3)) 141 [.func (.func 339) #[] #[.pointer (some ⟨q1, 0, none⟩), .pointer (some ⟨w4.heap.size + 1 + 1 + 1, 0, none⟩), .pointer (some ⟨w4.heap.size + 1, 0, none⟩), .pointer (some ⟨w4.heap.size + 1 + 1, 0, none⟩)]]
  rw [s3] at B2
  have S1 := (((zr_sl w4 on (by omega)).alloc (.cells #[.slice (some ⟨w4.heap.size, 0, none⟩) on on] 22)).alloc (.cells #[.int .i64 0] 3)).alloc (.cells #[.func (.func 339) #[] #[.pointer (some ⟨q1, 0, none⟩), .pointer (some ⟨w4.heap.size + 1 + 1 + 1, 0, none⟩), .pointer (some ⟨w4.heap.size + 1, 0, none⟩), .pointer (some ⟨w4.heap.size + 1 + 1, 0, none⟩)]] 141)
  refine ⟨⟨((((h1.alloc _).alloc _).alloc _).alloc _), ((((hr.alloc _).alloc _).alloc _).alloc _), B2, (B3.alloc _).alloc _, (by rw [← zr_bys]; exact S1), B4.alloc _, ⟨fun hh => by have := hR _ hh; omega, fun hh => by have := hR _ hh; omega⟩, by omega⟩, ((((Chg.refl Nil w4).alloc _).alloc _).alloc _).alloc _⟩
set_option maxRecDepth 100000 in
set_option maxHeartbeats 2000000 in
theorem dlay_ok (R : Nat → Prop) (a : Option Addr) (n c : Nat) (l : List En) (w : World) (h : Rd w R 2 a n c (enL l)) (hn : n = l.length) (hs : EnS l) :
    Calls Tryz.prog 302 #[.slice a n c] w fun e w' => ∃ a' c' G, e = .returned (.tuple #[.slice a' (16 * n) c', .int .i64 0]) ∧ Sl w' 5 1 a' (16 * n) c' (bys (dirB l)) G ∧ Chg Nil w w' ∧ ∀ g, G = some g → w.heap.size ≤ g := by
  have hmf : ∀ (fn : Fn) (first cap : Array Value) (w : World), (Instr.makeFunc fn first cap).run Tryz.prog w = .ok (.func fn first cap) w := fun _ _ _ _ => rfl
  have hsf : ∀ (w : World) (a : Addr) (fn : Fn) (x y : Array Value) (m : Mode), (store a (.func fn x y) m).run Tryz.prog w = stored Tryz.prog w a (.func fn x y) m := fun w a fn x y m => run_store Tryz.prog w a _ m rfl
  have hl2 := hs.len
  have HR := hid (fun W (hc : Chg Nil w W) => dright_ok R a n c l W (h.chg hc (fun _ _ _ h => h)) hn (by omega) hs.1 hs.apart)
  have HK := hid (fun W (hc : Chg Nil w W) => eclone_ok R a n c (enL l) W (h.chg hc (fun _ _ _ h => h)) (enL_one l) (by omega))
  have CA := hid ((Chg.refl Nil w).alloc (.cells #[.slice a n c] 29))
  have BA := hid (Blk.new w 29 [.slice a n c])
  have HR1 := hid (HR.out _ CA.out)
  have hs' := hid hs
  have hn' := hid hn
  clear h hs hn
  go_enter Tryz.func302, Tryz.ntmps302
  go_wp2_with fail
  refine HR1.out.mono ?_
  rintro e w1 ⟨rfl, d1⟩
  have C1 := CA.out.trans d1 (fun _ _ h => h)
  have B1 := BA.out.chg d1 (fun h => h)
  have HK1 := hid (HK.out _ C1)
  have k1 := B1.cell 0
  have f1 := B1.frozen 0
  simp only [List.getElem?_cons_zero] at k1
  replace B1 := hid B1
  replace C1 := hid C1
  clear d1
  go_wp2_with fail
  refine HK1.out.mono ?_
  rintro e w2 ⟨a2, c2, G2, rfl, s2, d2, g2⟩
  have B2 := B1.out.chg d2 (fun h => h)
  have k2 := B2.cell 0
  have f2 := B2.frozen 0
  simp only [List.getElem?_cons_zero] at k2
  have B3 := B2.set 0 (.slice a2 n c2)
  have hG : ∀ g, G2 = some g → g ≠ w.heap.size := fun g hg hh => by
    have h1 := g2 g hg
    have h2 := B1.out.lt
    omega
  have S3 := s2.set_far (p := ⟨w.heap.size, 0, none⟩) (fun hh => hG _ hh rfl) (.slice a2 n c2)
  have C3 := hid ((C1.out.trans d2 (fun _ _ h => h)).setCell (p := ⟨w.heap.size, 0, none⟩) (.inr (Nat.le_refl _)) (.slice a2 n c2))
  have HS := hid (esort_ok _ a2 n c2 l _ S3.rd hn'.out hs'.out)
  have k3 := B3.cell 0
  replace B3 := hid B3
  replace S3 := hid S3
  replace g2 := hid g2
  replace hG := hid hG
  clear B2 s2 d2 k1 f1
  go_wp2_with fail
  refine HS.out.mono ?_
  rintro e w4 ⟨rfl, d4⟩
  have B4 := B3.out.chg d4 (fun h => h)
  have k4 := B4.cell 0
  simp only [List.set_cons_zero, List.getElem?_cons_zero] at k4
  have S4 := S3.out.chg d4 (fun _ _ h => h)
  have C4 := hid (C3.out.trans d4 (fun _ _ h => h))
  have hR4 := hid (fun g (hg : Opt G2 g) => S4.lt g hg)
  replace B4 := hid B4
  replace S4 := hid S4
  replace S3 := hid S3.out.2.1
  have v0 : IntKind.i64.wrap 0 = 0 := IntWalk.i64_in _ (by omega)
  have v16 : IntKind.i64.wrap 16 = 16 := IntWalk.i64_in _ (by omega)
  have v32 : IntKind.i64.wrap 32 = 32 := IntWalk.i64_in _ (by omega)
  clear d4 k2 f2 k3 HR HK HS
  rcases hs'.out.2 with rfl | ⟨x, rfl⟩ | ⟨x, y, rfl, hlt⟩
  · obtain rfl : n = 0 := hn'.out
    have hmk0 := mk_bytes 0 (by omega) 0 rfl
    obtain ⟨V, hV⟩ : ∃ V, V = (((w4.alloc (.cells (zr 0).toArray 5)).alloc (.cells #[.slice (some ⟨w4.heap.size, 0, none⟩) 0 0] 22)).alloc (.cells #[.int .i64 0] 3)).alloc (.cells #[.func (.func 339) #[] #[.pointer (some ⟨w.heap.size, 0, none⟩), .pointer (some ⟨w4.heap.size + 1 + 1 + 1, 0, none⟩), .pointer (some ⟨w4.heap.size + 1, 0, none⟩), .pointer (some ⟨w4.heap.size + 1 + 1, 0, none⟩)]] 141) := ⟨_, rfl⟩
    obtain ⟨LV, CV⟩ := ly_start 0 (by omega) B4.out S4.out.rd hR4.out V hV
    have HL := hid ((lyleaf LV 0 (by omega)).mono (fun e w' ⟨h1, h2⟩ => (⟨h1, by rw [h2]; exact LV, by rw [h2]; exact Chg.refl _ _⟩ : e = Ending.returned (.tuple #[]) ∧ LyA w' _ _ _ _ _ a2 0 c2 [] 0 w4.heap.size (dirB []) 0 ∧ Chg (LyF w4.heap.size (w4.heap.size + 1 + 1)) V w')))
    have hV' := hid hV
    replace LV := hid LV
    replace CV := hid CV
    clear hV
    go_wp2_with fail
    rw [← hV'.out]
    refine HL.out.mono ?_
    rintro e w5 ⟨rfl, L5, C5⟩
    have k5 := L5.b3.cell 0
    simp only [List.getElem?_cons_zero] at k5
    have S5 := hid L5.sl
    replace C5 := hid C5
    clear L5
    go_wp2
    go_ret2
    refine ⟨some ⟨w4.heap.size, 0, none⟩, 0, some w4.heap.size, rfl, ?_, C4.out.trans (CV.out.trans C5.out (fun k hk hh => by rcases hh with hh | hh <;> omega)) (fun _ _ h => h), fun g hg => ?_⟩
    · exact S5.out
    · injection hg with hg
      rw [← hg]
      exact C4.out.size
  · obtain rfl : n = 1 := hn'.out
    have hxi : x.i ≤ 32 := (hs'.out.1 x (by simp)).2.2
    have hmk0 := mk_bytes 16 (by omega) 16 rfl
    obtain ⟨V, hV⟩ : ∃ V, V = (((w4.alloc (.cells (zr 16).toArray 5)).alloc (.cells #[.slice (some ⟨w4.heap.size, 0, none⟩) 16 16] 22)).alloc (.cells #[.int .i64 0] 3)).alloc (.cells #[.func (.func 339) #[] #[.pointer (some ⟨w.heap.size, 0, none⟩), .pointer (some ⟨w4.heap.size + 1 + 1 + 1, 0, none⟩), .pointer (some ⟨w4.heap.size + 1, 0, none⟩), .pointer (some ⟨w4.heap.size + 1 + 1, 0, none⟩)]] 141) := ⟨_, rfl⟩
    obtain ⟨LV, CV⟩ := ly_start 16 (by omega) B4.out S4.out.rd hR4.out V hV
    have HL := hid (lynode LV 0 0 0 16 0 0 rfl rfl rfl (List.replicate 16 0) x rfl hxi rfl (.inl ⟨rfl, rfl, rfl, rfl, rfl, rfl, rfl, rfl⟩) ((lyleaf LV _ (by omega)).mono (fun e w' ⟨h1, h2⟩ => ⟨h1, by rw [h2]; exact LV, by rw [h2]; exact Chg.refl _ _⟩)))
    have hV' := hid hV
    replace LV := hid LV
    replace CV := hid CV
    clear hV
    go_wp2_with fail
    rw [← hV'.out]
    refine HL.out.mono ?_
    rintro e w5 ⟨rfl, L5, C5⟩
    have k5 := L5.b3.cell 0
    simp only [List.getElem?_cons_zero] at k5
    have S5 := hid L5.sl
    replace C5 := hid C5
    clear L5
    go_wp2
    go_ret2
    refine ⟨some ⟨w4.heap.size, 0, none⟩, 16, some w4.heap.size, rfl, ?_, C4.out.trans (CV.out.trans C5.out (fun k hk hh => by rcases hh with hh | hh <;> omega)) (fun _ _ h => h), fun g hg => ?_⟩
    · exact S5.out
    · injection hg with hg
      rw [← hg]
      exact C4.out.size
  · obtain rfl : n = 2 := hn'.out
    have hxi : x.i ≤ 32 := (hs'.out.1 x (by simp)).2.2
    have hyi : y.i ≤ 32 := (hs'.out.1 y (by simp)).2.2
    have hmk0 := mk_bytes 32 (by omega) 32 rfl
    obtain ⟨V, hV⟩ : ∃ V, V = (((w4.alloc (.cells (zr 32).toArray 5)).alloc (.cells #[.slice (some ⟨w4.heap.size, 0, none⟩) 32 32] 22)).alloc (.cells #[.int .i64 0] 3)).alloc (.cells #[.func (.func 339) #[] #[.pointer (some ⟨w.heap.size, 0, none⟩), .pointer (some ⟨w4.heap.size + 1 + 1 + 1, 0, none⟩), .pointer (some ⟨w4.heap.size + 1, 0, none⟩), .pointer (some ⟨w4.heap.size + 1 + 1, 0, none⟩)]] 141) := ⟨_, rfl⟩
    obtain ⟨LV, CV⟩ := ly_start 32 (by omega) B4.out S4.out.rd hR4.out V hV
    have HL := hid (lynode LV 0 1 0 32 0 1 rfl rfl rfl (putRow (List.replicate 32 0) 1 x) y rfl hyi rfl (.inr (.inr ⟨rfl, rfl, rfl, rfl, rfl, rfl, rfl, rfl⟩)) (lynode LV 1 0 16 16 1 0 rfl rfl rfl (List.replicate 32 0) x rfl hxi rfl (.inr (.inl ⟨rfl, rfl, rfl, rfl, rfl, rfl, rfl, rfl⟩)) ((lyleaf LV _ (by omega)).mono (fun e w' ⟨h1, h2⟩ => ⟨h1, by rw [h2]; exact LV, by rw [h2]; exact Chg.refl _ _⟩))))
    have hV' := hid hV
    replace LV := hid LV
    replace CV := hid CV
    clear hV
    go_wp2_with fail
    rw [← hV'.out]
    refine HL.out.mono ?_
    rintro e w5 ⟨rfl, L5, C5⟩
    have k5 := L5.b3.cell 0
    simp only [List.getElem?_cons_zero] at k5
    have S5 := hid L5.sl
    replace C5 := hid C5
    clear L5
    go_wp2
    go_ret2
    refine ⟨some ⟨w4.heap.size, 0, none⟩, 32, some w4.heap.size, rfl, ?_, C4.out.trans (CV.out.trans C5.out (fun k hk hh => by rcases hh with hh | hh <;> omega)) (fun _ _ h => h), fun g hg => ?_⟩
    · exact S5.out
    · injection hg with hg
      rw [← hg]
      exact C4.out.size
end Go.Proofs.YtdcbagmgflcemaaGreatDoor
