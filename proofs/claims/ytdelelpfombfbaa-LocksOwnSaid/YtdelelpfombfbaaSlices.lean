/- Contracts of the library's functions on slices: what each returns, and what becomes of the world. Conditions: the slices are shorter than 2^32. -/
import Derived.Test.YtdelelpfombfbaaBase
import Derived.Test.YtdelelpfombfbaaMem
import Derived.WalkSpells
import Derived.OwnWalk
import Derived.Deep.QuietTactic
import Derived.BigQuiet
namespace Go.Proofs.Ytdelelpfombfbaa
open Go.ChangeShapes Go.WideShapes Go.ChangeAt Go.RowKit
set_option linter.unusedVariables false
/-- Is a number in a list? -/
def hasI (l : List Int) (t : Int) : Bool := decide (t ∈ l)
/-- Are two lists the same? -/
def eqI (l m : List Int) : Bool := decide (l = m)
theorem hasI_true {l : List Int} {t : Int} (h : t ∈ l) : hasI l t = true := by simpa [hasI] using h
theorem hasI_false {l : List Int} {t : Int} (h : t ∉ l) : hasI l t = false := by simpa [hasI] using h
theorem eqI_true {l m : List Int} (h : l = m) : eqI l m = true := by simpa [eqI] using h
/-- The first place of a number in a list; -1: it is not there. -/
def idxI (l : List Int) (t : Int) : Int := if t ∈ l then ((l.idxOf t : Nat) : Int) else -1
theorem idxI_of {l : List Int} {t : Int} {k : Nat} (h : k < l.length) (he : l[k] = t) (hb : ∀ j (hj : j < l.length), j < k → l[j] ≠ t) : idxI l t = k := by
  have hm : t ∈ l := by rw [← he]; exact List.getElem_mem h
  unfold idxI
  rw [if_pos hm]
  have hlt : l.idxOf t < l.length := List.idxOf_lt_length_of_mem hm
  have hg : l[l.idxOf t] = t := List.getElem_idxOf hlt
  have h1 : l.idxOf t ≤ k := by
    rcases Nat.lt_or_ge k (l.idxOf t) with hh | hh
    · have := List.not_of_lt_findIdx (p := fun x => x == t) (xs := l) (i := k) hh
      simp [he] at this
    · exact hh
  have h2 : ¬ l.idxOf t < k := fun hh => hb _ hlt hh hg
  have : l.idxOf t = k := by omega
  rw [this]
theorem idxI_none {l : List Int} {t : Int} (h : ∀ j (hj : j < l.length), l[j] ≠ t) : idxI l t = -1 := by
  unfold idxI
  rw [if_neg]
  intro hm
  obtain ⟨i, hi, he⟩ := List.mem_iff_getElem.1 hm
  exact h i hi he
theorem idxI_has (l : List Int) (t : Int) : decide (0 ≤ idxI l t) = hasI l t := by
  unfold idxI hasI
  by_cases h : t ∈ l <;> simp [h]
theorem idxI_le (l : List Int) (t : Int) : -1 ≤ idxI l t := by unfold idxI; split <;> omega
theorem idxI_lt (l : List Int) (t : Int) : idxI l t < l.length := by
  unfold idxI
  split
  · rename_i h; have := List.idxOf_lt_length_of_mem h; omega
  · omega
theorem rd_none {w : World} {R : Nat → Prop} {s n c : Nat} {xs : List Value} (h : Rd w R s none n c xs) : n = 0 := by
  rcases Nat.eq_zero_or_pos n with h0 | h0
  · exact h0
  · obtain ⟨g, off, hh, _⟩ := h.2.2.2 h0; cases hh

theorem eInt : ETy Try.prog 22 3 1 8 := ⟨Try.underlying22, info_of (z := .int .i64 0) (by kernel_rfl) rfl, by decide⟩
theorem clone_int (R : Nat → Prop) (a : Option Addr) (n c : Nat) (xs : List Value) (w : World) (h : Rd w R 1 a n c xs) (hone : ∀ u ∈ xs, u.oneCell' = true) (hn : n ≤ 4294967296) :
    Calls Try.prog 50 #[.slice a n c] w fun e w' => ∃ a' c' G, e = .returned (.slice a' n c') ∧ Sl w' 3 1 a' n c' xs G ∧ Chg Nil w w' ∧ ∀ g, G = some g → w.heap.size ≤ g := by
  have he := fun (w : World) (a : Option Addr) (n c : Nat) => Lib.run_eql_slice_nil (P := Try.prog) w 22 3 a n c 0 0 Try.underlying22
  cases a with
  | none =>
    have h0 : n = 0 := rd_none h
    subst h0
    have hl : xs = [] := List.eq_nil_of_length_eq_zero (by simpa using h.len)
    subst hl
    clear h hone
    go_enter Try.func50, Try.ntmps50
    go_wp2
    go_ret
    exact ⟨_, _, none, rfl, Sl.empty _ _ _ _, Chg.refl _ _, fun _ h => by cases h⟩
  | some x =>
    have H := hid (h.alloc (.cells #[] 3))
    have HO := hid hone
    clear h hone
    go_enter Try.func50, Try.ntmps50
    go_wp2_with (at_builtin; refine wpList_append_sl rfl _ _ eInt rfl rfl rfl (Sl.empty _ _ _ _) H.out HO.out (by omega) (by omega) ?_; intro a' c' w' G' q1 q2 q3)
    go_ret
    rw [Nat.zero_add, List.nil_append] at q1
    refine ⟨_, _, G', rfl, q1, ((Chg.refl Nil w).alloc _).trans q2 (fun i _ h => by cases h), fun g hg => ?_⟩
    rcases q3 with q3 | q3 <;> rw [q3] at hg
    · cases hg
    · injection hg with hg; rw [← hg]; simp
theorem index_int (R : Nat → Prop) (a : Option Addr) (n c : Nat) (l : List Int) (t : Int) (w : World) (h : Rd w R 1 a n c (ints .i64 l)) (hn : n ≤ 4294967296) :
    Calls Try.prog 54 #[.slice a n c, .int .i64 t] w fun e w' => e = .returned (.int .i64 (idxI l t)) ∧ w = w' := by
  obtain rfl := h.ilen
  have H := hid h
  clear h
  go_enter Try.func54, Try.ntmps54
  go_wp2
  go_loop [8] (fun i => ∃ k : Nat, k ≤ l.length ∧ i = .int .i64 k ∧ Hid (∀ j (hj : j < l.length), j < k → l[j] ≠ t)) (fun i => l.length - (intOf i).toNat)
  case atStart => exact ⟨0, Nat.zero_le _, rfl, fun _ _ h => absurd h (by omega)⟩
  case round =>
    obtain ⟨k, hk, rfl, hr⟩ := hrel
    by_cases hlt : k < l.length
    · obtain ⟨g, off, rfl, _, _, hc⟩ := H.out.at hlt
      have hc1 := hc k hlt
      clear hc
      by_cases he : l[k] = t
      · have hb : (t == l[k]) = true := by rw [beq_iff_eq]; exact he.symm
        have HE := hid he
        clear he
        go_wp2
        go_ret
        exact ⟨ret_int (idxI_of hlt HE.out hr.out).symm, rfl⟩
      · have hb : (t == l[k]) = false := by rw [beq_eq_false_iff_ne]; exact fun hh => he hh.symm
        have HE := hid he
        clear he
        go_wp2
        go_round
        case rel =>
          refine ⟨k + 1, by omega, by go_num, fun j hj hjk => ?_⟩
          by_cases hjk' : j = k
          · subst hjk'; exact HE.out
          · exact hr.out j hj (by omega)
        case measure => simp [intOf]; omega
    · go_wp2
      go_ret
      exact ⟨ret_int (idxI_none fun j hj => hr.out j hj (by omega)).symm, rfl⟩
theorem contains_int (R : Nat → Prop) (a : Option Addr) (n c : Nat) (l : List Int) (t : Int) (w : World) (h : Rd w R 1 a n c (ints .i64 l)) (hn : n ≤ 4294967296) :
    Calls Try.prog 35 #[.slice a n c, .int .i64 t] w fun e w' => e = .returned (.bool (hasI l t)) ∧ w = w' := by
  have H := hid h
  clear h
  go_enter Try.func35, Try.ntmps35
  go_wp2_with (go_at_call 54; refine (index_int R a n c l t _ H.out hn).mono ?_; rintro e w' ⟨rfl, rfl⟩)
  go_ret
  exact ⟨ret_bool (idxI_has l t), rfl⟩
theorem equal_int (R R' : Nat → Prop) (a b : Option Addr) (n c n' c' : Nat) (l m : List Int) (w : World) (h : Rd w R 1 a n c (ints .i64 l)) (h' : Rd w R' 1 b n' c' (ints .i64 m)) (hn : n ≤ 4294967296) (hn' : n' ≤ 4294967296) :
    Calls Try.prog 37 #[.slice a n c, .slice b n' c'] w fun e w' => e = .returned (.bool (eqI l m)) ∧ ∃ k, w' = w.drewN k := by
  obtain rfl := h.ilen
  obtain rfl := h'.ilen
  by_cases hlen : l.length = m.length
  · have hb : ((l.length : Int) != (m.length : Int)) = false := by rw [bne_eq_false_iff_eq]; omega
    have H := hid h
    have H' := hid h'
    have HL := hid hlen
    clear h h' hlen
    go_enter Try.func37, Try.ntmps37
    go_wp2
    go_loopw [13] (fun i wr => ∃ k : Nat, k ≤ l.length ∧ i = .int .i64 k ∧ Hid (l.take k = m.take k) ∧ Hid (∃ q, wr = w.drewN q)) (fun i _ => l.length - (intOf i).toNat)
    case atStart => exact ⟨0, Nat.zero_le _, rfl, rfl, 0, rfl⟩
    case round =>
      obtain ⟨k, hk, rfl, hr, q, rfl⟩ := hrel
      by_cases hlt : k < l.length
      · have hlt' : k < m.length := by have := HL.out; omega
        obtain ⟨g, off, rfl, _, _, hc⟩ := H.out.at hlt
        obtain ⟨g', off', rfl, _, _, hd⟩ := H'.out.at hlt'
        have hc1 := hc k hlt
        have hd1 := hd k hlt'
        clear hc hd
        have i1 : (k : Int) < (l.length : Int) := by omega
        have i2 : (k : Int) < (m.length : Int) := by omega
        by_cases he : l[k] = m[k]
        · have hbb : (l[k] != m[k]) = false := by rw [bne_eq_false_iff_eq]; exact he
          have HE := hid he
          clear he
          go_wp2
          go_quiet (fail)
          go_wp2
          go_roundw
          case rel =>
            refine ⟨k + 1, by omega, by go_num, ?_, _, rfl⟩
            show l.take (k + 1) = m.take (k + 1)
            rw [List.take_succ_eq_append_getElem hlt, List.take_succ_eq_append_getElem hlt', hr.out, HE.out]
          case measure => simp [intOf]; omega
        · have hbb : (l[k] != m[k]) = true := by rw [bne_iff_ne]; exact he
          have HE := hid he
          clear he
          go_wp2
          go_quiet (fail)
          go_wp2
          go_ret
          refine ⟨ret_bool ?_, _, World.drewN_drewN _ _ _⟩
          symm
          unfold eqI
          rw [decide_eq_false_iff_not]
          rintro rfl
          exact HE.out rfl
      · go_wp2
        go_ret
        refine ⟨ret_bool ?_, q, rfl⟩
        symm
        refine eqI_true ?_
        have h1 := hr.out
        rwa [List.take_of_length_le (by omega), List.take_of_length_le (by have := HL.out; omega)] at h1
  · have hb : ((l.length : Int) != (m.length : Int)) = true := by rw [bne_iff_ne]; omega
    have HL := hid hlen
    clear h h' hlen
    go_enter Try.func37, Try.ntmps37
    go_wp2
    go_ret
    refine ⟨ret_bool ?_, 0, rfl⟩
    symm
    unfold eqI
    rw [decide_eq_false_iff_not]
    rintro rfl
    exact HL.out rfl
theorem grow_int (n : Nat) (w : World) (hn : n ≤ 4294967296) :
    Calls Try.prog 53 #[.slice none 0 0, .int .i64 n] w fun e w' => ∃ a c G, e = .returned (.slice a 0 c) ∧ Sl w' 3 1 a 0 c [] G ∧ Chg Nil w w' ∧ ∀ g, G = some g → w.heap.size ≤ g := by
  by_cases h0 : n = 0
  · subst h0
    go_enter Try.func53, Try.ntmps53
    go_wp2
    go_ret
    exact ⟨none, 0, none, rfl, Sl.empty _ _ _ _, Chg.refl _ _, fun g h => by cases h⟩
  · go_enter Try.func53, Try.ntmps53
    go_wp2_with (at_builtin; refine wpList_append_zeros_sl rfl _ _ eInt Try.underlying3 rfl n rfl rfl (by omega) hn (by omega) ?_; intro c' w' q1 q2 q3)
    go_ret
    exact ⟨_, c', _, rfl, q1, q2, fun g h => by injection h with h; omega⟩
set_option maxHeartbeats 400000 in
theorem concat_int (R R' : Nat → Prop) (A : Option Addr) (m C : Nat) (ps : List Part) (w : World) (h : Rd w R' 1 A m C (ps.map Part.val)) (hp : ∀ p ∈ ps, Rd w R 1 p.a p.n p.c p.xs ∧ ∀ u ∈ p.xs, u.oneCell' = true) (hm : m ≤ 4294967296) (hn : partsLen ps ≤ 4294967296) :
    Calls Try.prog 34 #[.slice A m C] w fun e w' => ∃ a c G, e = .returned (.slice a (partsLen ps) c) ∧ Sl w' 3 1 a (partsLen ps) c (partsCells ps) G ∧ Chg Nil w w' ∧ ∀ g, G = some g → w.heap.size ≤ g := by
  obtain rfl : ps.length = m := by have := h.len; simpa using this
  have H := hid h
  have HP := hid hp
  clear h hp
  go_enter Try.func34, Try.ntmps34
  go_wp2
  go_loop [3, 11] (fun s3 s11 => ∃ k : Nat, k ≤ ps.length ∧ s11 = .int .i64 k ∧ s3 = .int .i64 (partsLen (ps.take k))) (fun _ s11 => ps.length - (intOf s11).toNat)
  case atStart => exact ⟨0, by omega, rfl, rfl⟩
  case round =>
    obtain ⟨k, hk, rfl, rfl⟩ := hrel
    have hle := partsLen_le ps k
    by_cases hlt : k < ps.length
    · obtain ⟨g, off, rfl, _, _, hc⟩ := H.out.cellAt (by omega)
      have hc1 := hc k hlt
      rw [List.getElem?_map, List.getElem?_eq_getElem hlt] at hc1
      simp only [Option.map_some, Part.val] at hc1
      clear hc
      have hs := partsLen_succ ps k hlt
      have hle2 := partsLen_le ps (k + 1)
      have hsn : partsLen (ps.take k) + ps[k].n ≤ 4294967296 := by omega
      replace hs := hid hs
      go_wp2
      go_round
      case rel => exact ⟨k + 1, by omega, by go_num, by rw [hs.out]; go_num⟩
      case measure => simp [intOf]; omega
    · obtain rfl : k = ps.length := by omega
      rw [List.take_length]
      clear hle
      go_wp2_with (go_at_call 53; refine (grow_int _ _ hn).mono ?_; rintro e w1 ⟨a1, c1, G1, rfl, q1, q2, q3⟩; replace q3 := hid q3)
      go_loopw [6, 27] (fun s6 s27 wr => ∃ (k : Nat) (a : Option Addr) (c : Nat) (G : Option Nat), k ≤ ps.length ∧ s27 = .int .i64 k ∧ s6 = .slice a (partsLen (ps.take k)) c ∧ Hid (Sl wr 3 1 a (partsLen (ps.take k)) c (partsCells (ps.take k)) G ∧ Chg Nil w wr ∧ ∀ g, G = some g → w.heap.size ≤ g)) (fun _ s27 _ => ps.length - (intOf s27).toNat)
      case atStart => exact ⟨0, a1, c1, G1, by omega, rfl, rfl, q1, q2, q3.out⟩
      case round =>
        clear q1 q2 q3
        obtain ⟨k, a, c, G, hk, rfl, rfl, hJ⟩ := hrel
        obtain ⟨j1, j2, j3⟩ := id hJ.out
        by_cases hlt : k < ps.length
        · obtain ⟨g, off, rfl, _, _, hc⟩ := (H.out.chg j2 (fun _ _ _ h => h)).cellAt (by omega)
          have hc1 := hc k hlt
          rw [List.getElem?_map, List.getElem?_eq_getElem hlt] at hc1
          simp only [Option.map_some, Part.val] at hc1
          clear hc
          obtain ⟨p1, p2⟩ := HP.out ps[k] (List.getElem_mem hlt)
          have p1' := hid (p1.chg j2 (fun _ _ _ h => h))
          have P2 := hid p2
          have hs := partsLen_succ ps k hlt
          have hle2 := partsLen_le ps (k + 1)
          have hsn : partsLen (ps.take k) + ps[k].n ≤ 4294967296 := by omega
          replace hs := hid hs
          clear p1 p2 hle2
          replace j2 := hid j2
          replace j3 := hid j3
          go_wp2_with (at_builtin; refine wpList_append_sl rfl _ _ eInt rfl rfl rfl j1 p1'.out P2.out hsn (by omega) ?_; intro a' c' w2 G' y1 y2 y3; replace y3 := hid y3)
          go_roundw
          case rel =>
            have hcs := partsCells_succ ps k hlt
            refine ⟨k + 1, a', c', G', by omega, by go_num, by rw [hs.out], by rw [hs.out, hcs]; exact y1, j2.out.trans y2 (fun i hi hG => by have := j3.out i hG; omega), fun g hg => ?_⟩
            rcases opt_grew y3.out g hg with h | h
            · exact j3.out g h
            · have := j2.out.size; omega
          case measure => simp [intOf]; omega
        · obtain rfl : k = ps.length := by omega
          rw [List.take_length] at j1 ⊢
          go_wp2
          go_ret
          exact ⟨a, c, G, rfl, j1, j2, j3⟩
theorem isNaN_int (x : Int) (w : World) : Calls Try.prog 94 #[.int .i64 x] w fun e w' => e = .returned (.bool false) ∧ w = w' := by
  go_enter Try.func94, Try.ntmps94
  go_wp2
  go_ret
  exact ⟨by simp, rfl⟩
theorem less_int (x y : Int) (w : World) : Calls Try.prog 84 #[.int .i64 x, .int .i64 y] w fun e w' => e = .returned (.bool (decide (x < y))) ∧ w' = w := by
  go_enter Try.func84, Try.ntmps84
  go_wp2_with (go_at_call 94; refine (isNaN_int _ _).mono ?_; rintro e w' ⟨rfl, rfl⟩)
  go_ret
  exact ⟨by simp, rfl⟩
end Go.Proofs.Ytdelelpfombfbaa
