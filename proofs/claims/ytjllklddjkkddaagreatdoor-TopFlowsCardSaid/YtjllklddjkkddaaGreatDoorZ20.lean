/- A block's cells as a function of the place. No program in sight; no condition · Contracts of package open: what is open, and by whom. Conditions: processes from 1 to 16 · Contracts of package open: find, Get, Close. Conditions: processes from 1 to 16; a descriptor that leads somewhere. -/
import Derived.Test.YtjllklddjkkddaaGreatDoorZ12
import Derived.Test.YtjllklddjkkddaaGreatDoorZ02
import Derived.RegionTactic
import Derived.BigRegion
import Derived.Deep.RegionLaw
import Derived.Deep.RegionHeld3
import Derived.Deep.QuietTactic
import Derived.BigQuiet
namespace Go.Proofs.YtjllklddjkkddaaGreatDoor
open Go.ChangeShapes Go.WideShapes Go.ChangeAt Go.RowKit
set_option linter.unusedVariables false
/-- n cells, told by place. -/
def tab (n : Nat) (f : Nat → Value) : List Value := (List.range n).map f
theorem tab_len (n : Nat) (f : Nat → Value) : (tab n f).length = n := by simp [tab]
theorem tab_get {n i : Nat} (f : Nat → Value) (h : i < n) : (tab n f)[i]? = some (f i) := by simp [tab, h]
theorem tab_ext {n : Nat} {f g : Nat → Value} (h : ∀ i, i < n → f i = g i) : tab n f = tab n g := by
  unfold tab
  exact List.map_congr_left (fun i hi => h i (by simpa using hi))
theorem tab_of {n : Nat} {f : Nat → Value} {l : List Value} (hl : l.length = n) (h : ∀ i, i < n → l[i]? = some (f i)) : l = tab n f := by
  apply List.ext_getElem?
  intro i
  by_cases hi : i < n
  · rw [h i hi, tab_get f hi]
  · rw [List.getElem?_eq_none (by omega), List.getElem?_eq_none (by rw [tab_len]; omega)]
theorem tab_set {n i : Nat} {f : Nat → Value} {v : Value} (h : i < n) : (tab n f).set i v = tab n (fun j => if j = i then v else f j) := by
  refine tab_of (by rw [List.length_set, tab_len]) (fun j hj => ?_)
  rw [List.getElem?_set, tab_len]
  by_cases hji : i = j
  · subst hji
    rw [if_pos rfl, if_pos h, if_pos rfl]
  · rw [if_neg hji, tab_get f hj, if_neg (fun hh => hji hh.symm)]
theorem tab_part {n lo m : Nat} {f : Nat → Value} (h : lo + m ≤ n) : part_ (tab n f) lo m = tab m (fun i => f (lo + i)) :=
  tab_of (part_len (by rw [tab_len]; omega)) (fun j hj => by rw [part_get (by rw [tab_len]; omega) hj, tab_get f (by omega)])
theorem tab_over {n lo m : Nat} {f g : Nat → Value} (h : lo + m ≤ n) : over_ (tab n f) lo (tab m g) = tab n (fun i => if lo ≤ i ∧ i < lo + m then g (i - lo) else f i) := by
  refine tab_of (by rw [over_len (by rw [tab_len, tab_len]; omega), tab_len]) (fun j hj => ?_)
  rw [over_get (by rw [tab_len, tab_len]; omega), tab_len]
  by_cases h1 : j < lo
  · rw [if_pos h1, tab_get f hj, if_neg (by omega)]
  · rw [if_neg h1]
    by_cases h2 : j < lo + m
    · rw [if_pos h2, tab_get g (by omega), if_pos ⟨by omega, h2⟩]
    · rw [if_neg h2, tab_get f hj, if_neg (by omega)]
theorem tab_one {n : Nat} {f : Nat → Value} (h : ∀ i, i < n → (f i).oneCell' = true) : ∀ u ∈ tab n f, u.oneCell' = true := by
  intro u hu
  unfold tab at hu
  obtain ⟨i, hi, rfl⟩ := List.mem_map.1 hu
  exact h i (by simpa using hi)
section
variable {w : World} {p n : Nat} {t : TypeId} {f : Nat → Value}
theorem Blk.tabSet (h : Blk w p t (tab n f)) {i : Nat} (hi : i < n) (v : Value) : Blk (w.setCell ⟨p, i, none⟩ v) p t (tab n (fun j => if j = i then v else f j)) := by
  have := h.set i v
  rwa [tab_set hi] at this
theorem Blk.tabCell (h : Blk w p t (tab n f)) {i : Nat} (hi : i < n) : w.cell? ⟨p, i, none⟩ = some (f i) := by rw [h.cell, tab_get f hi]
theorem Blk.tabEq {g : Nat → Value} (h : Blk w p t (tab n f)) (he : ∀ i, i < n → f i = g i) : Blk w p t (tab n g) := by rwa [← tab_ext he]
end
end Go.Proofs.YtjllklddjkkddaaGreatDoor
namespace Go.Proofs.YtjllklddjkkddaaGreatDoor
open Go.ChangeShapes Go.WideShapes Go.ChangeAt Go.RowKit
set_option linter.unusedVariables false
/-- A thing that is open, and how many lead to it. -/
structure Fl where
  kind : Int
  id : Int
  may : Int
  more : Bool
  at_ : Int
  n : Int
def flZ : Fl := ⟨0, 0, 0, false, 0, 0⟩
def flV (x : Fl) (j : Nat) : Value := if j = 0 then .int .i64 x.kind else if j = 1 then .int .i64 x.id else if j = 2 then .int .i64 x.may else if j = 3 then .bool x.more else if j = 4 then .int .i64 x.at_ else .int .i64 x.n
theorem flV_one (x : Fl) (j : Nat) : (flV x j).oneCell' = true := by
  unfold flV
  repeat' split
  all_goals rfl
/-- The table's cells. -/
def opV (fl : Nat → Fl) (fd : Nat → Nat → Nat) (i : Nat) : Value := if i < 192 then flV (fl (i / 6)) (i % 6) else .int .i64 ((fd ((i - 192) / 8) ((i - 192) % 8) : Nat) : Int)
theorem opV_fl (fl : Nat → Fl) (fd : Nat → Nat → Nat) {k j : Nat} (hk : k < 32) (hj : j < 6) : opV fl fd (k * 6 + j) = flV (fl k) j := by
  unfold opV
  rw [if_pos (by omega), show (k * 6 + j) / 6 = k by omega, show (k * 6 + j) % 6 = j by omega]
theorem opV_fd (fl : Nat → Fl) (fd : Nat → Nat → Nat) {q d : Nat} (hd : d < 8) : opV fl fd (192 + q * 8 + d) = .int .i64 ((fd q d : Nat) : Int) := by
  unfold opV
  rw [if_neg (by omega), show (192 + q * 8 + d - 192) / 8 = q by omega, show (192 + q * 8 + d - 192) % 8 = d by omega]
/-- In block p lies a table of what is open. -/
def OpAt (w : World) (p : Nat) (fl : Nat → Fl) (fd : Nat → Nat → Nat) : Prop := Blk w p 176 (tab 328 (opV fl fd))
def updF {α : Type} (f : Nat → α) (k : Nat) (x : α) : Nat → α := fun j => if j = k then x else f j
def updD (fd : Nat → Nat → Nat) (q d v : Nat) : Nat → Nat → Nat := fun a b => if a = q ∧ b = d then v else fd a b
theorem OpAt.setD {w : World} {p : Nat} {fl : Nat → Fl} {fd : Nat → Nat → Nat} (h : OpAt w p fl fd) {q d : Nat} (hq : q < 17) (hd : d < 8) (v : Nat) : OpAt (w.setCell ⟨p, 192 + q * 8 + d, none⟩ (.int .i64 (v : Int))) p fl (updD fd q d v) := by
  refine Blk.tabEq (Blk.tabSet h (i := 192 + q * 8 + d) (by omega) (.int .i64 (v : Int))) (fun i hi => ?_)
  by_cases he : i = 192 + q * 8 + d
  · subst he
    rw [if_pos rfl, opV_fd _ _ hd]
    unfold updD
    rw [if_pos ⟨rfl, rfl⟩]
  · rw [if_neg he]
    unfold opV
    by_cases h1 : i < 192
    · rw [if_pos h1, if_pos h1]
    · rw [if_neg h1, if_neg h1]
      unfold updD
      rw [if_neg (by omega)]
theorem OpAt.setN {w : World} {p : Nat} {fl : Nat → Fl} {fd : Nat → Nat → Nat} (h : OpAt w p fl fd) {k : Nat} (hk : k < 32) (v : Int) : OpAt (w.setCell ⟨p, k * 6 + 5, none⟩ (.int .i64 v)) p (updF fl k { fl k with n := v }) fd := by
  refine Blk.tabEq (Blk.tabSet h (i := k * 6 + 5) (by omega) (.int .i64 v)) (fun i hi => ?_)
  by_cases he : i = k * 6 + 5
  · subst he
    rw [if_pos rfl, opV_fl _ _ hk (by omega)]
    unfold updF
    rw [if_pos rfl]
    rfl
  · rw [if_neg he]
    unfold opV
    by_cases h1 : i < 192
    · rw [if_pos h1, if_pos h1]
      unfold updF
      by_cases h2 : i / 6 = k
      · rw [if_pos h2, h2]
        have : i % 6 ≠ 5 := by omega
        have : i % 6 < 5 := by omega
        generalize i % 6 = j at *
        unfold flV
        obtain rfl | rfl | rfl | rfl | rfl : j = 0 ∨ j = 1 ∨ j = 2 ∨ j = 3 ∨ j = 4 := by omega
        all_goals rfl
      · rw [if_neg h2]
    · rw [if_neg h1, if_neg h1]
theorem OpAt.n {w : World} {p : Nat} {fl : Nat → Fl} {fd : Nat → Nat → Nat} (h : OpAt w p fl fd) {k : Nat} (hk : k < 32) : w.cell? ⟨p, k * 6 + 5, none⟩ = some (.int .i64 (fl k).n) := by
  rw [Blk.tabCell h (by omega), opV_fl _ _ hk (by omega)]
  rfl
theorem OpAt.fd {w : World} {p : Nat} {fl : Nat → Fl} {fd : Nat → Nat → Nat} (h : OpAt w p fl fd) {q d : Nat} (hq : q < 17) (hd : d < 8) : w.cell? ⟨p, 192 + q * 8 + d, none⟩ = some (.int .i64 ((fd q d : Nat) : Int)) := by
  rw [Blk.tabCell h (by omega), opV_fd _ _ hd]
theorem OpAt.chg {w w' : World} {F : Nat → Prop} {p : Nat} {fl : Nat → Fl} {fd : Nat → Nat → Nat} (h : OpAt w p fl fd) (hc : Chg F w w') (hF : ¬ F p) : OpAt w' p fl fd := Blk.chg h hc hF
set_option maxRecDepth 100000 in
theorem opnew_ok (w : World) : Calls Tryz.prog 29 #[] w fun e w' => e = .returned (.pointer (some ⟨w.heap.size, 0, none⟩)) ∧ OpAt w' w.heap.size (fun _ => flZ) (fun _ _ => 0) ∧ Chg Nil w w' := by
  go_enter Tryz.func29, Tryz.ntmps29
  go_wp2
  go_ret
  have e : Tryz.zeroCells176 = (tab 328 (opV (fun _ => flZ) (fun _ _ => 0))).toArray := by kernel_rfl
  rw [e]
  exact ⟨rfl, Blk.new w 176 _, (Chg.refl Nil w).alloc _⟩
theorem owner_ok (w : World) (q : Nat) (h1 : 1 ≤ q) (h2 : q ≤ 16) : Calls Tryz.prog 145 #[.int .i64 (q : Int)] w fun e w' => e = .returned (.bool true) ∧ w = w' := by
  have i1 : (1 : Int) ≤ (q : Int) := by omega
  have i2 : (q : Int) ≤ 16 := by omega
  go_enter Tryz.func145, Tryz.ntmps145
  go_wp2
  go_ret
  exact ⟨rfl, rfl⟩
set_option maxRecDepth 100000 in
theorem opfree_ok (w : World) (p : Nat) (fl : Nat → Fl) (fd : Nat → Nat → Nat) (h : OpAt w p fl fd) (q : Nat) (hq : q < 17) (d : Nat) (hd : d < 8) (h0 : fd q d = 0) (hb : ∀ j, j < d → fd q j ≠ 0) :
    Calls Tryz.prog 227 #[.pointer (some ⟨p, 0, none⟩), .int .i64 (q : Int)] w fun e w' => e = .returned (.int .i64 (d : Int)) ∧ w = w' := by
  have L1 := load_part (P := Tryz.prog) (ty := 173) (lo := 192 + q * 8) (n := 8) h (by rw [tab_len]; omega) Tryz.underlying173 rfl (by kernel_rfl)
  rw [tab_part (by omega)] at L1
  have H0 := hid h0
  have HB := hid hb
  clear h h0 hb
  go_enter Tryz.func227, Tryz.ntmps227
  go_wp2_with (refine wpList_load_run L1 (by rfl) (by rfl) (by rfl) ?_)
  go_loop [13] (fun i => ∃ j : Nat, j ≤ d ∧ i = .int .i64 j) (fun i => 8 - (intOf i).toNat)
  case atStart => exact ⟨0, by omega, rfl⟩
  case round =>
    obtain ⟨j, hj, rfl⟩ := hrel
    have j8 : j < 8 := by omega
    have hix := fun w => index_arr (P := Tryz.prog) (t := 173) (n := 8) w Tryz.underlying173 (by kernel_rfl) (fun w => Tryz.isAgg3 w) j8 (tab_get (n := 8) (fun i => opV fl fd (192 + q * 8 + i)) j8)
    simp only [opV_fd fl fd j8] at hix
    by_cases hlt : j < d
    · have hne : ¬ ((fd q j : Nat) : Int) = 0 := by have := HB.out j hlt; omega
      have hbb : (((fd q j : Nat) : Int) == 0) = false := by rw [beq_eq_false_iff_ne]; exact hne
      clear L1
      go_wp2
      go_round
      case rel => exact ⟨j + 1, by omega, by go_num⟩
      case measure => simp [intOf]; omega
    · obtain rfl : j = d := by omega
      rw [H0.out] at hix
      go_wp2
      go_ret
      exact ⟨rfl, rfl⟩
set_option maxRecDepth 100000 in
set_option maxHeartbeats 2000000 in
theorem opopen_ok (w : World) (p : Nat) (fl : Nat → Fl) (fd : Nat → Nat → Nat) (h : OpAt w p fl fd) (q : Nat) (hq1 : 1 ≤ q) (hq : q ≤ 16) (d : Nat) (hd : d < 8) (h0 : fd q d = 0) (hb : ∀ j, j < d → fd q j ≠ 0)
    (k : Nat) (hk : k < 32) (hk0 : (fl k).n = 0) (hkb : ∀ j, j < k → (fl j).n ≠ 0) (kind id may at_ : Int) (more : Bool) (b1 : 1 ≤ kind) (b2 : kind ≤ 3) (b3 : 0 ≤ id) (b4 : 0 ≤ may) (b5 : may ≤ 3) (b6 : 0 ≤ at_) :
    Calls Tryz.prog 155 #[.pointer (some ⟨p, 0, none⟩), .int .i64 (q : Int), .agg #[.int .i64 kind, .int .i64 id, .int .i64 may, .bool more, .int .i64 at_]] w fun e w' => e = .returned (.tuple #[.int .i64 (d : Int), .int .i64 0]) ∧ OpAt w' p (updF fl k ⟨kind, id, may, more, at_, 1⟩) (updD fd q d (k + 1)) ∧ Chg (One p) w w' := by
  have HO := hid (fun w => owner_ok w q hq1 hq)
  have hlt := h.lt
  have HF := hid (fun w' (hc : Chg Nil w w') => opfree_ok w' p fl fd (h.chg hc (fun h => h)) q (by omega) d hd h0 hb)
  have i1 : ¬ kind < 1 := by omega
  have i2 : ¬ 3 < kind := by omega
  have i3 : ¬ id < 0 := by omega
  have i4 : ¬ may < 0 := by omega
  have i5 : ¬ 3 < may := by omega
  have i6 : ¬ at_ < 0 := by omega
  have H := hid h
  have HK0 := hid hk0
  have HKB := hid hkb
  have C0 := hid ((Chg.refl Nil w).alloc (.cells #[.int .i64 kind, .int .i64 id, .int .i64 may, .bool more, .int .i64 at_] 169))
  clear h h0 hb hk0 hkb
  go_enter Tryz.func155, Tryz.ntmps155
  go_wp2_with (first | (go_at_call 145; refine (HO.out _).mono ?_; rintro e w' ⟨rfl, rfl⟩) | (go_at_call 227; refine (HF.out _ C0.out).mono ?_; rintro e w' ⟨rfl, rfl⟩))
  obtain ⟨W, hW⟩ : ∃ W, W = w.alloc (.cells #[.int .i64 kind, .int .i64 id, .int .i64 may, .bool more, .int .i64 at_] 169) := ⟨_, rfl⟩
  have X0 := Blk.new w 169 [.int .i64 kind, .int .i64 id, .int .i64 may, .bool more, .int .i64 at_]
  rw [← hW] at C0 ⊢
  rw [show (w.alloc (.cells [Value.int .i64 kind, .int .i64 id, .int .i64 may, .bool more, .int .i64 at_].toArray 169)) = W from hW.symm] at X0
  have A0 := hid (H.out.chg C0.out (fun h => h))
  have x0 := X0.cell 0
  have x1 := X0.cell 1
  have x2 := X0.cell 2
  have x3 := X0.cell 3
  have x4 := X0.cell 4
  simp only [List.getElem?_cons_succ, List.getElem?_cons_zero] at x0 x1 x2 x3 x4
  have hne : w.heap.size ≠ p := by omega
  replace hW := hid hW
  replace X0 := hid X0
  clear H HF
  go_loop [48] (fun i => ∃ j : Nat, j ≤ k ∧ i = .int .i64 j) (fun i => 32 - (intOf i).toNat)
  case atStart => exact ⟨0, by omega, rfl⟩
  case round =>
    obtain ⟨j, hj, rfl⟩ := hrel
    have j32 : j < 32 := by omega
    have n1 := A0.out.n j32
    by_cases hjk : j < k
    · have hbb : ((fl j).n == 0) = false := by rw [beq_eq_false_iff_ne]; exact HKB.out j hjk
      clear x0 x1 x2 x3 x4
      go_wp2
      go_round
      case rel => exact ⟨j + 1, by omega, by go_num⟩
      case measure => simp [intOf]; omega
    · have hjk2 : j = k := by omega
      have hk0 := HK0.out
      subst hjk2
      rw [hk0] at n1
      clear hk0
      go_wp2
      obtain ⟨S1, S2, S3⟩ := store_part (P := Tryz.prog) (ty := 171) (lo := j * 6) (vs := tab 6 (flV ⟨kind, id, may, more, at_, 1⟩)) A0.out (by rw [tab_len, tab_len]; omega) (by rw [tab_len]; kernel_rfl) (tab_one (fun i _ => flV_one _ i))
      rw [tab_over (by omega)] at S2
      have A1 : OpAt (W.setCells p (j * 6) (tab 6 (flV ⟨kind, id, may, more, at_, 1⟩))) p (updF fl j ⟨kind, id, may, more, at_, 1⟩) fd := by
        refine Blk.tabEq S2 (fun i hi => ?_)
        unfold opV
        by_cases h1 : j * 6 ≤ i ∧ i < j * 6 + 6
        · rw [if_pos h1, if_pos (by omega), show i / 6 = j by omega, show i % 6 = i - j * 6 by omega]
          unfold updF
          rw [if_pos rfl]
        · rw [if_neg h1]
          by_cases h2 : i < 192
          · rw [if_pos h2, if_pos h2]
            unfold updF
            rw [if_neg (by omega)]
          · rw [if_neg h2, if_neg h2]
      replace A1 := hid A1
      replace S3 := hid S3
      clear S2 S1
      have c0 := Blk.tabCell A0.out (i := j * 6) (by omega)
      have c1 := Blk.tabCell A0.out (i := j * 6 + 1) (by omega)
      have c2 := Blk.tabCell A0.out (i := j * 6 + 2) (by omega)
      have c3 := Blk.tabCell A0.out (i := j * 6 + 3) (by omega)
      have c4 := Blk.tabCell A0.out (i := j * 6 + 4) (by omega)
      have f0 := Blk.frozen A0.out (j * 6)
      have f1 := Blk.frozen A0.out (j * 6 + 1)
      have f2 := Blk.frozen A0.out (j * 6 + 2)
      have f3 := Blk.frozen A0.out (j * 6 + 3)
      have f4 := Blk.frozen A0.out (j * 6 + 4)
      have f5 := Blk.frozen A0.out (j * 6 + 5)
      have HE : (((((W.setCell ⟨p, j * 6, none⟩ (.int .i64 kind)).setCell ⟨p, j * 6 + 1, none⟩ (.int .i64 id)).setCell ⟨p, j * 6 + 2, none⟩ (.int .i64 may)).setCell ⟨p, j * 6 + 3, none⟩ (.bool more)).setCell ⟨p, j * 6 + 4, none⟩ (.int .i64 at_)).setCell ⟨p, j * 6 + 5, none⟩ (.int .i64 1) = W.setCells p (j * 6) (tab 6 (flV ⟨kind, id, may, more, at_, 1⟩)) := by
        rw [show tab 6 (flV ⟨kind, id, may, more, at_, 1⟩) = [.int .i64 kind, .int .i64 id, .int .i64 may, .bool more, .int .i64 at_, .int .i64 1] from rfl]
        simp only [World.setCells, Nat.add_assoc]
      obtain ⟨W2, hW2⟩ : ∃ W2, W2 = (W.setCells p (j * 6) (tab 6 (flV ⟨kind, id, may, more, at_, 1⟩))).drew := ⟨_, rfl⟩
      have A2 : OpAt W2 p (updF fl j ⟨kind, id, may, more, at_, 1⟩) fd := by rw [hW2]; exact Blk.drew A1.out
      have S4 : Chg (One p) W W2 := by rw [hW2]; exact S3.out.drew
      rw [← HE] at hW2
      replace hW2 := hid hW2
      replace A2 := hid A2
      replace S4 := hid S4
      clear A1 S3 HE
      go_cut [59] (fun _ wx => wx = World.drew ((((((W.setCell ⟨p, j * 6, none⟩ (.int .i64 kind)).setCell ⟨p, j * 6 + 1, none⟩ (.int .i64 id)).setCell ⟨p, j * 6 + 2, none⟩ (.int .i64 may)).setCell ⟨p, j * 6 + 3, none⟩ (.bool more)).setCell ⟨p, j * 6 + 4, none⟩ (.int .i64 at_)).setCell ⟨p, j * 6 + 5, none⟩ (.int .i64 1)))
      case first =>
        go_region
        go_wp2
        go_meet
        rfl
      case rest =>
        rw [← hW2.out] at hcut
        subst hcut
        have A3 := hid (A2.out.setD (q := q) (d := d) (by omega) hd (j + 1))
        have k1 := A2.out.fd (q := q) (d := d) (by omega) hd
        have f1 := Blk.frozen A2.out (192 + q * 8 + d)
        replace hW2 := hid hW2
        clear c0 c1 c2 c3 c4 f0 f2 f3 f4 f5 x0 x1 x2 x3 x4 n1
        go_wp2
        go_ret2
        exact ⟨rfl, A3.out, ((C0.out.mono (fun _ _ h => h.elim)).trans S4.out (fun _ _ h => h)).setCell (p := ⟨p, 192 + q * 8 + d, none⟩) (.inl (show One p p from rfl)) _⟩
end Go.Proofs.YtjllklddjkkddaaGreatDoor
namespace Go.Proofs.YtjllklddjkkddaaGreatDoor
open Go.ChangeShapes Go.WideShapes Go.ChangeAt Go.RowKit
set_option linter.unusedVariables false
/-- A thing, as a value. -/
def flA (x : Fl) : Value := .agg #[.int .i64 x.kind, .int .i64 x.id, .int .i64 x.may, .bool x.more, .int .i64 x.at_]
def flL (x : Fl) : List Value := [.int .i64 x.kind, .int .i64 x.id, .int .i64 x.may, .bool x.more, .int .i64 x.at_]
theorem flL_one (x : Fl) : ∀ u ∈ flL x, u.oneCell' = true := by
  intro u hu
  simp only [flL, List.mem_cons, List.not_mem_nil, or_false] at hu
  rcases hu with rfl | rfl | rfl | rfl | rfl <;> rfl
theorem OpAt.part {w : World} {p : Nat} {fl : Nat → Fl} {fd : Nat → Nat → Nat} (h : OpAt w p fl fd) {k : Nat} (hk : k < 32) : (Instr.loadAt 169 (.pointer (some ⟨p, k * 6, none⟩))).run Tryz.prog w = .ok (flA (fl k)) w := by
  have L1 := load_part (P := Tryz.prog) (ty := 169) (lo := k * 6) (n := 5) h (by rw [tab_len]; omega) Tryz.underlying169 rfl (by kernel_rfl)
  rw [tab_part (by omega), tab_ext (g := fun i => flV (fl k) i) (fun i hi => opV_fl fl fd hk (by omega))] at L1
  exact L1
theorem results_blk3 {P : Program} {fn : Func} {p u v : Tmp} {ty t : TypeId} (h : fn.results = #[.cell p ty, .tmp u, .tmp v]) {tmps : Array Value} {w : World} {g : Nat} {cs : List Value} {d : TypeDesc} (hb : Blk w g t cs)
    (hp : tmps.getD p undef = .pointer (some ⟨g, 0, none⟩)) (hu : P.underlying ty = some d) (hd : d.isRow = true) (hi : (P.info? ty).map (·.size) = some cs.length) :
    (results fn tmps).run P w = .ok (.tuple #[.agg cs.toArray, tmps.getD u undef, tmps.getD v undef]) w := by
  have := run_loadVar_mid (P := P) w g 0 ty cs d (fun j v hv => by rw [Nat.zero_add, hb.cell, hv]) hu hd hi
  have e : (results fn tmps).run P w = ((asAddr (tmps.getD p undef)).run P w).andThen fun a w1 => ((loadVar ty a).run P w1).andThen fun x w2 => .ok (.tuple #[x, tmps.getD u undef, tmps.getD v undef]) w2 := by
    simp only [results, h]
    simp [Sem.run_bind, Result.andThen]
  rw [e, hp]
  simp [asAddr, Result.andThen, this]
set_option maxRecDepth 100000 in
set_option maxHeartbeats 1000000 in
theorem opfind_ok (w : World) (p : Nat) (fl : Nat → Fl) (fd : Nat → Nat → Nat) (h : OpAt w p fl fd) (q : Nat) (hq1 : 1 ≤ q) (hq : q ≤ 16) (d : Nat) (hd : d < 8) (k : Nat) (hk : k < 32) (hf : fd q d = k + 1) :
    Calls Tryz.prog 157 #[.pointer (some ⟨p, 0, none⟩), .int .i64 (q : Int), .int .i64 (d : Int)] w fun e w' => e = .returned (.tuple #[.pointer (some ⟨p, k * 6, none⟩), .int .i64 0]) ∧ ∃ n, w' = w.drewN n := by
  have k1 := h.fd (q := q) (d := d) (by omega) hd
  rw [hf] at k1
  have k2 : w.cell? ⟨p, 192 + q * 8 + d, none⟩ = some (.int .i64 ((k : Int) + 1)) := k1
  have HO := hid (fun w => owner_ok w q hq1 hq)
  have i1 : (d : Int) < 8 := by omega
  have i2 : ((k : Int) + 1 == 0) = false := by rw [beq_eq_false_iff_ne]; omega
  clear h k1 hf
  go_enter Tryz.func157, Tryz.ntmps157
  go_wp2_with (go_at_call 145; refine (HO.out _).mono ?_; rintro e w' ⟨rfl, rfl⟩)
  go_quiet (fail)
  go_wp2
  go_ret2
  exact ⟨rfl, _, rfl⟩
set_option maxRecDepth 100000 in
theorem opget_ok (w : World) (p : Nat) (fl : Nat → Fl) (fd : Nat → Nat → Nat) (h : OpAt w p fl fd) (q : Nat) (hq1 : 1 ≤ q) (hq : q ≤ 16) (d : Nat) (hd : d < 8) (k : Nat) (hk : k < 32) (hf : fd q d = k + 1) :
    Calls Tryz.prog 82 #[.pointer (some ⟨p, 0, none⟩), .int .i64 (q : Int), .int .i64 (d : Int)] w fun e w' => e = .returned (.tuple #[flA (fl k), .int .i64 0]) ∧ Chg Nil w w' := by
  have B0 := hid (Blk.new w 169 (flL flZ))
  have C0 := hid ((Chg.refl Nil w).alloc (.cells (flL flZ).toArray 169))
  have HF := hid (opfind_ok _ p fl fd (h.chg C0.out (fun h => h)) q hq1 hq d hd k hk hf)
  have HP := hid (fun w' (hc : Chg Nil w w') => (h.chg hc (fun h => h)).part hk)
  clear h
  go_enter Tryz.func82, Tryz.ntmps82
  go_wp2_with fail
  refine HF.out.mono ?_
  rintro e w1 ⟨rfl, n, rfl⟩
  have L1 := HP.out _ (C0.out.drewN n)
  obtain ⟨S1, S2, S3⟩ := store_part (P := Tryz.prog) (ty := 169) (lo := 0) (vs := flL (fl k)) (B0.out.drewN n) (by simp [flL]) (by kernel_rfl) (flL_one _)
  rw [over_whole (by simp [flL])] at S2
  have C2 := hid ((C0.out.drewN n).one (.inr (Nat.le_refl _)) S3)
  clear S3
  go_wp2_with (first | (refine wpList_load_run L1 (by rfl) (by rfl) (by rfl) ?_) | (refine wpList_store_run S1 (by rfl) (by rfl) (by rfl) (by rfl) ?_))
  refine bodyPost_ret (results_blk2 rfl S2 rfl Tryz.underlying169 rfl (by kernel_rfl)) rfl ?_
  exact ⟨rfl, C2.out⟩
set_option maxRecDepth 100000 in
set_option maxHeartbeats 1000000 in
theorem opclose_ok (w : World) (p : Nat) (fl : Nat → Fl) (fd : Nat → Nat → Nat) (h : OpAt w p fl fd) (q : Nat) (hq1 : 1 ≤ q) (hq : q ≤ 16) (d : Nat) (hd : d < 8) (k : Nat) (hk : k < 32) (hf : fd q d = k + 1) :
    Calls Tryz.prog 80 #[.pointer (some ⟨p, 0, none⟩), .int .i64 (q : Int), .int .i64 (d : Int)] w fun e w' => e = .returned (.tuple #[flA (fl k), .bool (wrap64 ((fl k).n - 1) == 0), .int .i64 0]) ∧ OpAt w' p (updF fl k { fl k with n := wrap64 ((fl k).n - 1) }) (updD fd q d 0) ∧ Chg (One p) w w' := by
  obtain ⟨x, hx⟩ : ∃ x, x = fl k := ⟨_, rfl⟩
  obtain ⟨m, hm⟩ : ∃ m, m = wrap64 (x.n - 1) := ⟨_, rfl⟩
  rw [← hx, ← hm]
  have B0 := hid (Blk.new w 169 (flL flZ))
  have C0 := hid ((Chg.refl Nil w).alloc (.cells (flL flZ).toArray 169))
  have HF := hid (opfind_ok _ p fl fd (h.chg C0.out (fun h => h)) q hq1 hq d hd k hk hf)
  have H := hid h
  have hlt := h.lt
  clear h
  go_enter Tryz.func80, Tryz.ntmps80
  go_wp2_with fail
  refine HF.out.mono ?_
  rintro e w1 ⟨rfl, n, rfl⟩
  have C1 := C0.out.drewN n
  have A1 := H.out.chg C1 (fun h => h)
  obtain ⟨W, hW⟩ : ∃ W, W = (w.alloc (.cells (flL flZ).toArray 169)).drewN n := ⟨_, rfl⟩
  have B1 := B0.out.drewN n
  rw [← hW] at C1 A1 B1 ⊢
  have k1 := A1.fd (q := q) (d := d) (by omega) hd
  have f1 := Blk.frozen A1 (192 + q * 8 + d)
  have A2 : OpAt (W.setCell ⟨p, 192 + q * 8 + d, none⟩ (.int .i64 0)) p fl (updD fd q d 0) := A1.setD (q := q) (d := d) (by omega) hd 0
  have B2 := B1.far (p := ⟨p, 192 + q * 8 + d, none⟩) (by show w.heap.size ≠ p; omega) (.int .i64 0)
  have k2 := A2.n hk
  rw [← hx] at k2
  have f2 := Blk.frozen A2 (k * 6 + 5)
  have A3 := A2.setN hk m
  rw [← hx] at A3
  have B3 := B2.far (p := ⟨p, k * 6 + 5, none⟩) (by show w.heap.size ≠ p; omega) (.int .i64 m)
  have C3 : Chg (One p) w ((W.setCell ⟨p, 192 + q * 8 + d, none⟩ (.int .i64 0)).setCell ⟨p, k * 6 + 5, none⟩ (.int .i64 m)) := ((C1.mono (fun _ _ h => h.elim)).setCell (p := ⟨p, 192 + q * 8 + d, none⟩) (.inl (show One p p from rfl)) _).setCell (p := ⟨p, k * 6 + 5, none⟩) (.inl (show One p p from rfl)) _
  replace A3 := hid A3
  replace B3 := hid B3
  replace C3 := hid C3
  replace hW := hid hW
  replace hm := hid hm
  replace hx := hid hx
  clear A1 A2 B1 B2 C1 HF
  go_wp2
  rw [← hm.out]
  generalize (W.setCell ⟨p, 192 + q * 8 + d, none⟩ (.int .i64 0)).setCell ⟨p, k * 6 + 5, none⟩ (.int .i64 m) = V at *
  have y : ∀ j, j < 6 → V.cell? ⟨p, k * 6 + j, none⟩ = some (flV { x with n := m } j) := fun j hj => by
    rw [Blk.tabCell A3.out (by omega), opV_fl _ _ hk hj]
    unfold updF
    rw [if_pos rfl]
  have y0 : V.cell? ⟨p, k * 6, none⟩ = some (.int .i64 x.kind) := y 0 (by omega)
  have y1 : V.cell? ⟨p, k * 6 + 1, none⟩ = some (.int .i64 x.id) := y 1 (by omega)
  have y2 : V.cell? ⟨p, k * 6 + 2, none⟩ = some (.int .i64 x.may) := y 2 (by omega)
  have y3 : V.cell? ⟨p, k * 6 + 3, none⟩ = some (.bool x.more) := y 3 (by omega)
  have y4 : V.cell? ⟨p, k * 6 + 4, none⟩ = some (.int .i64 x.at_) := y 4 (by omega)
  have y5 : V.cell? ⟨p, k * 6 + 5, none⟩ = some (.int .i64 m) := y 5 (by omega)
  have l0 := B3.out.cell 0
  have l1 := B3.out.cell 1
  have l2 := B3.out.cell 2
  have l3 := B3.out.cell 3
  have l4 := B3.out.cell 4
  have g0 := B3.out.frozen 0
  have g1 := B3.out.frozen 1
  have g2 := B3.out.frozen 2
  have g3 := B3.out.frozen 3
  have g4 := B3.out.frozen 4
  simp only [flL, List.getElem?_cons_succ, List.getElem?_cons_zero] at l0 l1 l2 l3 l4
  have hne : p ≠ w.heap.size := by omega
  obtain ⟨S1, S2, S3⟩ := store_part (P := Tryz.prog) (ty := 169) (lo := 0) (vs := flL x) B3.out (by simp [flL]) (by kernel_rfl) (flL_one _)
  rw [over_whole (by simp [flL])] at S2
  have HE : ((((V.setCell ⟨w.heap.size, 0, none⟩ (.int .i64 x.kind)).setCell ⟨w.heap.size, 1, none⟩ (.int .i64 x.id)).setCell ⟨w.heap.size, 2, none⟩ (.int .i64 x.may)).setCell ⟨w.heap.size, 3, none⟩ (.bool x.more)).setCell ⟨w.heap.size, 4, none⟩ (.int .i64 x.at_) = V.setCells w.heap.size 0 (flL x) := rfl
  have A4 : OpAt (V.setCells w.heap.size 0 (flL x)) p (updF fl k { x with n := m }) (updD fd q d 0) := A3.out.chg S3 (fun hh => hne hh)
  have C4 : Chg (One p) w (V.setCells w.heap.size 0 (flL x)) := C3.out.one (.inr (Nat.le_refl _)) S3
  rw [← HE] at S2 A4 C4
  replace S2 := hid S2
  replace A4 := hid A4
  replace C4 := hid C4
  clear y S1 S3 HE k1 f1 k2 f2
  go_region
  all_goals
    go_wp2
    refine bodyPost_ret (results_blk3 rfl (Blk.drew S2.out) rfl Tryz.underlying169 rfl (by kernel_rfl)) rfl ?_
    exact ⟨rfl, A4.out, C4.out.drew⟩
end Go.Proofs.YtjllklddjkkddaaGreatDoor
