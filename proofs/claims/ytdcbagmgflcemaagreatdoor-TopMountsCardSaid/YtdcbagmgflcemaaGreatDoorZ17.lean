/- Contracts of package open: what is open, and by whom. Conditions: processes from 1 to 16 · Contracts of package open: find, Get, Close. Conditions: processes from 1 to 16; a descriptor that leads somewhere · Contracts of package open: Fork, Drop. Conditions: processes from 1 to 16 · Contracts of package proc: who lives, and whose child he is. Conditions: processes from 1 to 16 · Contracts of package proc: Fork, Exit, Wait. Conditions: processes from 1 to 16. -/
import Derived.Test.YtdcbagmgflcemaaGreatDoorZ14
import Derived.Test.YtdcbagmgflcemaaGreatDoorZ02
import Derived.RegionTactic
import Derived.BigRegion
import Derived.Deep.RegionLaw
import Derived.Deep.RegionHeld3
import Derived.Deep.QuietTactic
import Derived.BigQuiet
namespace Go.Proofs.YtdcbagmgflcemaaGreatDoor
open Go.ChangeShapes Go.WideShapes Go.ChangeAt Go.RowKit
set_option linter.unusedVariables false
/-- A thing that is open, and how many lead to it. -/
structure Fl where
  kind : Int
  id : Int
  may : Int
  more : Bool
  at_ : Int
  n : Int
def flZ : Fl := ⟨0, 0, 0, false, 0, 0⟩
def flV (x : Fl) (j : Nat) : Value := if j = 0 then .int .i64 x.kind else if j = 1 then .int .i64 x.id else if j = 2 then .int .i64 x.may else if j = 3 then .bool x.more else if j = 4 then .int .i64 x.at_ else .int .i64 x.n
theorem flV_one (x : Fl) (j : Nat) : (flV x j).oneCell' = true := by
  unfold flV
  repeat' split
  all_goals rfl
/-- The table's cells. -/
def opV (fl : Nat → Fl) (fd : Nat → Nat → Nat) (i : Nat) : Value := if i < 192 then flV (fl (i / 6)) (i % 6) else .int .i64 ((fd ((i - 192) / 8) ((i - 192) % 8) : Nat) : Int)
theorem opV_fl (fl : Nat → Fl) (fd : Nat → Nat → Nat) {k j : Nat} (hk : k < 32) (hj : j < 6) : opV fl fd (k * 6 + j) = flV (fl k) j := by
  unfold opV
  rw [if_pos (by omega), show (k * 6 + j) / 6 = k by omega, show (k * 6 + j) % 6 = j by omega]
theorem opV_fd (fl : Nat → Fl) (fd : Nat → Nat → Nat) {q d : Nat} (hd : d < 8) : opV fl fd (192 + q * 8 + d) = .int .i64 ((fd q d : Nat) : Int) := by
  unfold opV
  rw [if_neg (by omega), show (192 + q * 8 + d - 192) / 8 = q by omega, show (192 + q * 8 + d - 192) % 8 = d by omega]
/-- In block p lies a table of what is open. -/
def OpAt (w : World) (p : Nat) (fl : Nat → Fl) (fd : Nat → Nat → Nat) : Prop := Blk w p 166 (tab 328 (opV fl fd))
def updF {α : Type} (f : Nat → α) (k : Nat) (x : α) : Nat → α := fun j => if j = k then x else f j
def updD (fd : Nat → Nat → Nat) (q d v : Nat) : Nat → Nat → Nat := fun a b => if a = q ∧ b = d then v else fd a b
theorem OpAt.setD {w : World} {p : Nat} {fl : Nat → Fl} {fd : Nat → Nat → Nat} (h : OpAt w p fl fd) {q d : Nat} (hq : q < 17) (hd : d < 8) (v : Nat) : OpAt (w.setCell ⟨p, 192 + q * 8 + d, none⟩ (.int .i64 (v : Int))) p fl (updD fd q d v) := by
  refine Blk.tabEq (Blk.tabSet h (i := 192 + q * 8 + d) (by omega) (.int .i64 (v : Int))) (fun i hi => ?_)
  by_cases he : i = 192 + q * 8 + d
  · subst he
    rw [if_pos rfl, opV_fd _ _ hd]
    unfold updD
    rw [if_pos ⟨rfl, rfl⟩]
  · rw [if_neg he]
    unfold opV
    by_cases h1 : i < 192
    · rw [if_pos h1, if_pos h1]
    · rw [if_neg h1, if_neg h1]
      unfold updD
      rw [if_neg (by omega)]
theorem OpAt.n {w : World} {p : Nat} {fl : Nat → Fl} {fd : Nat → Nat → Nat} (h : OpAt w p fl fd) {k : Nat} (hk : k < 32) : w.cell? ⟨p, k * 6 + 5, none⟩ = some (.int .i64 (fl k).n) := by
  rw [Blk.tabCell h (by omega), opV_fl _ _ hk (by omega)]
  rfl
theorem OpAt.fd {w : World} {p : Nat} {fl : Nat → Fl} {fd : Nat → Nat → Nat} (h : OpAt w p fl fd) {q d : Nat} (hq : q < 17) (hd : d < 8) : w.cell? ⟨p, 192 + q * 8 + d, none⟩ = some (.int .i64 ((fd q d : Nat) : Int)) := by
  rw [Blk.tabCell h (by omega), opV_fd _ _ hd]
theorem OpAt.chg {w w' : World} {F : Nat → Prop} {p : Nat} {fl : Nat → Fl} {fd : Nat → Nat → Nat} (h : OpAt w p fl fd) (hc : Chg F w w') (hF : ¬ F p) : OpAt w' p fl fd := Blk.chg h hc hF
set_option maxRecDepth 100000 in
theorem opnew_ok (w : World) : Calls Tryz.prog 29 #[] w fun e w' => e = .returned (.pointer (some ⟨w.heap.size, 0, none⟩)) ∧ OpAt w' w.heap.size (fun _ => flZ) (fun _ _ => 0) ∧ Chg Nil w w' := by
  go_enter Tryz.func29, Tryz.ntmps29
  go_wp2
  go_ret
  have e : Tryz.zeroCells166 = (tab 328 (opV (fun _ => flZ) (fun _ _ => 0))).toArray := by kernel_rfl
  rw [e]
  exact ⟨rfl, Blk.new w 166 _, (Chg.refl Nil w).alloc _⟩
theorem owner_ok (w : World) (q : Nat) (h1 : 1 ≤ q) (h2 : q ≤ 16) : Calls Tryz.prog 145 #[.int .i64 (q : Int)] w fun e w' => e = .returned (.bool true) ∧ w = w' := by
  have i1 : (1 : Int) ≤ (q : Int) := by omega
  have i2 : (q : Int) ≤ 16 := by omega
  go_enter Tryz.func145, Tryz.ntmps145
  go_wp2
  go_ret
  exact ⟨rfl, rfl⟩
set_option maxRecDepth 100000 in
theorem opfree_ok (w : World) (p : Nat) (fl : Nat → Fl) (fd : Nat → Nat → Nat) (h : OpAt w p fl fd) (q : Nat) (hq : q < 17) (d : Nat) (hd : d < 8) (h0 : fd q d = 0) (hb : ∀ j, j < d → fd q j ≠ 0) :
    Calls Tryz.prog 227 #[.pointer (some ⟨p, 0, none⟩), .int .i64 (q : Int)] w fun e w' => e = .returned (.int .i64 (d : Int)) ∧ w = w' := by
  have L1 := load_part (P := Tryz.prog) (ty := 163) (lo := 192 + q * 8) (n := 8) h (by rw [tab_len]; omega) Tryz.underlying163 rfl (by kernel_rfl)
  rw [tab_part (by omega)] at L1
  have H0 := hid h0
  have HB := hid hb
  clear h h0 hb
  go_enter Tryz.func227, Tryz.ntmps227
  go_wp2_with (refine wpList_load_run L1 (by rfl) (by rfl) (by rfl) ?_)
  go_loop [13] (fun i => ∃ j : Nat, j ≤ d ∧ i = .int .i64 j) (fun i => 8 - (intOf i).toNat)
  case atStart => exact ⟨0, by omega, rfl⟩
  case round =>
    obtain ⟨j, hj, rfl⟩ := hrel
    have j8 : j < 8 := by omega
    have hix := fun w => index_arr (P := Tryz.prog) (t := 163) (n := 8) w Tryz.underlying163 (by kernel_rfl) (fun w => Tryz.isAgg3 w) j8 (tab_get (n := 8) (fun i => opV fl fd (192 + q * 8 + i)) j8)
    simp only [opV_fd fl fd j8] at hix
    by_cases hlt : j < d
    · have hne : ¬ ((fd q j : Nat) : Int) = 0 := by have := HB.out j hlt; omega
      have hbb : (((fd q j : Nat) : Int) == 0) = false := by rw [beq_eq_false_iff_ne]; exact hne
      clear L1
      go_wp2
      go_round
      case rel => exact ⟨j + 1, by omega, by go_num⟩
      case measure => simp [intOf]; omega
    · obtain rfl : j = d := by omega
      rw [H0.out] at hix
      go_wp2
      go_ret
      exact ⟨rfl, rfl⟩
set_option maxRecDepth 100000 in
set_option maxHeartbeats 2000000 in
theorem opopen_ok (w : World) (p : Nat) (fl : Nat → Fl) (fd : Nat → Nat → Nat) (h : OpAt w p fl fd) (q : Nat) (hq1 : 1 ≤ q) (hq : q ≤ 16) (d : Nat) (hd : d < 8) (h0 : fd q d = 0) (hb : ∀ j, j < d → fd q j ≠ 0)
    (k : Nat) (hk : k < 32) (hk0 : (fl k).n = 0) (hkb : ∀ j, j < k → (fl j).n ≠ 0) (kind id may at_ : Int) (more : Bool) (b1 : 1 ≤ kind) (b2 : kind ≤ 3) (b3 : 0 ≤ id) (b4 : 0 ≤ may) (b5 : may ≤ 3) (b6 : 0 ≤ at_) :
    Calls Tryz.prog 155 #[.pointer (some ⟨p, 0, none⟩), .int .i64 (q : Int), .agg #[.int .i64 kind, .int .i64 id, .int .i64 may, .bool more, .int .i64 at_]] w fun e w' => e = .returned (.tuple #[.int .i64 (d : Int), .int .i64 0]) ∧ OpAt w' p (updF fl k ⟨kind, id, may, more, at_, 1⟩) (updD fd q d (k + 1)) ∧ Chg (One p) w w' := by
  have HO := hid (fun w => owner_ok w q hq1 hq)
  have hlt := h.lt
  have HF := hid (fun w' (hc : Chg Nil w w') => opfree_ok w' p fl fd (h.chg hc (fun h => h)) q (by omega) d hd h0 hb)
  have i1 : ¬ kind < 1 := by omega
  have i2 : ¬ 3 < kind := by omega
  have i3 : ¬ id < 0 := by omega
  have i4 : ¬ may < 0 := by omega
  have i5 : ¬ 3 < may := by omega
  have i6 : ¬ at_ < 0 := by omega
  have H := hid h
  have HK0 := hid hk0
  have HKB := hid hkb
  have C0 := hid ((Chg.refl Nil w).alloc (.cells #[.int .i64 kind, .int .i64 id, .int .i64 may, .bool more, .int .i64 at_] 159))
  clear h h0 hb hk0 hkb
  go_enter Tryz.func155, Tryz.ntmps155
  go_wp2_with (first | (go_at_call 145; refine (HO.out _).mono ?_; rintro e w' ⟨rfl, rfl⟩) | (go_at_call 227; refine (HF.out _ C0.out).mono ?_; rintro e w' ⟨rfl, rfl⟩))
  obtain ⟨W, hW⟩ : ∃ W, W = w.alloc (.cells #[.int .i64 kind, .int .i64 id, .int .i64 may, .bool more, .int .i64 at_] 159) := ⟨_, rfl⟩
  have X0 := Blk.new w 159 [.int .i64 kind, .int .i64 id, .int .i64 may, .bool more, .int .i64 at_]
  rw [← hW] at C0 ⊢
  rw [show (w.alloc (.cells [Value.int .i64 kind, .int .i64 id, .int .i64 may, .bool more, .int .i64 at_].toArray 159)) = W from hW.symm] at X0
  have A0 := hid (H.out.chg C0.out (fun h => h))
  have x0 := X0.cell 0
  have x1 := X0.cell 1
  have x2 := X0.cell 2
  have x3 := X0.cell 3
  have x4 := X0.cell 4
  simp only [List.getElem?_cons_succ, List.getElem?_cons_zero] at x0 x1 x2 x3 x4
  have hne : w.heap.size ≠ p := by omega
  replace hW := hid hW
  replace X0 := hid X0
  clear H HF
  go_loop [48] (fun i => ∃ j : Nat, j ≤ k ∧ i = .int .i64 j) (fun i => 32 - (intOf i).toNat)
  case atStart => exact ⟨0, by omega, rfl⟩
  case round =>
    obtain ⟨j, hj, rfl⟩ := hrel
    have j32 : j < 32 := by omega
    have n1 := A0.out.n j32
    by_cases hjk : j < k
    · have hbb : ((fl j).n == 0) = false := by rw [beq_eq_false_iff_ne]; exact HKB.out j hjk
      clear x0 x1 x2 x3 x4
      go_wp2
      go_round
      case rel => exact ⟨j + 1, by omega, by go_num⟩
      case measure => simp [intOf]; omega
    · have hjk2 : j = k := by omega
      have hk0 := HK0.out
      subst hjk2
      rw [hk0] at n1
      clear hk0
      go_wp2
      obtain ⟨S1, S2, S3⟩ := store_part (P := Tryz.prog) (ty := 161) (lo := j * 6) (vs := tab 6 (flV ⟨kind, id, may, more, at_, 1⟩)) A0.out (by rw [tab_len, tab_len]; omega) (by rw [tab_len]; kernel_rfl) (tab_one (fun i _ => flV_one _ i))
      rw [tab_over (by omega)] at S2
      have A1 : OpAt (W.setCells p (j * 6) (tab 6 (flV ⟨kind, id, may, more, at_, 1⟩))) p (updF fl j ⟨kind, id, may, more, at_, 1⟩) fd := by
        refine Blk.tabEq S2 (fun i hi => ?_)
        unfold opV
        by_cases h1 : j * 6 ≤ i ∧ i < j * 6 + 6
        · rw [if_pos h1, if_pos (by omega), show i / 6 = j by omega, show i % 6 = i - j * 6 by omega]
          unfold updF
          rw [if_pos rfl]
        · rw [if_neg h1]
          by_cases h2 : i < 192
          · rw [if_pos h2, if_pos h2]
            unfold updF
            rw [if_neg (by omega)]
          · rw [if_neg h2, if_neg h2]
      replace A1 := hid A1
      replace S3 := hid S3
      clear S2 S1
      have c0 := Blk.tabCell A0.out (i := j * 6) (by omega)
      have c1 := Blk.tabCell A0.out (i := j * 6 + 1) (by omega)
      have c2 := Blk.tabCell A0.out (i := j * 6 + 2) (by omega)
      have c3 := Blk.tabCell A0.out (i := j * 6 + 3) (by omega)
      have c4 := Blk.tabCell A0.out (i := j * 6 + 4) (by omega)
      have f0 := Blk.frozen A0.out (j * 6)
      have f1 := Blk.frozen A0.out (j * 6 + 1)
      have f2 := Blk.frozen A0.out (j * 6 + 2)
      have f3 := Blk.frozen A0.out (j * 6 + 3)
      have f4 := Blk.frozen A0.out (j * 6 + 4)
      have f5 := Blk.frozen A0.out (j * 6 + 5)
      have HE : (((((W.setCell ⟨p, j * 6, none⟩ (.int .i64 kind)).setCell ⟨p, j * 6 + 1, none⟩ (.int .i64 id)).setCell ⟨p, j * 6 + 2, none⟩ (.int .i64 may)).setCell ⟨p, j * 6 + 3, none⟩ (.bool more)).setCell ⟨p, j * 6 + 4, none⟩ (.int .i64 at_)).setCell ⟨p, j * 6 + 5, none⟩ (.int .i64 1) = W.setCells p (j * 6) (tab 6 (flV ⟨kind, id, may, more, at_, 1⟩)) := by
        rw [show tab 6 (flV ⟨kind, id, may, more, at_, 1⟩) = [.int .i64 kind, .int .i64 id, .int .i64 may, .bool more, .int .i64 at_, .int .i64 1] from rfl]
        simp only [World.setCells, Nat.add_assoc]
      obtain ⟨W2, hW2⟩ : ∃ W2, W2 = (W.setCells p (j * 6) (tab 6 (flV ⟨kind, id, may, more, at_, 1⟩))).drew := ⟨_, rfl⟩
      have A2 : OpAt W2 p (updF fl j ⟨kind, id, may, more, at_, 1⟩) fd := by rw [hW2]; exact Blk.drew A1.out
      have S4 : Chg (One p) W W2 := by rw [hW2]; exact S3.out.drew
      rw [← HE] at hW2
      replace hW2 := hid hW2
      replace A2 := hid A2
      replace S4 := hid S4
      clear A1 S3 HE
      go_cut [59] (fun _ wx => wx = World.drew ((((((W.setCell ⟨p, j * 6, none⟩ (.int .i64 kind)).setCell ⟨p, j * 6 + 1, none⟩ (.int .i64 id)).setCell ⟨p, j * 6 + 2, none⟩ (.int .i64 may)).setCell ⟨p, j * 6 + 3, none⟩ (.bool more)).setCell ⟨p, j * 6 + 4, none⟩ (.int .i64 at_)).setCell ⟨p, j * 6 + 5, none⟩ (.int .i64 1)))
      case first =>
        go_region
        go_wp2
        go_meet
        rfl
      case rest =>
        rw [← hW2.out] at hcut
        subst hcut
        have A3 := hid (A2.out.setD (q := q) (d := d) (by omega) hd (j + 1))
        have k1 := A2.out.fd (q := q) (d := d) (by omega) hd
        have f1 := Blk.frozen A2.out (192 + q * 8 + d)
        replace hW2 := hid hW2
        clear c0 c1 c2 c3 c4 f0 f2 f3 f4 f5 x0 x1 x2 x3 x4 n1
        go_wp2
        go_ret2
        exact ⟨rfl, A3.out, ((C0.out.mono (fun _ _ h => h.elim)).trans S4.out (fun _ _ h => h)).setCell (p := ⟨p, 192 + q * 8 + d, none⟩) (.inl (show One p p from rfl)) _⟩
end Go.Proofs.YtdcbagmgflcemaaGreatDoor
namespace Go.Proofs.YtdcbagmgflcemaaGreatDoor
open Go.ChangeShapes Go.WideShapes Go.ChangeAt Go.RowKit
set_option linter.unusedVariables false
/-- A thing, as a value. -/
def flA (x : Fl) : Value := .agg #[.int .i64 x.kind, .int .i64 x.id, .int .i64 x.may, .bool x.more, .int .i64 x.at_]
def flL (x : Fl) : List Value := [.int .i64 x.kind, .int .i64 x.id, .int .i64 x.may, .bool x.more, .int .i64 x.at_]
theorem flL_one (x : Fl) : ∀ u ∈ flL x, u.oneCell' = true := by
  intro u hu
  simp only [flL, List.mem_cons, List.not_mem_nil, or_false] at hu
  rcases hu with rfl | rfl | rfl | rfl | rfl <;> rfl
theorem OpAt.part {w : World} {p : Nat} {fl : Nat → Fl} {fd : Nat → Nat → Nat} (h : OpAt w p fl fd) {k : Nat} (hk : k < 32) : (Instr.loadAt 159 (.pointer (some ⟨p, k * 6, none⟩))).run Tryz.prog w = .ok (flA (fl k)) w := by
  have L1 := load_part (P := Tryz.prog) (ty := 159) (lo := k * 6) (n := 5) h (by rw [tab_len]; omega) Tryz.underlying159 rfl (by kernel_rfl)
  rw [tab_part (by omega), tab_ext (g := fun i => flV (fl k) i) (fun i hi => opV_fl fl fd hk (by omega))] at L1
  exact L1
set_option maxRecDepth 100000 in
set_option maxHeartbeats 1000000 in
theorem opfind_ok (w : World) (p : Nat) (fl : Nat → Fl) (fd : Nat → Nat → Nat) (h : OpAt w p fl fd) (q : Nat) (hq1 : 1 ≤ q) (hq : q ≤ 16) (d : Nat) (hd : d < 8) (k : Nat) (hk : k < 32) (hf : fd q d = k + 1) :
    Calls Tryz.prog 157 #[.pointer (some ⟨p, 0, none⟩), .int .i64 (q : Int), .int .i64 (d : Int)] w fun e w' => e = .returned (.tuple #[.pointer (some ⟨p, k * 6, none⟩), .int .i64 0]) ∧ ∃ n, w' = w.drewN n := by
  have k1 := h.fd (q := q) (d := d) (by omega) hd
  rw [hf] at k1
  have k2 : w.cell? ⟨p, 192 + q * 8 + d, none⟩ = some (.int .i64 ((k : Int) + 1)) := k1
  have HO := hid (fun w => owner_ok w q hq1 hq)
  have i1 : (d : Int) < 8 := by omega
  have i2 : ((k : Int) + 1 == 0) = false := by rw [beq_eq_false_iff_ne]; omega
  clear h k1 hf
  go_enter Tryz.func157, Tryz.ntmps157
  go_wp2_with (go_at_call 145; refine (HO.out _).mono ?_; rintro e w' ⟨rfl, rfl⟩)
  go_quiet (fail)
  go_wp2
  go_ret2
  exact ⟨rfl, _, rfl⟩
set_option maxRecDepth 100000 in
theorem opget_ok (w : World) (p : Nat) (fl : Nat → Fl) (fd : Nat → Nat → Nat) (h : OpAt w p fl fd) (q : Nat) (hq1 : 1 ≤ q) (hq : q ≤ 16) (d : Nat) (hd : d < 8) (k : Nat) (hk : k < 32) (hf : fd q d = k + 1) :
    Calls Tryz.prog 82 #[.pointer (some ⟨p, 0, none⟩), .int .i64 (q : Int), .int .i64 (d : Int)] w fun e w' => e = .returned (.tuple #[flA (fl k), .int .i64 0]) ∧ Chg Nil w w' := by
  have B0 := hid (Blk.new w 159 (flL flZ))
  have C0 := hid ((Chg.refl Nil w).alloc (.cells (flL flZ).toArray 159))
  have HF := hid (opfind_ok _ p fl fd (h.chg C0.out (fun h => h)) q hq1 hq d hd k hk hf)
  have HP := hid (fun w' (hc : Chg Nil w w') => (h.chg hc (fun h => h)).part hk)
  clear h
  go_enter Tryz.func82, Tryz.ntmps82
  go_wp2_with fail
  refine HF.out.mono ?_
  rintro e w1 ⟨rfl, n, rfl⟩
  have L1 := HP.out _ (C0.out.drewN n)
  obtain ⟨S1, S2, S3⟩ := store_part (P := Tryz.prog) (ty := 159) (lo := 0) (vs := flL (fl k)) (B0.out.drewN n) (by simp [flL]) (by kernel_rfl) (flL_one _)
  rw [over_whole (by simp [flL])] at S2
  have C2 := hid ((C0.out.drewN n).one (.inr (Nat.le_refl _)) S3)
  clear S3
  go_wp2_with (first | (refine wpList_load_run L1 (by rfl) (by rfl) (by rfl) ?_) | (refine wpList_store_run S1 (by rfl) (by rfl) (by rfl) (by rfl) ?_))
  refine bodyPost_ret (results_blk2 rfl S2 rfl Tryz.underlying159 rfl (by kernel_rfl)) rfl ?_
  exact ⟨rfl, C2.out⟩
end Go.Proofs.YtdcbagmgflcemaaGreatDoor
namespace Go.Proofs.YtdcbagmgflcemaaGreatDoor
open Go.ChangeShapes Go.WideShapes Go.ChangeAt Go.RowKit
set_option linter.unusedVariables false
end Go.Proofs.YtdcbagmgflcemaaGreatDoor
namespace Go.Proofs.YtdcbagmgflcemaaGreatDoor
open Go.ChangeShapes Go.WideShapes Go.ChangeAt Go.RowKit
set_option linter.unusedVariables false
/-- A process's entry. -/
structure Pe where
  state : Int
  parent : Int
  group : Int
  status : Int
def peZ : Pe := ⟨0, 0, 0, 0⟩
def peV (x : Pe) (j : Nat) : Value := if j = 0 then .int .i64 x.state else if j = 1 then .int .i64 x.parent else if j = 2 then .int .i64 x.group else .int .i64 x.status
def prV (l : Nat → Pe) (i : Nat) : Value := peV (l (i / 4)) (i % 4)
theorem prV_at (l : Nat → Pe) {k j : Nat} (hj : j < 4) : prV l (k * 4 + j) = peV (l k) j := by
  unfold prV
  rw [show (k * 4 + j) / 4 = k by omega, show (k * 4 + j) % 4 = j by omega]
/-- In block p lies a table of processes. -/
def PrAt (w : World) (p : Nat) (l : Nat → Pe) : Prop := Blk w p 171 (tab 68 (prV l))
section
variable {w w' : World} {F : Nat → Prop} {p : Nat} {l : Nat → Pe}
theorem PrAt.chg (h : PrAt w p l) (hc : Chg F w w') (hF : ¬ F p) : PrAt w' p l := Blk.chg h hc hF
theorem PrAt.cellAt (h : PrAt w p l) {k j : Nat} (hk : k < 17) (hj : j < 4) : w.cell? ⟨p, k * 4 + j, none⟩ = some (peV (l k) j) := by rw [Blk.tabCell h (by omega), prV_at _ hj]
theorem PrAt.state (h : PrAt w p l) {k : Nat} (hk : k < 17) : w.cell? ⟨p, k * 4, none⟩ = some (.int .i64 (l k).state) := h.cellAt (j := 0) hk (by omega)
theorem PrAt.parent (h : PrAt w p l) {k : Nat} (hk : k < 17) : w.cell? ⟨p, k * 4 + 1, none⟩ = some (.int .i64 (l k).parent) := h.cellAt (j := 1) hk (by omega)
theorem PrAt.group (h : PrAt w p l) {k : Nat} (hk : k < 17) : w.cell? ⟨p, k * 4 + 2, none⟩ = some (.int .i64 (l k).group) := h.cellAt (j := 2) hk (by omega)
theorem PrAt.status (h : PrAt w p l) {k : Nat} (hk : k < 17) : w.cell? ⟨p, k * 4 + 3, none⟩ = some (.int .i64 (l k).status) := h.cellAt (j := 3) hk (by omega)
end
theorem number_ok (w : World) (q : Nat) (h1 : 1 ≤ q) (h2 : q ≤ 16) : Calls Tryz.prog 69 #[.int .i64 (q : Int)] w fun e w' => e = .returned (.bool true) ∧ w = w' := by
  have i1 : (1 : Int) ≤ (q : Int) := by omega
  have i2 : (q : Int) ≤ 16 := by omega
  go_enter Tryz.func69, Tryz.ntmps69
  go_wp2
  go_ret
  exact ⟨rfl, rfl⟩
theorem prstate_ok (w : World) (p : Nat) (l : Nat → Pe) (h : PrAt w p l) (q : Nat) (h1 : 1 ≤ q) (h2 : q ≤ 16) :
    Calls Tryz.prog 35 #[.pointer (some ⟨p, 0, none⟩), .int .i64 (q : Int)] w fun e w' => e = .returned (.tuple #[.int .i64 (l q).state, .int .i64 0]) ∧ w = w' := by
  have k1 := h.state (k := q) (by omega)
  have HN := hid (number_ok w q h1 h2)
  clear h
  go_enter Tryz.func35, Tryz.ntmps35
  go_wp2_with (go_at_call 69; refine HN.out.mono ?_; rintro e w' ⟨rfl, rfl⟩)
  go_ret2
  exact ⟨rfl, rfl⟩
set_option maxRecDepth 100000 in
set_option maxHeartbeats 2000000 in
theorem prnew_ok (w : World) : Calls Tryz.prog 30 #[] w fun e w' => e = .returned (.pointer (some ⟨w.heap.size, 0, none⟩)) ∧ PrAt w' w.heap.size (updF (fun _ => peZ) 1 ⟨1, 0, 1, 0⟩) ∧ Chg Nil w w' := by
  have e1 : ((((Tryz.zeroCells171.setIfInBounds 4 (.int .i64 1)).setIfInBounds 5 (.int .i64 0)).setIfInBounds 6 (.int .i64 1)).setIfInBounds 7 (.int .i64 0)) = (tab 68 (prV (updF (fun _ => peZ) 1 ⟨1, 0, 1, 0⟩))).toArray := by kernel_rfl
  have c0 : Tryz.zeroCells171[4]? = some (.int .i64 0) := by kernel_rfl
  have c1 : Tryz.zeroCells171[5]? = some (.int .i64 0) := by kernel_rfl
  have c2 : Tryz.zeroCells171[6]? = some (.int .i64 0) := by kernel_rfl
  have c3 : Tryz.zeroCells171[7]? = some (.int .i64 0) := by kernel_rfl
  have cs : Tryz.zeroCells171.size = 68 := by kernel_rfl
  replace e1 := hid e1
  go_enter Tryz.func30, Tryz.ntmps30
  go_wp2
  go_ret
  rw [e1.out]
  exact ⟨rfl, Blk.new w 171 _, (Chg.refl Nil w).alloc _⟩
end Go.Proofs.YtdcbagmgflcemaaGreatDoor
namespace Go.Proofs.YtdcbagmgflcemaaGreatDoor
open Go.ChangeShapes Go.WideShapes Go.ChangeAt Go.RowKit
set_option linter.unusedVariables false
end Go.Proofs.YtdcbagmgflcemaaGreatDoor
