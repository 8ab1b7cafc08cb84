/- The kernel in memory: its own block, and what it leads to. Conditions: no pipe, or one; no pages; no signals; no timers · The kernel's state, whole: its parts lie apart. No program is walked here; no condition · Contracts of the kernel: living, between, fail. Conditions: a process that lives; no signal waits · The kernel as one thing in memory, with one footprint. No program is walked here; no condition · The kernel makes a pipe. Conditions: the first one; two descriptors and two places are free. -/
import Derived.Test.YtdcbagmgflcemaaGreatDoorZ16
import Derived.Test.YtdcbagmgflcemaaGreatDoorZ17
import Derived.Test.YtdcbagmgflcemaaGreatDoorZ18
import Derived.Test.YtdcbagmgflcemaaGreatDoorZ19
import Derived.Test.YtdcbagmgflcemaaGreatDoorZ22
import Derived.Test.YtdcbagmgflcemaaGreatDoorZ23
import Derived.Test.YtdcbagmgflcemaaGreatDoorZ25
namespace Go.Proofs.YtdcbagmgflcemaaGreatDoor
open Go.ChangeShapes Go.WideShapes Go.ChangeAt Go.RowKit
set_option linter.unusedVariables false
/-- A task's cells where it is none. -/
def tkZ (j : Nat) : Value := if j < 9 then (if j = 0 then .int .i64 0 else .int .u32 0) else if j = 9 then .int .u32 0 else if j = 13 ∨ j = 17 ∨ j = 18 then .slice none 0 0 else if j = 37 then .bool false else .int .i64 0
/-- The kernel's cells: what it leads to, its tasks. -/
def knV (hd : Nat → Value) (ts : Nat → Nat → Value) (i : Nat) : Value := if i < 8 then hd i else if i < 654 then ts ((i - 8) / 38) ((i - 8) % 38) else .int .u32 0
theorem knV_hd (hd : Nat → Value) (ts : Nat → Nat → Value) {i : Nat} (h : i < 8) : knV hd ts i = hd i := by unfold knV; rw [if_pos h]
theorem knV_ts (hd : Nat → Value) (ts : Nat → Nat → Value) {q j : Nat} (hq : q < 17) (hj : j < 38) : knV hd ts (8 + q * 38 + j) = ts q j := by
  unfold knV
  rw [if_neg (by omega), if_pos (by omega), show (8 + q * 38 + j - 8) / 38 = q by omega, show (8 + q * 38 + j - 8) % 38 = j by omega]
def hdZ (i : Nat) : Value := if i = 0 then .int .i64 0 else .pointer none
/-- What the kernel leads to. -/
def hdK (pm pf pp pr pw po pc : Nat) (i : Nat) : Value := if i = 0 then .int .i64 1 else .pointer (some ⟨if i = 1 then pm else if i = 2 then pf else if i = 3 then pp else if i = 4 then pr else if i = 5 then pw else if i = 6 then po else pc, 0, none⟩)
def KnAt (w : World) (p : Nat) (hd : Nat → Value) (ts : Nat → Nat → Value) : Prop := Blk w p 71 (tab 655 (knV hd ts))
def updH (hd : Nat → Value) (i : Nat) (v : Value) : Nat → Value := fun j => if j = i then v else hd j
def updT (ts : Nat → Nat → Value) (q j : Nat) (v : Value) : Nat → Nat → Value := fun a b => if a = q ∧ b = j then v else ts a b
theorem kn_zero : Tryz.zeroCells71 = (tab 655 (knV hdZ (fun _ => tkZ))).toArray := by kernel_rfl
section
variable {w w' : World} {F : Nat → Prop} {p : Nat} {hd : Nat → Value} {ts : Nat → Nat → Value}
theorem KnAt.chg (h : KnAt w p hd ts) (hc : Chg F w w') (hF : ¬ F p) : KnAt w' p hd ts := Blk.chg h hc hF
theorem KnAt.h (h : KnAt w p hd ts) {i : Nat} (hi : i < 8) : w.cell? ⟨p, i, none⟩ = some (hd i) := by rw [Blk.tabCell h (by omega), knV_hd _ _ hi]
theorem KnAt.t (h : KnAt w p hd ts) {q j : Nat} (hq : q < 17) (hj : j < 38) : w.cell? ⟨p, 8 + q * 38 + j, none⟩ = some (ts q j) := by rw [Blk.tabCell h (by omega), knV_ts _ _ hq hj]
theorem KnAt.setH (h : KnAt w p hd ts) {i : Nat} (hi : i < 8) (v : Value) : KnAt (w.setCell ⟨p, i, none⟩ v) p (updH hd i v) ts := by
  refine Blk.tabEq (Blk.tabSet h (i := i) (by omega) v) (fun j hj => ?_)
  unfold knV
  by_cases he : j = i
  · subst he
    rw [if_pos rfl, if_pos hi]
    unfold updH
    rw [if_pos rfl]
  · rw [if_neg he]
    split
    · unfold updH
      rw [if_neg he]
    · rfl
theorem KnAt.setT (h : KnAt w p hd ts) {q j : Nat} (hq : q < 17) (hj : j < 38) (v : Value) : KnAt (w.setCell ⟨p, 8 + q * 38 + j, none⟩ v) p hd (updT ts q j v) := by
  refine Blk.tabEq (Blk.tabSet h (i := 8 + q * 38 + j) (by omega) v) (fun i hi => ?_)
  by_cases he : i = 8 + q * 38 + j
  · subst he
    rw [if_pos rfl, knV_ts _ _ hq hj]
    unfold updT
    rw [if_pos ⟨rfl, rfl⟩]
  · rw [if_neg he]
    unfold knV
    split
    · rfl
    · split
      · unfold updT
        rw [if_neg (by omega)]
      · rfl
end
end Go.Proofs.YtdcbagmgflcemaaGreatDoor
namespace Go.Proofs.YtdcbagmgflcemaaGreatDoor
open Go.ChangeShapes Go.WideShapes Go.ChangeAt Go.RowKit
set_option linter.unusedVariables false
/-- What the kernel knows. -/
structure KX where
  n : Nat
  sp : Nat → Bool
  pipe : Option (Int × Int × List Int)
  run : SR
  fl : Nat → Fl
  fd : Nat → Nat → Nat
  pl : Nat → Pe
  ts : Nat → Nat → Value
  cw : Bool := true
def PipeAt (w : World) (F : Nat → Prop) (p : Nat) : Option (Int × Int × List Int) → Prop
  | none => Blk w p 154 (tab 16 (piV none)) ∧ F p ∧ ∀ k, F k → k < w.heap.size
  | some (r, s, bs) => ∃ g, PiAt w F p g r s bs
theorem PipeAt.chg {w w' : World} {F H : Nat → Prop} {p : Nat} {o : Option (Int × Int × List Int)} (h : PipeAt w F p o) (hc : Chg H w w') (hd : Dj F H) : PipeAt w' F p o := by
  match o with
  | none => exact ⟨h.1.chg hc (hd p h.2.1), h.2.1, fun k hk => Nat.lt_of_lt_of_le (h.2.2 k hk) hc.size⟩
  | some (r, s, bs) =>
    obtain ⟨g, h⟩ := h
    exact ⟨g, h.chg hc hd⟩
theorem PipeAt.lt {w : World} {F : Nat → Prop} {p : Nat} {o : Option (Int × Int × List Int)} (h : PipeAt w F p o) : ∀ k, F k → k < w.heap.size := by
  match o with
  | none => exact h.2.2
  | some (r, s, bs) =>
    obtain ⟨g, h⟩ := h
    exact h.lt
def Cq (b : Bool) (q : Nat) : Nat → Prop := fun k => b = true ∧ k = q
def kFs (pk po pc pq : Nat) (b : Bool) (FM FP FR FW : Nat → Prop) : List (Nat → Prop) := [One pk, FM, FP, FR, FW, One po, One pc, Cq b pq]
structure KSy (w : World) (B pk pm pf pp pr pw po pc pq : Nat) (FM FP FR FW : Nat → Prop) (X : KX) : Prop where
  kn : KnAt w pk (hdK pm pf pp pr pw po pc) X.ts
  sp : SpB w FM pm X.n X.sp
  pi : PipeAt w FP pp X.pipe
  rn : RunAt w FR pr X.run
  wh : WhAt w FW pw 0 []
  op : OpAt w po X.fl X.fd
  pr : PrAt w pc X.pl
  cw : X.cw = true → Blk w pq 3 [.int .i64 1]
  cd : X.cw = true → X.ts 1 17 = .slice (some ⟨pq, 0, none⟩) 1 1
  sep : Sep B w.heap.size (kFs pk po pc pq X.cw FM FP FR FW)
  bl : B ≤ w.heap.size
section
variable {w w' : World} {B pk pm pf pp pr pw po pc pq : Nat} {FM FP FR FW : Nat → Prop} {X : KX}
theorem KSy.nil (h : KSy w B pk pm pf pp pr pw po pc pq FM FP FR FW X) (hc : Chg Nil w w') : KSy w' B pk pm pf pp pr pw po pc pq FM FP FR FW X :=
  ⟨h.kn.chg hc (fun h => h), h.sp.chg hc (fun _ _ h => h), h.pi.chg hc (fun _ _ h => h), h.rn.chg hc (fun _ _ h => h), h.wh.chg hc (fun _ _ h => h), h.op.chg hc (fun h => h), h.pr.chg hc (fun h => h), fun hb => (h.cw hb).chg hc (fun h => h), h.cd, h.sep.grow hc.size, Nat.le_trans h.bl hc.size⟩
/-- Blocks that are none of the kernel's change. -/
theorem KSy.far (h : KSy w B pk pm pf pp pr pw po pc pq FM FP FR FW X) {H : Nat → Prop} (hc : Chg H w w') (hH : ∀ k, H k → k < B ∨ ∀ (i : Nat) (F : Nat → Prop), (kFs pk po pc pq X.cw FM FP FR FW)[i]? = some F → ¬ F k) : KSy w' B pk pm pf pp pr pw po pc pq FM FP FR FW X := by
  have dj : ∀ (i : Nat) (F : Nat → Prop), (kFs pk po pc pq X.cw FM FP FR FW)[i]? = some F → Dj F H := fun i F hi k hF hk => by
    rcases hH k hk with h1 | h1
    · have := h.sep.ge i hi k hF; omega
    · exact h1 i F hi hF
  exact ⟨h.kn.chg hc (dj 0 _ rfl pk rfl), h.sp.chg hc (dj 1 _ rfl), h.pi.chg hc (dj 2 _ rfl), h.rn.chg hc (dj 3 _ rfl), h.wh.chg hc (dj 4 _ rfl), h.op.chg hc (dj 5 _ rfl po rfl), h.pr.chg hc (dj 6 _ rfl pc rfl), fun hb => (h.cw hb).chg hc (dj 7 _ rfl pq ⟨hb, rfl⟩), h.cd, h.sep.grow hc.size, Nat.le_trans h.bl hc.size⟩
theorem KSy.upKn (h : KSy w B pk pm pf pp pr pw po pc pq FM FP FR FW X) {ts : Nat → Nat → Value} (hk : KnAt w' pk (hdK pm pf pp pr pw po pc) ts) (hc : Chg (One pk) w w') (ht : X.cw = true → ts 1 17 = X.ts 1 17) : KSy w' B pk pm pf pp pr pw po pc pq FM FP FR FW { X with ts := ts } :=
  have dj : ∀ (i : Nat) (F : Nat → Prop), i ≠ 0 → (kFs pk po pc pq X.cw FM FP FR FW)[i]? = some F → Dj F (One pk) := fun i F hne hi => h.sep.dj i 0 hi rfl hne
  ⟨hk, h.sp.chg hc (dj 1 _ (by omega) rfl), h.pi.chg hc (dj 2 _ (by omega) rfl), h.rn.chg hc (dj 3 _ (by omega) rfl), h.wh.chg hc (dj 4 _ (by omega) rfl), h.op.chg hc (dj 5 _ (by omega) rfl po rfl), h.pr.chg hc (dj 6 _ (by omega) rfl pc rfl), fun hb => (h.cw hb).chg hc (dj 7 _ (by omega) rfl pq ⟨hb, rfl⟩), fun hb => (ht hb).trans (h.cd hb), h.sep.grow hc.size, Nat.le_trans h.bl hc.size⟩
theorem KSy.upSp (h : KSy w B pk pm pf pp pr pw po pc pq FM FP FR FW X) {F' : Nat → Prop} {n : Nat} {sp : Nat → Bool} (hk : SpB w' F' pm n sp) (hc : Chg FM w w') (hg : Grew w.heap.size FM F') : KSy w' B pk pm pf pp pr pw po pc pq F' FP FR FW { X with n := n, sp := sp } :=
  have dj : ∀ (i : Nat) (F : Nat → Prop), i ≠ 1 → (kFs pk po pc pq X.cw FM FP FR FW)[i]? = some F → Dj F FM := fun i F hne hi => h.sep.dj i 1 hi rfl hne
  ⟨h.kn.chg hc (dj 0 _ (by omega) rfl pk rfl), hk, h.pi.chg hc (dj 2 _ (by omega) rfl), h.rn.chg hc (dj 3 _ (by omega) rfl), h.wh.chg hc (dj 4 _ (by omega) rfl), h.op.chg hc (dj 5 _ (by omega) rfl po rfl), h.pr.chg hc (dj 6 _ (by omega) rfl pc rfl), fun hb => (h.cw hb).chg hc (dj 7 _ (by omega) rfl pq ⟨hb, rfl⟩), h.cd, h.sep.upd 1 rfl hg hk.lt hc.size h.bl, Nat.le_trans h.bl hc.size⟩
theorem KSy.upRn (h : KSy w B pk pm pf pp pr pw po pc pq FM FP FR FW X) {F' : Nat → Prop} {r : SR} (hk : RunAt w' F' pr r) (hc : Chg FR w w') (hg : Grew w.heap.size FR F') : KSy w' B pk pm pf pp pr pw po pc pq FM FP F' FW { X with run := r } :=
  have dj : ∀ (i : Nat) (F : Nat → Prop), i ≠ 3 → (kFs pk po pc pq X.cw FM FP FR FW)[i]? = some F → Dj F FR := fun i F hne hi => h.sep.dj i 3 hi rfl hne
  ⟨h.kn.chg hc (dj 0 _ (by omega) rfl pk rfl), h.sp.chg hc (dj 1 _ (by omega) rfl), h.pi.chg hc (dj 2 _ (by omega) rfl), hk, h.wh.chg hc (dj 4 _ (by omega) rfl), h.op.chg hc (dj 5 _ (by omega) rfl po rfl), h.pr.chg hc (dj 6 _ (by omega) rfl pc rfl), fun hb => (h.cw hb).chg hc (dj 7 _ (by omega) rfl pq ⟨hb, rfl⟩), h.cd, h.sep.upd 3 rfl hg hk.lt hc.size h.bl, Nat.le_trans h.bl hc.size⟩
/-- The first process has a place of its own to be at. -/
theorem KSy.upCw (h : KSy w B pk pm pf pp pr pw po pc pq FM FP FR FW X) (hX : X.cw = false) {q : Nat} (hq : w.heap.size ≤ q) (hc0 : Chg Nil w w') (hb : Blk w' q 3 [.int .i64 1]) (ht : X.ts 1 17 = .slice (some ⟨q, 0, none⟩) 1 1) : KSy w' B pk pm pf pp pr pw po pc q FM FP FR FW { X with cw := true } := by
  have h0 := h.nil hc0
  have hs : Sep B w.heap.size (kFs pk po pc pq false FM FP FR FW) := by have := h.sep; rwa [hX] at this
  have h7 := hs.upd (N' := w'.heap.size) (F' := Cq true q) 7 (F := Cq false pq) rfl (fun k hk => .inr (by rw [hk.2]; exact hq)) (fun k hk => by rw [hk.2]; exact hb.lt) hc0.size h.bl
  exact ⟨h0.kn, h0.sp, h0.pi, h0.rn, h0.wh, h0.op, h0.pr, fun _ => hb, fun _ => ht, h7, h0.bl⟩
/-- Of whatever part: only blocks from B on. -/
theorem KSy.ge (h : KSy w B pk pm pf pp pr pw po pc pq FM FP FR FW X) (i : Nat) {F : Nat → Prop} (hi : (kFs pk po pc pq X.cw FM FP FR FW)[i]? = some F) : ∀ k, F k → B ≤ k := h.sep.ge i hi
end
def KSt (B : Nat) (w : World) (pk : Nat) (X : KX) : Prop := ∃ pm pf pp pr pw po pc pq FM FP FR FW, KSy w B pk pm pf pp pr pw po pc pq FM FP FR FW X
theorem KSt.nil {B : Nat} {w w' : World} {pk : Nat} {X : KX} (h : KSt B w pk X) (hc : Chg Nil w w') : KSt B w' pk X := by
  obtain ⟨pm, pf, pp, pr, pw, po, pc, pq, FM, FP, FR, FW, h⟩ := h
  exact ⟨pm, pf, pp, pr, pw, po, pc, pq, FM, FP, FR, FW, h.nil hc⟩
theorem KnAt.hdEq {w : World} {p : Nat} {hd hd' : Nat → Value} {ts : Nat → Nat → Value} (h : KnAt w p hd ts) (he : ∀ i, i < 8 → hd i = hd' i) : KnAt w p hd' ts :=
  Blk.tabEq h (fun i hi => by
    unfold knV
    split
    · rename_i h8
      exact he i h8
    · rfl)
/-- A task that lives: its space; no signals; it does not sleep. -/
structure TsA (ts : Nat → Nat → Value) (q : Nat) (s : Int) : Prop where
  sp : ts q 0 = .int .i64 s
  sg : ∀ j, j < 18 → ts q (19 + j) = .int .i64 0
  aw : ts q 37 = .bool false
  one : ∀ j, j < 38 → (ts q j).oneCell' = true
/-- It is in no further group, and has mounted nothing. -/
structure TsN (ts : Nat → Nat → Value) (q : Nat) : Prop where
  more : ts q 13 = .slice none 0 0
  mt : ts q 18 = .slice none 0 0
theorem KnAt.sig {w : World} {p : Nat} {hd : Nat → Value} {ts : Nat → Nat → Value} (h : KnAt w p hd ts) {q : Nat} (hq : q < 17) {s : Int} (ht : TsA ts q s) : (Instr.loadAt 59 (.pointer (some ⟨p, 8 + q * 38 + 19, none⟩))).run Tryz.prog w = .ok (.agg sgZ.toArray) w := by
  have L1 := load_part (P := Tryz.prog) (ty := 59) (lo := 8 + q * 38 + 19) (n := 18) h (by rw [tab_len]; omega) Tryz.underlying59 rfl (by kernel_rfl)
  rw [tab_part (by omega), tab_ext (g := fun _ => .int .i64 0) (fun i hi => by rw [Nat.add_assoc, knV_ts _ _ hq (by omega)]; exact ht.sg i hi)] at L1
  exact L1
end Go.Proofs.YtdcbagmgflcemaaGreatDoor
namespace Go.Proofs.YtdcbagmgflcemaaGreatDoor
open Go.ChangeShapes Go.WideShapes Go.ChangeAt Go.RowKit
set_option linter.unusedVariables false
/-- An answer. -/
def anC (e a b : Int) (d : Value) : List Value := [.int .i64 e, .int .i64 a, .int .i64 b, d, .slice none 0 0, .int .i64 0, .int .i64 0, .int .i64 0, .int .i64 0, .int .i64 0, .int .i64 0]
theorem anC_one (e a b : Int) (d : Value) (h : d.oneCell' = true) : ∀ u ∈ anC e a b d, u.oneCell' = true := by
  intro u hu
  simp only [anC, List.mem_cons, List.not_mem_nil, or_false] at hu
  rcases hu with rfl | rfl | rfl | rfl | rfl | rfl | rfl | rfl | rfl | rfl | rfl
  all_goals first | rfl | exact h
set_option maxRecDepth 100000 in
theorem kfail_ok (w : World) (n : Int) : Calls Tryz.prog 14 #[.int .i64 n] w fun e w' => e = .returned (.agg (anC n 0 0 (.slice none 0 0)).toArray) ∧ Chg Nil w w' := by
  have B0 := hid (Blk.new w 33 (anC n 0 0 (.slice none 0 0)))
  go_enter Tryz.func14, Tryz.ntmps14
  go_wp2
  refine bodyPost_ret (results_blk rfl B0.out rfl Tryz.underlying33 rfl (by kernel_rfl)) rfl ?_
  exact ⟨rfl, (Chg.refl Nil w).alloc _⟩
end Go.Proofs.YtdcbagmgflcemaaGreatDoor
namespace Go.Proofs.YtdcbagmgflcemaaGreatDoor
open Go.ChangeShapes Go.WideShapes Go.ChangeAt Go.RowKit
set_option linter.unusedVariables false
/-- In one of these. -/
def uni (Fs : List (Nat → Prop)) : Nat → Prop := fun k => ∃ (i : Nat) (F : Nat → Prop), Fs[i]? = some F ∧ F k
/-- The kernel, whole. -/
def KAt (w : World) (B : Nat) (U : Nat → Prop) (pk : Nat) (X : KX) : Prop := ∃ pm pf pp pr pw po pc pq FM FP FR FW, KSy w B pk pm pf pp pr pw po pc pq FM FP FR FW X ∧ U = uni (kFs pk po pc pq X.cw FM FP FR FW)
section
variable {w w' : World} {B pk : Nat} {U H : Nat → Prop} {X : KX}
theorem KAt.chg (h : KAt w B U pk X) (hc : Chg H w w') (hd : Dj U H) : KAt w' B U pk X := by
  obtain ⟨pm, pf, pp, pr, pw, po, pc, pq, FM, FP, FR, FW, h, rfl⟩ := h
  exact ⟨pm, pf, pp, pr, pw, po, pc, pq, FM, FP, FR, FW, h.far hc (fun k hk => .inr (fun i F hi hF => hd k ⟨i, F, hi, hF⟩ hk)), rfl⟩
theorem KAt.nil (h : KAt w B U pk X) (hc : Chg Nil w w') : KAt w' B U pk X := h.chg hc (fun _ _ h => h)
theorem KAt.lt (h : KAt w B U pk X) : ∀ k, U k → k < w.heap.size := by
  obtain ⟨pm, pf, pp, pr, pw, po, pc, pq, FM, FP, FR, FW, h, rfl⟩ := h
  rintro k ⟨i, F, hi, hk⟩
  exact h.sep.lt i hi k hk
theorem KAt.ge (h : KAt w B U pk X) : ∀ k, U k → B ≤ k := by
  obtain ⟨pm, pf, pp, pr, pw, po, pc, pq, FM, FP, FR, FW, h, rfl⟩ := h
  rintro k ⟨i, F, hi, hk⟩
  exact h.sep.ge i hi k hk
theorem KAt.st (h : KAt w B U pk X) : KSt B w pk X := by
  obtain ⟨pm, pf, pp, pr, pw, po, pc, pq, FM, FP, FR, FW, h, rfl⟩ := h
  exact ⟨pm, pf, pp, pr, pw, po, pc, pq, FM, FP, FR, FW, h⟩
theorem KSt.at (h : KSt B w pk X) : ∃ U, KAt w B U pk X := by
  obtain ⟨pm, pf, pp, pr, pw, po, pc, pq, FM, FP, FR, FW, h⟩ := h
  exact ⟨_, pm, pf, pp, pr, pw, po, pc, pq, FM, FP, FR, FW, h, rfl⟩
end
/-- What a call of the kernel leaves: its state, and what may have changed. -/
def KPost (w : World) (B : Nat) (U : Nat → Prop) (pk : Nat) (X : KX) (w' : World) : Prop := ∃ U', KAt w' B U' pk X ∧ Chg U w w' ∧ Grew w.heap.size U U'
theorem KPost.far {w w1 w2 : World} {B pk b : Nat} {U : Nat → Prop} {X : KX} (h : KPost w B U pk X w1) (hb : ¬ U b) (hlt : b < w.heap.size) (hc : Chg (One b) w1 w2) : KAt w2 B h.choose pk X := by
  obtain ⟨h1, h2, h3⟩ := h.choose_spec
  refine h1.chg hc (fun k hk hh => ?_)
  rw [show k = b from hh] at hk
  rcases h3 b hk with h4 | h4
  · exact hb h4
  · omega
section
variable {w w' : World} {B pk pm pf pp pr pw po pc pq : Nat} {FM FP FR FW : Nat → Prop} {X : KX}
end
theorem KPost.trans {w w1 w2 : World} {B pk : Nat} {U U1 : Nat → Prop} {X X2 : KX} (hc : Chg U w w1) (hg : Grew w.heap.size U U1) (h2 : KPost w1 B U1 pk X2 w2) : KPost w B U pk X2 w2 := by
  obtain ⟨U2, a1, a2, a3⟩ := h2
  refine ⟨U2, a1, hc.trans a2 (fun k hk h => ?_), hg.trans a3 hc.size⟩
  rcases hg k h with h1 | h1
  · exact h1
  · omega
theorem KPost.nil {w w1 w2 : World} {B pk : Nat} {U : Nat → Prop} {X : KX} (h : KPost w B U pk X w1) (hc : Chg Nil w1 w2) : KPost w B U pk X w2 := by
  obtain ⟨U2, a1, a2, a3⟩ := h
  exact ⟨U2, a1.nil hc, a2.trans hc (fun _ _ h => h.elim), a3⟩
theorem KPost.pre {w w0 w1 : World} {B pk : Nat} {U : Nat → Prop} {X : KX} (hc : Chg Nil w0 w) (h : KPost w B U pk X w1) : KPost w0 B U pk X w1 := by
  obtain ⟨U2, a1, a2, a3⟩ := h
  exact ⟨U2, a1, (hc.mono (fun _ _ h => h.elim)).trans a2 (fun _ _ h => h), fun k hk => by
    rcases a3 k hk with h | h
    · exact .inl h
    · exact .inr (Nat.le_trans hc.size h)⟩
end Go.Proofs.YtdcbagmgflcemaaGreatDoor
namespace Go.Proofs.YtdcbagmgflcemaaGreatDoor
open Go.ChangeShapes Go.WideShapes Go.ChangeAt Go.RowKit
set_option linter.unusedVariables false
theorem an_store {w : World} {b : Nat} {cs vs : List Value} (h : Blk w b 33 cs) (hl : cs.length = 11) (hv : vs.length = 11) (h1 : ∀ u ∈ vs, u.oneCell' = true) :
    ∃ W, (Instr.storeAt 33 (.pointer (some ⟨b, 0, none⟩)) (.agg vs.toArray)).run Tryz.prog w = .ok () W ∧ Blk W b 33 vs ∧ Chg (One b) w W := by
  obtain ⟨S1, S2⟩ := store_blk (P := Tryz.prog) (ty := 33) h (vs := vs) (by rw [hv, hl]) (by rw [hv]; kernel_rfl) h1
  exact ⟨_, S1, S2, setCells_chg _ _ _ _ _ rfl⟩
theorem an_ret {tmps : Array Value} {fn : Func} {p : Tmp} {w : World} {b : Nat} {vs : List Value} (h : fn.results = #[.cell p 33]) (hb : Blk w b 33 vs) (hl : vs.length = 11) (hp : tmps.getD p undef = .pointer (some ⟨b, 0, none⟩)) :
    (results fn tmps).run Tryz.prog w = .ok (.agg vs.toArray) w := results_blk h hb hp Tryz.underlying33 rfl (by rw [hl]; kernel_rfl)
end Go.Proofs.YtdcbagmgflcemaaGreatDoor
