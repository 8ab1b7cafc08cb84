/- The kernel in memory: its own block, and what it leads to. Conditions: no pipe, or one; no pages; no signals; no timers · The kernel's state, whole: its parts lie apart. No program is walked here; no condition · Contracts of the kernel: living, between, fail. Conditions: a process that lives; no signal waits. -/
import Derived.Test.YtjllklddjkkddaaGreatDoorZ19
import Derived.Test.YtjllklddjkkddaaGreatDoorZ21
import Derived.Test.YtjllklddjkkddaaGreatDoorZ22
import Derived.Test.YtjllklddjkkddaaGreatDoorZ24
import Derived.Test.YtjllklddjkkddaaGreatDoorZ31
import Derived.Test.YtjllklddjkkddaaGreatDoorZ32
import Derived.Test.YtjllklddjkkddaaGreatDoorZ23
namespace Go.Proofs.YtjllklddjkkddaaGreatDoor
open Go.ChangeShapes Go.WideShapes Go.ChangeAt Go.RowKit
set_option linter.unusedVariables false
/-- A task's cells where it is none. -/
def tkZ (j : Nat) : Value := if j < 9 then (if j = 0 then .int .i64 0 else .int .u32 0) else if j = 9 then .int .u32 0 else if j = 13 ∨ j = 17 ∨ j = 18 then .slice none 0 0 else if j = 37 then .bool false else .int .i64 0
/-- The kernel's cells: what it leads to, its tasks. -/
def knV (hd : Nat → Value) (ts : Nat → Nat → Value) (i : Nat) : Value := if i < 8 then hd i else if i < 654 then ts ((i - 8) / 38) ((i - 8) % 38) else .int .u32 0
theorem knV_hd (hd : Nat → Value) (ts : Nat → Nat → Value) {i : Nat} (h : i < 8) : knV hd ts i = hd i := by unfold knV; rw [if_pos h]
theorem knV_ts (hd : Nat → Value) (ts : Nat → Nat → Value) {q j : Nat} (hq : q < 17) (hj : j < 38) : knV hd ts (8 + q * 38 + j) = ts q j := by
  unfold knV
  rw [if_neg (by omega), if_pos (by omega), show (8 + q * 38 + j - 8) / 38 = q by omega, show (8 + q * 38 + j - 8) % 38 = j by omega]
def hdZ (i : Nat) : Value := if i = 0 then .int .i64 0 else .pointer none
/-- What the kernel leads to. -/
def hdK (pm pf pp pr pw po pc : Nat) (i : Nat) : Value := if i = 0 then .int .i64 1 else .pointer (some ⟨if i = 1 then pm else if i = 2 then pf else if i = 3 then pp else if i = 4 then pr else if i = 5 then pw else if i = 6 then po else pc, 0, none⟩)
def KnAt (w : World) (p : Nat) (hd : Nat → Value) (ts : Nat → Nat → Value) : Prop := Blk w p 74 (tab 655 (knV hd ts))
def updH (hd : Nat → Value) (i : Nat) (v : Value) : Nat → Value := fun j => if j = i then v else hd j
def updP (ts : Nat → Nat → Value) (q lo n : Nat) (g : Nat → Value) : Nat → Nat → Value := fun a b => if a = q ∧ lo ≤ b ∧ b < lo + n then g (b - lo) else ts a b
def updT (ts : Nat → Nat → Value) (q j : Nat) (v : Value) : Nat → Nat → Value := fun a b => if a = q ∧ b = j then v else ts a b
theorem kn_zero : Tryz.zeroCells74 = (tab 655 (knV hdZ (fun _ => tkZ))).toArray := by kernel_rfl
section
variable {w w' : World} {F : Nat → Prop} {p : Nat} {hd : Nat → Value} {ts : Nat → Nat → Value}
theorem KnAt.chg (h : KnAt w p hd ts) (hc : Chg F w w') (hF : ¬ F p) : KnAt w' p hd ts := Blk.chg h hc hF
theorem KnAt.h (h : KnAt w p hd ts) {i : Nat} (hi : i < 8) : w.cell? ⟨p, i, none⟩ = some (hd i) := by rw [Blk.tabCell h (by omega), knV_hd _ _ hi]
theorem KnAt.t (h : KnAt w p hd ts) {q j : Nat} (hq : q < 17) (hj : j < 38) : w.cell? ⟨p, 8 + q * 38 + j, none⟩ = some (ts q j) := by rw [Blk.tabCell h (by omega), knV_ts _ _ hq hj]
theorem KnAt.setH (h : KnAt w p hd ts) {i : Nat} (hi : i < 8) (v : Value) : KnAt (w.setCell ⟨p, i, none⟩ v) p (updH hd i v) ts := by
  refine Blk.tabEq (Blk.tabSet h (i := i) (by omega) v) (fun j hj => ?_)
  unfold knV
  by_cases he : j = i
  · subst he
    rw [if_pos rfl, if_pos hi]
    unfold updH
    rw [if_pos rfl]
  · rw [if_neg he]
    split
    · unfold updH
      rw [if_neg he]
    · rfl
theorem KnAt.setT (h : KnAt w p hd ts) {q j : Nat} (hq : q < 17) (hj : j < 38) (v : Value) : KnAt (w.setCell ⟨p, 8 + q * 38 + j, none⟩ v) p hd (updT ts q j v) := by
  refine Blk.tabEq (Blk.tabSet h (i := 8 + q * 38 + j) (by omega) v) (fun i hi => ?_)
  by_cases he : i = 8 + q * 38 + j
  · subst he
    rw [if_pos rfl, knV_ts _ _ hq hj]
    unfold updT
    rw [if_pos ⟨rfl, rfl⟩]
  · rw [if_neg he]
    unfold knV
    split
    · rfl
    · split
      · unfold updT
        rw [if_neg (by omega)]
      · rfl
/-- Some of a task's cells at once. -/
theorem KnAt.setP (h : KnAt w p hd ts) {q lo n : Nat} (hq : q < 17) (hl : lo + n ≤ 38) (g : Nat → Value) : KnAt (w.setCells p (8 + q * 38 + lo) (tab n g)) p hd (updP ts q lo n g) := by
  have R := Blk.cells (lo := 8 + q * 38 + lo) (vs := tab n g) h (by rw [tab_len, tab_len]; omega)
  rw [tab_over (by omega)] at R
  refine Blk.tabEq R (fun i hi => ?_)
  by_cases he : 8 + q * 38 + lo ≤ i ∧ i < 8 + q * 38 + lo + n
  · rw [if_pos he]
    unfold knV
    unfold updP
    rw [if_neg (by omega), if_pos (by omega), if_pos (by omega), show (i - 8) % 38 - lo = i - (8 + q * 38 + lo) by omega]
  · rw [if_neg he]
    unfold knV
    split
    · rfl
    · split
      · unfold updP
        rw [if_neg (by omega)]
      · rfl
end
end Go.Proofs.YtjllklddjkkddaaGreatDoor
namespace Go.Proofs.YtjllklddjkkddaaGreatDoor
open Go.ChangeShapes Go.WideShapes Go.ChangeAt Go.RowKit
set_option linter.unusedVariables false
/-- What the kernel knows. -/
structure KX where
  n : Nat
  sp : Nat → Bool
  pipe : Option (Int × Int × List Int)
  run : SR
  fl : Nat → Fl
  fd : Nat → Nat → Nat
  pl : Nat → Pe
  ts : Nat → Nat → Value
  cw : Bool := true
def PipeAt (w : World) (F : Nat → Prop) (p : Nat) : Option (Int × Int × List Int) → Prop
  | none => Blk w p 164 (tab 16 (piV none)) ∧ F p ∧ ∀ k, F k → k < w.heap.size
  | some (r, s, bs) => ∃ g, PiAt w F p g r s bs
theorem PipeAt.chg {w w' : World} {F H : Nat → Prop} {p : Nat} {o : Option (Int × Int × List Int)} (h : PipeAt w F p o) (hc : Chg H w w') (hd : Dj F H) : PipeAt w' F p o := by
  match o with
  | none => exact ⟨h.1.chg hc (hd p h.2.1), h.2.1, fun k hk => Nat.lt_of_lt_of_le (h.2.2 k hk) hc.size⟩
  | some (r, s, bs) =>
    obtain ⟨g, h⟩ := h
    exact ⟨g, h.chg hc hd⟩
theorem PipeAt.lt {w : World} {F : Nat → Prop} {p : Nat} {o : Option (Int × Int × List Int)} (h : PipeAt w F p o) : ∀ k, F k → k < w.heap.size := by
  match o with
  | none => exact h.2.2
  | some (r, s, bs) =>
    obtain ⟨g, h⟩ := h
    exact h.lt
def Cq (b : Bool) (q : Nat) : Nat → Prop := fun k => b = true ∧ k = q
def kFs (pk po pc pq : Nat) (b : Bool) (FM FP FR FW : Nat → Prop) : List (Nat → Prop) := [One pk, FM, FP, FR, FW, One po, One pc, Cq b pq]
structure KSy (w : World) (B pk pm pf pp pr pw po pc pq : Nat) (FM FP FR FW : Nat → Prop) (X : KX) : Prop where
  kn : KnAt w pk (hdK pm pf pp pr pw po pc) X.ts
  sp : SpB w FM pm X.n X.sp
  pi : PipeAt w FP pp X.pipe
  rn : RunAt w FR pr X.run
  wh : WhAt w FW pw 0 []
  op : OpAt w po X.fl X.fd
  pr : PrAt w pc X.pl
  cw : X.cw = true → Blk w pq 3 [.int .i64 1]
  cd : X.cw = true → X.ts 1 17 = .slice (some ⟨pq, 0, none⟩) 1 1
  sep : Sep B w.heap.size (kFs pk po pc pq X.cw FM FP FR FW)
  bl : B ≤ w.heap.size
section
variable {w w' : World} {B pk pm pf pp pr pw po pc pq : Nat} {FM FP FR FW : Nat → Prop} {X : KX}
theorem KSy.nil (h : KSy w B pk pm pf pp pr pw po pc pq FM FP FR FW X) (hc : Chg Nil w w') : KSy w' B pk pm pf pp pr pw po pc pq FM FP FR FW X :=
  ⟨h.kn.chg hc (fun h => h), h.sp.chg hc (fun _ _ h => h), h.pi.chg hc (fun _ _ h => h), h.rn.chg hc (fun _ _ h => h), h.wh.chg hc (fun _ _ h => h), h.op.chg hc (fun h => h), h.pr.chg hc (fun h => h), fun hb => (h.cw hb).chg hc (fun h => h), h.cd, h.sep.grow hc.size, Nat.le_trans h.bl hc.size⟩
/-- Blocks that are none of the kernel's change. -/
theorem KSy.far (h : KSy w B pk pm pf pp pr pw po pc pq FM FP FR FW X) {H : Nat → Prop} (hc : Chg H w w') (hH : ∀ k, H k → k < B ∨ ∀ (i : Nat) (F : Nat → Prop), (kFs pk po pc pq X.cw FM FP FR FW)[i]? = some F → ¬ F k) : KSy w' B pk pm pf pp pr pw po pc pq FM FP FR FW X := by
  have dj : ∀ (i : Nat) (F : Nat → Prop), (kFs pk po pc pq X.cw FM FP FR FW)[i]? = some F → Dj F H := fun i F hi k hF hk => by
    rcases hH k hk with h1 | h1
    · have := h.sep.ge i hi k hF; omega
    · exact h1 i F hi hF
  exact ⟨h.kn.chg hc (dj 0 _ rfl pk rfl), h.sp.chg hc (dj 1 _ rfl), h.pi.chg hc (dj 2 _ rfl), h.rn.chg hc (dj 3 _ rfl), h.wh.chg hc (dj 4 _ rfl), h.op.chg hc (dj 5 _ rfl po rfl), h.pr.chg hc (dj 6 _ rfl pc rfl), fun hb => (h.cw hb).chg hc (dj 7 _ rfl pq ⟨hb, rfl⟩), h.cd, h.sep.grow hc.size, Nat.le_trans h.bl hc.size⟩
theorem KSy.upKn (h : KSy w B pk pm pf pp pr pw po pc pq FM FP FR FW X) {ts : Nat → Nat → Value} (hk : KnAt w' pk (hdK pm pf pp pr pw po pc) ts) (hc : Chg (One pk) w w') (ht : X.cw = true → ts 1 17 = X.ts 1 17) : KSy w' B pk pm pf pp pr pw po pc pq FM FP FR FW { X with ts := ts } :=
  have dj : ∀ (i : Nat) (F : Nat → Prop), i ≠ 0 → (kFs pk po pc pq X.cw FM FP FR FW)[i]? = some F → Dj F (One pk) := fun i F hne hi => h.sep.dj i 0 hi rfl hne
  ⟨hk, h.sp.chg hc (dj 1 _ (by omega) rfl), h.pi.chg hc (dj 2 _ (by omega) rfl), h.rn.chg hc (dj 3 _ (by omega) rfl), h.wh.chg hc (dj 4 _ (by omega) rfl), h.op.chg hc (dj 5 _ (by omega) rfl po rfl), h.pr.chg hc (dj 6 _ (by omega) rfl pc rfl), fun hb => (h.cw hb).chg hc (dj 7 _ (by omega) rfl pq ⟨hb, rfl⟩), fun hb => (ht hb).trans (h.cd hb), h.sep.grow hc.size, Nat.le_trans h.bl hc.size⟩
theorem KSy.upOp (h : KSy w B pk pm pf pp pr pw po pc pq FM FP FR FW X) {fl : Nat → Fl} {fd : Nat → Nat → Nat} (hk : OpAt w' po fl fd) (hc : Chg (One po) w w') : KSy w' B pk pm pf pp pr pw po pc pq FM FP FR FW { X with fl := fl, fd := fd } :=
  have dj : ∀ (i : Nat) (F : Nat → Prop), i ≠ 5 → (kFs pk po pc pq X.cw FM FP FR FW)[i]? = some F → Dj F (One po) := fun i F hne hi => h.sep.dj i 5 hi rfl hne
  ⟨h.kn.chg hc (dj 0 _ (by omega) rfl pk rfl), h.sp.chg hc (dj 1 _ (by omega) rfl), h.pi.chg hc (dj 2 _ (by omega) rfl), h.rn.chg hc (dj 3 _ (by omega) rfl), h.wh.chg hc (dj 4 _ (by omega) rfl), hk, h.pr.chg hc (dj 6 _ (by omega) rfl pc rfl), fun hb => (h.cw hb).chg hc (dj 7 _ (by omega) rfl pq ⟨hb, rfl⟩), h.cd, h.sep.grow hc.size, Nat.le_trans h.bl hc.size⟩
theorem KSy.upPr (h : KSy w B pk pm pf pp pr pw po pc pq FM FP FR FW X) {pl : Nat → Pe} (hk : PrAt w' pc pl) (hc : Chg (One pc) w w') : KSy w' B pk pm pf pp pr pw po pc pq FM FP FR FW { X with pl := pl } :=
  have dj : ∀ (i : Nat) (F : Nat → Prop), i ≠ 6 → (kFs pk po pc pq X.cw FM FP FR FW)[i]? = some F → Dj F (One pc) := fun i F hne hi => h.sep.dj i 6 hi rfl hne
  ⟨h.kn.chg hc (dj 0 _ (by omega) rfl pk rfl), h.sp.chg hc (dj 1 _ (by omega) rfl), h.pi.chg hc (dj 2 _ (by omega) rfl), h.rn.chg hc (dj 3 _ (by omega) rfl), h.wh.chg hc (dj 4 _ (by omega) rfl), h.op.chg hc (dj 5 _ (by omega) rfl po rfl), hk, fun hb => (h.cw hb).chg hc (dj 7 _ (by omega) rfl pq ⟨hb, rfl⟩), h.cd, h.sep.grow hc.size, Nat.le_trans h.bl hc.size⟩
theorem KSy.upSp (h : KSy w B pk pm pf pp pr pw po pc pq FM FP FR FW X) {F' : Nat → Prop} {n : Nat} {sp : Nat → Bool} (hk : SpB w' F' pm n sp) (hc : Chg FM w w') (hg : Grew w.heap.size FM F') : KSy w' B pk pm pf pp pr pw po pc pq F' FP FR FW { X with n := n, sp := sp } :=
  have dj : ∀ (i : Nat) (F : Nat → Prop), i ≠ 1 → (kFs pk po pc pq X.cw FM FP FR FW)[i]? = some F → Dj F FM := fun i F hne hi => h.sep.dj i 1 hi rfl hne
  ⟨h.kn.chg hc (dj 0 _ (by omega) rfl pk rfl), hk, h.pi.chg hc (dj 2 _ (by omega) rfl), h.rn.chg hc (dj 3 _ (by omega) rfl), h.wh.chg hc (dj 4 _ (by omega) rfl), h.op.chg hc (dj 5 _ (by omega) rfl po rfl), h.pr.chg hc (dj 6 _ (by omega) rfl pc rfl), fun hb => (h.cw hb).chg hc (dj 7 _ (by omega) rfl pq ⟨hb, rfl⟩), h.cd, h.sep.upd 1 rfl hg hk.lt hc.size h.bl, Nat.le_trans h.bl hc.size⟩
theorem KSy.upPi (h : KSy w B pk pm pf pp pr pw po pc pq FM FP FR FW X) {F' : Nat → Prop} {o : Option (Int × Int × List Int)} (hk : PipeAt w' F' pp o) (hc : Chg FP w w') (hg : Grew w.heap.size FP F') : KSy w' B pk pm pf pp pr pw po pc pq FM F' FR FW { X with pipe := o } :=
  have dj : ∀ (i : Nat) (F : Nat → Prop), i ≠ 2 → (kFs pk po pc pq X.cw FM FP FR FW)[i]? = some F → Dj F FP := fun i F hne hi => h.sep.dj i 2 hi rfl hne
  ⟨h.kn.chg hc (dj 0 _ (by omega) rfl pk rfl), h.sp.chg hc (dj 1 _ (by omega) rfl), hk, h.rn.chg hc (dj 3 _ (by omega) rfl), h.wh.chg hc (dj 4 _ (by omega) rfl), h.op.chg hc (dj 5 _ (by omega) rfl po rfl), h.pr.chg hc (dj 6 _ (by omega) rfl pc rfl), fun hb => (h.cw hb).chg hc (dj 7 _ (by omega) rfl pq ⟨hb, rfl⟩), h.cd, h.sep.upd 2 rfl hg hk.lt hc.size h.bl, Nat.le_trans h.bl hc.size⟩
theorem KSy.upRn (h : KSy w B pk pm pf pp pr pw po pc pq FM FP FR FW X) {F' : Nat → Prop} {r : SR} (hk : RunAt w' F' pr r) (hc : Chg FR w w') (hg : Grew w.heap.size FR F') : KSy w' B pk pm pf pp pr pw po pc pq FM FP F' FW { X with run := r } :=
  have dj : ∀ (i : Nat) (F : Nat → Prop), i ≠ 3 → (kFs pk po pc pq X.cw FM FP FR FW)[i]? = some F → Dj F FR := fun i F hne hi => h.sep.dj i 3 hi rfl hne
  ⟨h.kn.chg hc (dj 0 _ (by omega) rfl pk rfl), h.sp.chg hc (dj 1 _ (by omega) rfl), h.pi.chg hc (dj 2 _ (by omega) rfl), hk, h.wh.chg hc (dj 4 _ (by omega) rfl), h.op.chg hc (dj 5 _ (by omega) rfl po rfl), h.pr.chg hc (dj 6 _ (by omega) rfl pc rfl), fun hb => (h.cw hb).chg hc (dj 7 _ (by omega) rfl pq ⟨hb, rfl⟩), h.cd, h.sep.upd 3 rfl hg hk.lt hc.size h.bl, Nat.le_trans h.bl hc.size⟩
/-- The first process has a place of its own to be at. -/
theorem KSy.upCw (h : KSy w B pk pm pf pp pr pw po pc pq FM FP FR FW X) (hX : X.cw = false) {q : Nat} (hq : w.heap.size ≤ q) (hc0 : Chg Nil w w') (hb : Blk w' q 3 [.int .i64 1]) (ht : X.ts 1 17 = .slice (some ⟨q, 0, none⟩) 1 1) : KSy w' B pk pm pf pp pr pw po pc q FM FP FR FW { X with cw := true } := by
  have h0 := h.nil hc0
  have hs : Sep B w.heap.size (kFs pk po pc pq false FM FP FR FW) := by have := h.sep; rwa [hX] at this
  have h7 := hs.upd (N' := w'.heap.size) (F' := Cq true q) 7 (F := Cq false pq) rfl (fun k hk => .inr (by rw [hk.2]; exact hq)) (fun k hk => by rw [hk.2]; exact hb.lt) hc0.size h.bl
  exact ⟨h0.kn, h0.sp, h0.pi, h0.rn, h0.wh, h0.op, h0.pr, fun _ => hb, fun _ => ht, h7, h0.bl⟩
/-- Of whatever part: only blocks from B on. -/
theorem KSy.ge (h : KSy w B pk pm pf pp pr pw po pc pq FM FP FR FW X) (i : Nat) {F : Nat → Prop} (hi : (kFs pk po pc pq X.cw FM FP FR FW)[i]? = some F) : ∀ k, F k → B ≤ k := h.sep.ge i hi
end
def KSt (B : Nat) (w : World) (pk : Nat) (X : KX) : Prop := ∃ pm pf pp pr pw po pc pq FM FP FR FW, KSy w B pk pm pf pp pr pw po pc pq FM FP FR FW X
theorem KSt.nil {B : Nat} {w w' : World} {pk : Nat} {X : KX} (h : KSt B w pk X) (hc : Chg Nil w w') : KSt B w' pk X := by
  obtain ⟨pm, pf, pp, pr, pw, po, pc, pq, FM, FP, FR, FW, h⟩ := h
  exact ⟨pm, pf, pp, pr, pw, po, pc, pq, FM, FP, FR, FW, h.nil hc⟩
theorem KnAt.hdEq {w : World} {p : Nat} {hd hd' : Nat → Value} {ts : Nat → Nat → Value} (h : KnAt w p hd ts) (he : ∀ i, i < 8 → hd i = hd' i) : KnAt w p hd' ts :=
  Blk.tabEq h (fun i hi => by
    unfold knV
    split
    · rename_i h8
      exact he i h8
    · rfl)
/-- A task that lives: its space; no signals; it does not sleep. -/
structure TsA (ts : Nat → Nat → Value) (q : Nat) (s : Int) : Prop where
  sp : ts q 0 = .int .i64 s
  sg : ∀ j, j < 18 → ts q (19 + j) = .int .i64 0
  aw : ts q 37 = .bool false
  one : ∀ j, j < 38 → (ts q j).oneCell' = true
/-- It is in no further group, and has mounted nothing. -/
structure TsN (ts : Nat → Nat → Value) (q : Nat) : Prop where
  more : ts q 13 = .slice none 0 0
  mt : ts q 18 = .slice none 0 0
theorem KnAt.sig {w : World} {p : Nat} {hd : Nat → Value} {ts : Nat → Nat → Value} (h : KnAt w p hd ts) {q : Nat} (hq : q < 17) {s : Int} (ht : TsA ts q s) : (Instr.loadAt 63 (.pointer (some ⟨p, 8 + q * 38 + 19, none⟩))).run Tryz.prog w = .ok (.agg sgZ.toArray) w := by
  have L1 := load_part (P := Tryz.prog) (ty := 63) (lo := 8 + q * 38 + 19) (n := 18) h (by rw [tab_len]; omega) Tryz.underlying63 rfl (by kernel_rfl)
  rw [tab_part (by omega), tab_ext (g := fun _ => .int .i64 0) (fun i hi => by rw [Nat.add_assoc, knV_ts _ _ hq (by omega)]; exact ht.sg i hi)] at L1
  exact L1
end Go.Proofs.YtjllklddjkkddaaGreatDoor
namespace Go.Proofs.YtjllklddjkkddaaGreatDoor
open Go.ChangeShapes Go.WideShapes Go.ChangeAt Go.RowKit
set_option linter.unusedVariables false
theorem kliving_ok (B : Nat) (w : World) (pk : Nat) (X : KX) (h : KSt B w pk X) (q : Nat) (h1 : 1 ≤ q) (h2 : q ≤ 16) (hs : (X.pl q).state = 1) :
    Calls Tryz.prog 13 #[.pointer (some ⟨pk, 0, none⟩), .int .i64 (q : Int)] w fun e w' => e = .returned (.int .i64 0) ∧ w = w' := by
  obtain ⟨pm, pf, pp, pr, pw, po, pc, pq, FM, FP, FR, FW, h⟩ := h
  have HS := prstate_ok w pc X.pl h.pr q h1 h2
  rw [hs] at HS
  have k7 : w.cell? ⟨pk, 7, none⟩ = some (.pointer (some ⟨pc, 0, none⟩)) := h.kn.h (i := 7) (by omega)
  replace HS := hid HS
  clear h hs
  go_enter Tryz.func13, Tryz.ntmps13
  go_wp2_with (go_at_call 35; refine HS.out.mono ?_; rintro e w' ⟨rfl, rfl⟩)
  go_ret
  exact ⟨rfl, rfl⟩
/-- An answer. -/
def anC (e a b : Int) (d : Value) : List Value := [.int .i64 e, .int .i64 a, .int .i64 b, d, .slice none 0 0, .int .i64 0, .int .i64 0, .int .i64 0, .int .i64 0, .int .i64 0, .int .i64 0]
theorem anC_len (e a b : Int) (d : Value) : (anC e a b d).length = 11 := rfl
theorem anC_one (e a b : Int) (d : Value) (h : d.oneCell' = true) : ∀ u ∈ anC e a b d, u.oneCell' = true := by
  intro u hu
  simp only [anC, List.mem_cons, List.not_mem_nil, or_false] at hu
  rcases hu with rfl | rfl | rfl | rfl | rfl | rfl | rfl | rfl | rfl | rfl | rfl
  all_goals first | rfl | exact h
set_option maxRecDepth 100000 in
theorem kfail_ok (w : World) (n : Int) : Calls Tryz.prog 14 #[.int .i64 n] w fun e w' => e = .returned (.agg (anC n 0 0 (.slice none 0 0)).toArray) ∧ Chg Nil w w' := by
  have B0 := hid (Blk.new w 33 (anC n 0 0 (.slice none 0 0)))
  go_enter Tryz.func14, Tryz.ntmps14
  go_wp2
  refine bodyPost_ret (results_blk rfl B0.out rfl Tryz.underlying33 rfl (by kernel_rfl)) rfl ?_
  exact ⟨rfl, (Chg.refl Nil w).alloc _⟩
set_option maxRecDepth 100000 in
set_option maxHeartbeats 1000000 in
theorem kbetween_ok (B : Nat) (w : World) (pk : Nat) (X : KX) (h : KSt B w pk X) (q : Nat) (h1 : 1 ≤ q) (h2 : q ≤ 16) (s : Int) (ht : TsA X.ts q s) :
    Calls Tryz.prog 15 #[.pointer (some ⟨pk, 0, none⟩), .int .i64 (q : Int)] w fun e w' => e = .returned (.tuple #[.int .i64 0, .bool false]) ∧ Chg Nil w w' := by
  obtain ⟨pm, pf, pp, pr, pw, po, pc, pq, FM, FP, FR, FW, h⟩ := h
  have L1 := h.kn.sig (q := q) (by omega) ht
  clear h ht
  go_enter Tryz.func15, Tryz.ntmps15
  go_wp2_with (refine wpList_load_run L1 (by rfl) (by rfl) (by rfl) ?_)
  refine (sgtake_0 _).mono ?_
  rintro e w2 ⟨rfl, c2⟩
  have B2 := Blk.new w2 63 sgZ
  obtain ⟨S1, S2⟩ := sg_store B2
  have C2 := (c2.alloc (.cells sgZ.toArray 63)).one (g := w2.heap.size) (.inr c2.size) (setCells_chg _ w2.heap.size 0 sgZ _ rfl)
  obtain ⟨W, hW⟩ : ∃ W, W = (w2.alloc (.cells sgZ.toArray 63)).setCells w2.heap.size 0 sgZ := ⟨_, rfl⟩
  rw [← hW] at S1 C2
  replace hW := hid hW
  replace C2 := hid C2
  clear L1 c2 B2 S2
  go_wp2_with (refine wpList_store_run S1 (by rfl) (by rfl) (by rfl) (by rfl) ?_)
  go_ret2
  exact ⟨rfl, C2.out⟩
end Go.Proofs.YtjllklddjkkddaaGreatDoor
