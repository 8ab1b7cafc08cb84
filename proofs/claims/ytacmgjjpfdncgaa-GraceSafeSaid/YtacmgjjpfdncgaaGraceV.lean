/- The memory of the law GraceSafe: the readers, two maps, two arrays. -/
import Derived.Test.YtacmgjjpfdncgaaGraceP
import Derived.Test.YtacmgjjpfdncgaaMapR
import Derived.Deep.QuietTactic
import Derived.BigQuiet
namespace Go.Proofs.Ytacmgjjpfdncgaa
open Go.ChangeShapes Go.WideShapes Go.ChangeAt Go.RowKit
set_option linter.unusedVariables false
/-- Four numbers as the cells of an array. -/
def arr4 (f : Nat → Int) : List Value := [.int .i64 (f 0), .int .i64 (f 1), .int .i64 (f 2), .int .i64 (f 3)]
def arrV (f : Nat → Int) : Value := .agg #[.int .i64 (f 0), .int .i64 (f 1), .int .i64 (f 2), .int .i64 (f 3)]
theorem arr4_get (f : Nat → Int) {i : Nat} (hi : i < 4) : (arr4 f)[i]? = some (.int .i64 (f i)) := by
  rcases i with _ | _ | _ | _ | i
  · rfl
  · rfl
  · rfl
  · rfl
  · omega
theorem arr4_set (f : Nat → Int) {i : Nat} (hi : i < 4) (v : Int) : (arr4 f).set i (.int .i64 v) = arr4 (upI f i v) := by
  rcases i with _ | _ | _ | _ | i
  · rfl
  · rfl
  · rfl
  · rfl
  · omega
/-- What was seen at each call, and which are done. -/
def sawF (next : Nat) (wt : Nat → Nat → Int) : Int → Option Value := fun i => if 0 ≤ i ∧ i < next then some (arrV (wt i.toNat)) else none
def doneF (next : Nat) (ids : List Int) : Int → Option Value := fun i => if 0 ≤ i ∧ i < next ∧ i ∉ ids then some (.bool true) else none
structure GV (w0 : World) (F : Nat → Prop) (p : Nat) (dp tn : Nat → Int) (l : List GCall) (gb sb db ab tb ms md ns nd : Nat) (fs fd : Int → Option Value) (w : World) : Prop where
  g : GrAt w F p dp tn l
  bg : Blk w gb 56 [.pointer (some ⟨p, 0, none⟩)]
  bs : Blk w sb 60 [.map (some ms)]
  bd : Blk w db 61 [.map (some md)]
  ba : Blk w ab 59 (arr4 dp)
  bt : Blk w tb 59 (arr4 tn)
  mps : MpAt w Try.prog 3 ms ns fs
  mpd : MpAt w Try.prog 3 md nd fd
  dist : [gb, sb, db, ab, tb, ms, md].Nodup
  nf : ∀ k ∈ [gb, sb, db, ab, tb, ms, md], ¬ F k ∧ w0.heap.size ≤ k
  new : ∀ k, F k → w0.heap.size ≤ k
  bel : Below w0.heap.size w0 w
section
variable {w0 w w1 : World} {F F1 H : Nat → Prop} {p : Nat} {dp tn dp1 tn1 : Nat → Int} {l l1 : List GCall} {gb sb db ab tb ms md ns nd : Nat} {fs fd fs1 fd1 : Int → Option Value}
theorem GV.lts (h : GV w0 F p dp tn l gb sb db ab tb ms md ns nd fs fd w) : ∀ k ∈ [gb, sb, db, ab, tb, ms, md], k < w.heap.size := fun k hk => by
  simp only [List.mem_cons, List.not_mem_nil, or_false] at hk
  rcases hk with rfl | rfl | rfl | rfl | rfl | rfl | rfl
  · exact h.bg.lt
  · exact h.bs.lt
  · exact h.bd.lt
  · exact h.ba.lt
  · exact h.bt.lt
  · exact h.mps.lt
  · exact h.mpd.lt
theorem GV.step (h : GV w0 F p dp tn l gb sb db ab tb ms md ns nd fs fd w) (hd : GrAt w1 F1 p dp1 tn1 l1) (hc : Chg F w w1) (hg : Grew w.heap.size F F1) (e1 : dp1 = dp) (e2 : tn1 = tn) : GV w0 F1 p dp1 tn1 l1 gb sb db ab tb ms md ns nd fs fd w1 := by
  subst e1; subst e2
  have hn := fun k hk => (h.nf k hk).1
  refine ⟨hd, h.bg.chg hc (hn _ (by simp)), h.bs.chg hc (hn _ (by simp)), h.bd.chg hc (hn _ (by simp)), h.ba.chg hc (hn _ (by simp)), h.bt.chg hc (hn _ (by simp)), h.mps.chg hc (hn _ (by simp)), h.mpd.chg hc (hn _ (by simp)), h.dist, fun k hk => ⟨fun hh => (hg k hh).elim (hn k hk) (fun h3 => by have := h.lts k hk; omega), (h.nf k hk).2⟩, fun k hk => (hg k hk).elim (h.new k) (fun h3 => Nat.le_trans h.bel.size h3), h.bel.trans (hc.below (fun i hi hf => by have := h.new i hf; omega) h.bel.size)⟩
theorem GV.nil (h : GV w0 F p dp tn l gb sb db ab tb ms md ns nd fs fd w) (hc : Chg Nil w w1) : GV w0 F p dp tn l gb sb db ab tb ms md ns nd fs fd w1 :=
  h.step (h.g.chg hc (fun _ _ h => h)) (hc.mono (fun _ _ h => h.elim)) (Grew.refl _ _) rfl rfl
theorem GV.far (h : GV w0 F p dp tn l gb sb db ab tb ms md ns nd fs fd w) {q : Nat} (hc : Chg (One q) w w1) (hq : q ∉ [gb, sb, db, ab, tb, ms, md]) (hF : ¬ F q) (hB : w0.heap.size ≤ q) : GV w0 F p dp tn l gb sb db ab tb ms md ns nd fs fd w1 := by
  have hn : ∀ k ∈ [gb, sb, db, ab, tb, ms, md], ¬ One q k := fun k hk hh => hq (by rw [← show k = q from hh]; exact hk)
  exact ⟨h.g.chg hc (fun k k1 k2 => hF (by rw [← show k = q from k2]; exact k1)), h.bg.chg hc (hn _ (by simp)), h.bs.chg hc (hn _ (by simp)), h.bd.chg hc (hn _ (by simp)), h.ba.chg hc (hn _ (by simp)), h.bt.chg hc (hn _ (by simp)), h.mps.chg hc (hn _ (by simp)), h.mpd.chg hc (hn _ (by simp)), h.dist, h.nf, h.new, h.bel.trans (hc.below (fun i hi hf => by rw [show i = q from hf] at hi; omega) h.bel.size)⟩
/-- One more is done. -/
theorem GV.putD {nd1 : Nat} (h : GV w0 F p dp tn l gb sb db ab tb ms md ns nd fs fd w) (hm : MpAt w1 Try.prog 3 md nd1 fd1) (hc : Chg (One md) w w1) : GV w0 F p dp tn l gb sb db ab tb ms md ns nd1 fs fd1 w1 := by
  have hd := h.dist
  simp only [List.nodup_cons, List.mem_cons, List.not_mem_nil, or_false, not_or, not_false_eq_true, List.nodup_nil, and_true] at hd
  obtain ⟨⟨_, _, _, _, _, d1⟩, ⟨_, _, _, _, d2⟩, ⟨_, _, _, d3⟩, ⟨_, _, d4⟩, ⟨_, d5⟩, d6⟩ := hd
  have hF := (h.nf md (by simp)).1
  have hB := (h.nf md (by simp)).2
  exact ⟨h.g.chg hc (fun k k1 k2 => hF (by rw [← show k = md from k2]; exact k1)), h.bg.chg hc d1, h.bs.chg hc d2, h.bd.chg hc d3, h.ba.chg hc d4, h.bt.chg hc d5, h.mps.chg hc d6, hm, h.dist, h.nf, h.new, h.bel.trans (hc.below (fun i hi hf => by rw [show i = md from hf] at hi; omega) h.bel.size)⟩
end
end Go.Proofs.Ytacmgjjpfdncgaa
