/- The class of the law FairGroups, in memory and in plain words. Conditions: few tasks. -/
import Derived.Test.YtpafafleepcjdaaGrp4
import Derived.Test.YtpafafleepcjdaaFairRow
namespace Go.Proofs.Ytpafafleepcjdaa
open Go.ChangeShapes Go.WideShapes Go.ChangeAt Go.RowKit
set_option linter.unusedVariables false
/-- The tasks that were added: 1 in the first group, k others in the second one. -/
structure FgA (k : Nat) (ts : List FT) : Prop where
  len : ts.length = k + 1
  x0 : ts[0]? = some ⟨1, 50, 1, 0, true⟩
  v0 : ∀ x ∈ ts, x.v = 0
  ok : ∀ x ∈ ts, 1 ≤ x.w ∧ x.w ≤ 100 ∧ x.t ≤ k + 1 ∧ x.r = true
  g : ∀ x ∈ ts, (x.g = 1 ∧ x.t = 1) ∨ (x.g = 2 ∧ 2 ≤ x.t)
  last : 0 < k → ∃ (i : Nat) (x : FT), ts[i]? = some x ∧ x.g = 2
theorem fgA_one : FgA 0 ([] ++ [⟨1, 50, 1, 0, true⟩]) := by
  refine ⟨rfl, rfl, fun x hx => ?_, fun x hx => ?_, fun x hx => ?_, fun h => by omega⟩
  · simp at hx; subst hx; rfl
  · simp at hx; subst hx; exact ⟨by decide, by decide, by decide, rfl⟩
  · simp at hx; subst hx; exact .inl ⟨rfl, rfl⟩
theorem FgA.add {k : Nat} {ts : List FT} (h : FgA k ts) (wt : Nat) (w1 : 1 ≤ wt) (w2 : wt ≤ 100) : FgA (k + 1) (ts ++ [⟨k + 2, wt, 2, 0, true⟩]) := by
  refine ⟨by rw [List.length_append, h.len]; rfl, by rw [List.getElem?_append_left (by rw [h.len]; omega)]; exact h.x0, fun x hx => ?_, fun x hx => ?_, fun x hx => ?_, fun _ => ⟨ts.length, ⟨k + 2, wt, 2, 0, true⟩, by simp, rfl⟩⟩
  · rcases List.mem_append.1 hx with h1 | h1
    · exact h.v0 x h1
    · rw [List.mem_singleton.1 h1]
  · rcases List.mem_append.1 hx with h1 | h1
    · have := h.ok x h1
      exact ⟨this.1, this.2.1, by omega, this.2.2.2⟩
    · rw [List.mem_singleton.1 h1]; exact ⟨w1, w2, by show k + 2 ≤ _; omega, rfl⟩
  · rcases List.mem_append.1 hx with h1 | h1
    · exact h.g x h1
    · rw [List.mem_singleton.1 h1]; exact .inr ⟨rfl, by show 2 ≤ k + 2; omega⟩
/-- i ticks on: the first group had g0 of them, the second one g1. -/
structure FgI (a b i g0 g1 : Nat) (ts : List FT) (S : GS) : Prop where
  two : Two2 ts S
  len : ts.length ≤ 16
  wa : S.w 1 = a
  wb : S.w 2 = b
  ok : ∀ x ∈ ts, 1 ≤ x.w ∧ x.w ≤ 100 ∧ x.v ≤ i * 1048576 ∧ x.t ≤ 16
  g : ∀ x ∈ ts, (x.g = 1 ∧ x.t = 1) ∨ (x.g = 2 ∧ 2 ≤ x.t)
  v1 : S.v 1 = cost a * g0
  v2 : S.v 2 = cost b * g1
  gi : g0 + g1 = i
  d1 : S.v 1 ≤ S.v 2 + cost (min a b)
  d2 : S.v 2 ≤ S.v 1 + cost (min a b)
theorem cost_min {a b : Nat} (ha : 1 ≤ a) (hb : 1 ≤ b) : cost a ≤ cost (min a b) ∧ cost b ≤ cost (min a b) :=
  ⟨Nat.div_le_div_left (Nat.min_le_left a b) (by omega), Nat.div_le_div_left (Nat.min_le_right a b) (by omega)⟩
theorem FgI.bd {a b i g0 g1 : Nat} {ts : List FT} {S : GS} (h : FgI a b i g0 g1 ts S) : S.v 1 ≤ i * 1048576 ∧ S.v 2 ≤ i * 1048576 := by
  have h1 := cost_le a
  have h2 := cost_le b
  have h3 := h.gi
  refine ⟨by rw [h.v1, Nat.mul_comm]; exact Nat.mul_le_mul (by omega) h1, by rw [h.v2, Nat.mul_comm]; exact Nat.mul_le_mul (by omega) h2⟩
set_option maxRecDepth 10000 in
theorem FgI.start {k : Nat} {ts : List FT} (h : FgA k ts) (hk : 0 < k) (hk2 : k ≤ 14) {S : GS} {a b q1 q2 : Nat} (hS : S = (gs0.add 1 q1 a).add 2 q2 b) (a1 : 1 ≤ a) (a2 : a ≤ 100) (b1 : 1 ≤ b) (b2 : b ≤ 100) : FgI a b 0 0 0 ts S := by
  subst hS
  obtain ⟨i, x, hx, hg⟩ := h.last hk
  refine ⟨⟨⟨q1, by simp [GS.add]⟩, ⟨q2, by simp [GS.add]⟩, fun g hg => ?_, ⟨0, _, h.x0, rfl, rfl⟩, ⟨i, x, hx, (h.ok x (List.mem_of_getElem? hx)).2.2.2, hg⟩, fun x hx => ?_, by simp [GS.add]; omega, by simp [GS.add]; omega⟩, by rw [h.len]; omega, by simp [GS.add], by simp [GS.add], fun x hx => ?_, h.g, by simp [GS.add], by simp [GS.add], rfl, by simp [GS.add], by simp [GS.add]⟩
  · simp only [GS.add, gs0]
    rw [if_neg (by omega), if_neg (by omega)]
  · rcases h.g x hx with h1 | h1
    · exact .inl h1.1
    · exact .inr h1.1
  · have h1 := h.ok x hx
    have h2 := h.v0 x hx
    exact ⟨h1.1, h1.2.1, by omega, by omega⟩
set_option maxRecDepth 10000 in
theorem FgI.tick {a b i g0 g1 j : Nat} {ts : List FT} {S : GS} {x : FT} (h : FgI a b i g0 g1 ts S) (a1 : 1 ≤ a) (b1 : 1 ≤ b) (hx : ts[j]? = some x) (h1 : S.v 1 ≤ S.v 2 → x.g = 1) (h2 : S.v 2 < S.v 1 → x.g = 2) :
    (x.t = 1 → FgI a b (i + 1) (g0 + 1) g1 (ts.set j (runF x)) (S.setV x.g (S.v x.g + cost (S.w x.g)))) ∧ (x.t ≠ 1 → FgI a b (i + 1) g0 (g1 + 1) (ts.set j (runF x)) (S.setV x.g (S.v x.g + cost (S.w x.g)))) := by
  obtain ⟨c1, c2⟩ := cost_min a1 b1
  have hmem := List.mem_of_getElem? hx
  have hj := (List.getElem?_eq_some_iff.1 hx).1
  have hxk := h.ok x hmem
  have hcx := cost_le x.w
  have hi : (i + 1) * 1048576 = i * 1048576 + 1048576 := by omega
  have mem : ∀ y ∈ ts.set j (runF x), y ∈ ts ∨ y = runF x := fun y hy => List.mem_or_eq_of_mem_set hy
  have hok : ∀ y ∈ ts.set j (runF x), 1 ≤ y.w ∧ y.w ≤ 100 ∧ y.v ≤ (i + 1) * 1048576 ∧ y.t ≤ 16 := fun y hy => by
    rcases mem y hy with h3 | h3
    · have := h.ok y h3; exact ⟨this.1, this.2.1, Nat.le_trans this.2.2.1 (Nat.mul_le_mul_right _ (Nat.le_succ i)), this.2.2.2⟩
    · subst h3; exact ⟨hxk.1, hxk.2.1, by rw [hi]; exact Nat.add_le_add hxk.2.2.1 hcx, hxk.2.2.2⟩
  have hg : ∀ y ∈ ts.set j (runF x), (y.g = 1 ∧ y.t = 1) ∨ (y.g = 2 ∧ 2 ≤ y.t) := fun y hy => by
    rcases mem y hy with h3 | h3
    · exact h.g y h3
    · subst h3; exact h.g x hmem
  have hget : ∀ (i : Nat) (y : FT), ts[i]? = some y → ∃ z, (ts.set j (runF x))[i]? = some z ∧ z.r = y.r ∧ z.g = y.g := fun i y hy => by
    rw [List.getElem?_set]
    by_cases hij : j = i
    · subst hij
      rw [if_pos rfl, if_pos hj]
      rw [hx] at hy; injection hy with hy; subst hy
      exact ⟨_, rfl, rfl, rfl⟩
    · rw [if_neg hij]; exact ⟨y, hy, rfl, rfl⟩
  have htwo : ∀ v, Two2 (ts.set j (runF x)) (S.setV x.g v) := fun v => by
    obtain ⟨i1, y1, e1, e2, e3⟩ := h.two.r1
    obtain ⟨i2, y2, k1, k2, k3⟩ := h.two.r2
    obtain ⟨z1, m1, m2, m3⟩ := hget i1 y1 e1
    obtain ⟨z2, n1, n2, n3⟩ := hget i2 y2 k1
    refine ⟨h.two.q1, h.two.q2, h.two.qn, ⟨i1, z1, m1, by rw [m2, e2], by rw [m3, e3]⟩, ⟨i2, z2, n1, by rw [n2, k2], by rw [n3, k3]⟩, fun y hy => ?_, h.two.w1, h.two.w2⟩
    rcases hg y hy with h3 | h3
    · exact .inl h3.1
    · exact .inr h3.1
  have hlen : (ts.set j (runF x)).length ≤ 16 := by rw [List.length_set]; exact h.len
  have hd1 := h.d1
  have hd2 := h.d2
  constructor
  · intro ht
    have hxg : x.g = 1 := by
      rcases h.g x hmem with h3 | h3
      · exact h3.1
      · omega
    rw [hxg, h.wa]
    have hle : S.v 1 ≤ S.v 2 := by
      by_cases hh : S.v 1 ≤ S.v 2
      · exact hh
      · have := h2 (by omega); omega
    have e1 : (S.setV 1 (S.v 1 + cost a)).v 1 = S.v 1 + cost a := by simp [GS.setV]
    have e2 : (S.setV 1 (S.v 1 + cost a)).v 2 = S.v 2 := by simp [GS.setV]
    refine ⟨by rw [← hxg]; exact htwo _, hlen, h.wa, h.wb, hok, hg, ?_, ?_, by have := h.gi; omega, ?_, ?_⟩
    · rw [e1, h.v1, Nat.mul_add, Nat.mul_one]
    · rw [e2, h.v2]
    · rw [e1, e2]; omega
    · rw [e1, e2]; omega
  · intro ht
    have hxg : x.g = 2 := by
      rcases h.g x hmem with h3 | h3
      · exact absurd h3.2 ht
      · exact h3.1
    rw [hxg, h.wb]
    have hlt : S.v 2 < S.v 1 := by
      by_cases hh : S.v 1 ≤ S.v 2
      · have := h1 hh; omega
      · omega
    have e1 : (S.setV 2 (S.v 2 + cost b)).v 1 = S.v 1 := by simp [GS.setV]
    have e2 : (S.setV 2 (S.v 2 + cost b)).v 2 = S.v 2 + cost b := by simp [GS.setV]
    refine ⟨by rw [← hxg]; exact htwo _, hlen, h.wa, h.wb, hok, hg, ?_, ?_, by have := h.gi; omega, ?_, ?_⟩
    · rw [e1, h.v1]
    · rw [e2, h.v2, Nat.mul_add, Nat.mul_one]
    · rw [e1, e2]; omega
    · rw [e1, e2]; omega
/-- The class, apart from all that was there. -/
structure GrM (w0 : World) (F : Nat → Prop) (p m : Nat) (ts : List FT) (S : GS) (w : World) : Prop where
  at' : GrpAt w F p ts S m
  new : ∀ k, F k → w0.heap.size ≤ k
  bel : Below w0.heap.size w0 w
theorem GrM.step {w0 w w' : World} {F F' : Nat → Prop} {p m m' : Nat} {ts ts' : List FT} {S S' : GS} (h : GrM w0 F p m ts S w) (k : GrpAt w' F' p ts' S' m') (hc : Chg F w w') (hg : Grew w.heap.size F F') : GrM w0 F' p m' ts' S' w' :=
  ⟨k, fun i hi => by
    rcases hg i hi with h1 | h1
    · exact h.new i h1
    · have := h.bel.size; omega, h.bel.trans (hc.below (fun k hk hF => by have := h.new k hF; omega) h.bel.size)⟩
theorem GrpAt.nil {w w' : World} {F : Nat → Prop} {p m : Nat} {ts : List FT} {S : GS} (h : GrpAt w F p ts S m) (hc : Chg Nil w w') : GrpAt w' F p ts S m := by
  obtain ⟨a, c, G, mb, n, hn, h⟩ := h
  exact ⟨a, c, G, mb, n, hn, h.nil hc⟩
theorem GrpAt.lt {w : World} {F : Nat → Prop} {p m : Nat} {ts : List FT} {S : GS} (h : GrpAt w F p ts S m) : ∀ k, F k → k < w.heap.size := by
  obtain ⟨a, c, G, mb, n, hn, h⟩ := h
  exact h.lt
theorem GrpAt.chg {w w' : World} {F H : Nat → Prop} {p m : Nat} {ts : List FT} {S : GS} (h : GrpAt w F p ts S m) (hc : Chg H w w') (hd : Dj F H) : GrpAt w' F p ts S m := by
  obtain ⟨a, c, G, mb, n, hn, h⟩ := h
  exact ⟨a, c, G, mb, n, hn, h.chg hc hd⟩
theorem GrM.nil {w0 w w' : World} {F : Nat → Prop} {p m : Nat} {ts : List FT} {S : GS} (h : GrM w0 F p m ts S w) (hc : Chg Nil w w') : GrM w0 F p m ts S w' :=
  ⟨h.at'.nil hc, h.new, below_nil h.bel hc⟩
/-- .. and a row of two counts beside it. -/
structure GrC (w0 : World) (F : Nat → Prop) (p m gb : Nat) (ts : List FT) (S : GS) (g0 g1 : Nat) (w : World) : Prop where
  gm : GrM w0 F p m ts S w
  cb : Blk w gb 37 [.int .i64 (g0 : Int), .int .i64 (g1 : Int)]
  nf : ¬ F gb
  nb : w0.heap.size ≤ gb
theorem GrM.row {w0 w : World} {F : Nat → Prop} {p m : Nat} {ts : List FT} {S : GS} (h : GrM w0 F p m ts S w) : GrC w0 F p m w.heap.size ts S 0 0 (w.alloc (.cells #[.int .i64 0, .int .i64 0] 37)) :=
  ⟨h.nil ((Chg.refl Nil w).alloc _), Blk.new w 37 [.int .i64 0, .int .i64 0], fun hF => by have := h.at'.lt _ hF; omega, h.bel.size⟩
theorem GrC.tick {w0 w w' : World} {F : Nat → Prop} {p m gb g0 g1 : Nat} {ts ts' : List FT} {S S' : GS} (h : GrC w0 F p m gb ts S g0 g1 w) (k : GrpAt w' F p ts' S' m) (hc : Chg F w w') : GrC w0 F p m gb ts' S' g0 g1 w' :=
  ⟨h.gm.step k hc (Grew.refl _ _), h.cb.chg hc h.nf, h.nf, h.nb⟩
theorem GrC.put {w0 w : World} {F : Nat → Prop} {p m gb g0 g1 : Nat} {ts : List FT} {S : GS} (h : GrC w0 F p m gb ts S g0 g1 w) : GrC w0 F p m gb ts S (g0 + 1) g1 (w.setCell ⟨gb, 0, none⟩ (.int .i64 ((g0 : Int) + 1))) ∧ GrC w0 F p m gb ts S g0 (g1 + 1) (w.setCell ⟨gb, 1, none⟩ (.int .i64 ((g1 : Int) + 1))) := by
  have hc : ∀ i u, Chg (One gb) w (w.setCell ⟨gb, i, none⟩ u) := fun i u => (Chg.refl (One gb) w).setCell (p := ⟨gb, i, none⟩) (.inl (show One gb gb from rfl)) u
  have gm : ∀ i u, GrM w0 F p m ts S (w.setCell ⟨gb, i, none⟩ u) := fun i u => ⟨h.gm.at'.chg (hc i u) (fun k hk he => h.nf (by rw [← show k = gb from he]; exact hk)), h.gm.new, h.gm.bel.trans ((hc i u).below (fun k hk he => by have := h.nb; rw [show k = gb from he] at hk; omega) h.gm.bel.size)⟩
  exact ⟨⟨gm _ _, h.cb.set 0 _, h.nf, h.nb⟩, ⟨gm _ _, h.cb.set 1 _, h.nf, h.nb⟩⟩
end Go.Proofs.Ytpafafleepcjdaa
