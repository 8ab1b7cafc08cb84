/- More on the memory of the law GraceSafe: what each play does to it. -/
import Derived.Test.YtacmgjjpfdncgaaGraceR
namespace Go.Proofs.Ytacmgjjpfdncgaa
open Go.ChangeShapes Go.WideShapes Go.ChangeAt Go.RowKit
set_option linter.unusedVariables false
theorem dnK_left {next : Nat} {dp tn : Nat → Int} {l : List GCall} {wt : Nat → Nat → Int} (h : GS next dp tn l wt) : dnK next (l.map GCall.id) (doneIds dp tn l) = dnK next ((leftOf dp tn l).map GCall.id) [] := by
  funext i
  unfold dnK
  have key : (i ∉ l.map GCall.id ∨ i ∈ doneIds dp tn l) ↔ (i ∉ (leftOf dp tn l).map GCall.id ∨ i ∈ ([] : List Int)) := by
    constructor
    · rintro (h1 | h1)
      · exact .inl (fun hh => by obtain ⟨x, hx, rfl⟩ := List.mem_map.1 hh; exact h1 (List.mem_map.2 ⟨x, (List.mem_filter.1 hx).1, rfl⟩))
      · refine .inl (fun hh => ?_)
        obtain ⟨x, hx, rfl⟩ := List.mem_map.1 hh
        obtain ⟨hx1, hx2⟩ := List.mem_filter.1 hx
        obtain ⟨y, hy, hy2⟩ := List.mem_map.1 h1
        obtain ⟨hy3, hy4⟩ := List.mem_filter.1 hy
        obtain ⟨a, ha, rfl⟩ := h.ids x hx1
        obtain ⟨b, hb, rfl⟩ := h.ids y hy3
        have : b = a := by have : (b : Int) = a := hy2; omega
        subst this
        rw [hy4] at hx2; cases hx2
    · rintro (h1 | h1)
      · by_cases hin : i ∈ l.map GCall.id
        · obtain ⟨x, hx, rfl⟩ := List.mem_map.1 hin
          refine .inr (List.mem_map.2 ⟨x, List.mem_filter.2 ⟨hx, ?_⟩, rfl⟩)
          cases ho : ovr dp tn x with
          | true => rfl
          | false => exact absurd (List.mem_map.2 ⟨x, List.mem_filter.2 ⟨hx, by simp [ho]⟩, rfl⟩) h1
        · exact .inl hin
      · cases h1
  simp only [key]
section
variable {w0 w w1 : World} {F : Nat → Prop} {p : Nat} {dp tn dp1 tn1 : Nat → Int} {l : List GCall} {gb sb db ab tb ms md ns nd : Nat} {fs fd fs1 : Int → Option Value}
/-- The class has other numbers, and the law's own array of depths too. -/
theorem GV.deep (h : GV w0 F p dp tn l gb sb db ab tb ms md ns nd fs fd w) (hd : GrAt w1 F p dp1 tn l) (hc : Chg (One p) w w1) (hpF : F p) {i : Nat} (hi : i < 4) (v : Int) (hv : dp1 = upI dp i v) : GV w0 F p dp1 tn l gb sb db ab tb ms md ns nd fs fd (w1.setCell ⟨ab, i, none⟩ (.int .i64 v)) := by
  subst hv
  have hn : ∀ k ∈ [gb, sb, db, ab, tb, ms, md], ¬ One p k := fun k hk hh => (h.nf k hk).1 (by rw [show k = p from hh]; exact hpF)
  have hds := h.dist
  simp only [List.nodup_cons, List.mem_cons, List.not_mem_nil, or_false, not_or, not_false_eq_true, List.nodup_nil, and_true] at hds
  obtain ⟨⟨_, _, d1, _, _, _⟩, ⟨_, d2, _, _, _⟩, ⟨d3, _, _, _⟩, ⟨d4, d5, d6⟩, _⟩ := hds
  have hF := (h.nf ab (by simp)).1
  have hB := (h.nf ab (by simp)).2
  have hs : Chg (One ab) w1 (w1.setCell ⟨ab, i, none⟩ (.int .i64 v)) := (Chg.refl (One ab) w1).setCell (p := ⟨ab, i, none⟩) (.inl (show One ab ab from rfl)) _
  have b1 := (h.ba.chg hc (hn ab (by simp))).set i (.int .i64 v)
  rw [arr4_set _ hi] at b1
  have hbel1 := h.bel.trans (hc.below (fun k hk hf => by have := h.new p hpF; rw [show k = p from hf] at hk; omega) h.bel.size)
  exact ⟨hd.chg hs (fun k k1 k2 => hF (by rw [← show k = ab from k2]; exact k1)), (h.bg.chg hc (hn _ (by simp))).chg hs d1, (h.bs.chg hc (hn _ (by simp))).chg hs d2, (h.bd.chg hc (hn _ (by simp))).chg hs d3, b1, (h.bt.chg hc (hn _ (by simp))).chg hs (fun hh => d4 hh.symm), (h.mps.chg hc (hn _ (by simp))).chg hs (fun hh => d5 hh.symm), (h.mpd.chg hc (hn _ (by simp))).chg hs (fun hh => d6 hh.symm), h.dist, h.nf, h.new, hbel1.trans (hs.below (fun k hk hf => by rw [show k = ab from hf] at hk; omega) hbel1.size)⟩
/-- .. and its array of turns too. -/
theorem GV.deep2 (h : GV w0 F p dp tn l gb sb db ab tb ms md ns nd fs fd w) (hd : GrAt w1 F p dp1 tn1 l) (hc : Chg (One p) w w1) (hpF : F p) {i : Nat} (hi : i < 4) (v u : Int) (hv : dp1 = upI dp i v) (hu : tn1 = upI tn i u) : GV w0 F p dp1 tn1 l gb sb db ab tb ms md ns nd fs fd ((w1.setCell ⟨ab, i, none⟩ (.int .i64 v)).setCell ⟨tb, i, none⟩ (.int .i64 u)) := by
  subst hv; subst hu
  have hn : ∀ k ∈ [gb, sb, db, ab, tb, ms, md], ¬ One p k := fun k hk hh => (h.nf k hk).1 (by rw [show k = p from hh]; exact hpF)
  have hds := h.dist
  simp only [List.nodup_cons, List.mem_cons, List.not_mem_nil, or_false, not_or, not_false_eq_true, List.nodup_nil, and_true] at hds
  obtain ⟨⟨_, _, d1, t1, _, _⟩, ⟨_, d2, t2, _, _⟩, ⟨d3, t3, _, _⟩, ⟨d4, d5, d6⟩, ⟨t5, t6⟩, _⟩ := hds
  have hF := (h.nf ab (by simp)).1
  have hB := (h.nf ab (by simp)).2
  have hF2 := (h.nf tb (by simp)).1
  have hB2 := (h.nf tb (by simp)).2
  have hs : Chg (One ab) w1 (w1.setCell ⟨ab, i, none⟩ (.int .i64 v)) := (Chg.refl (One ab) w1).setCell (p := ⟨ab, i, none⟩) (.inl (show One ab ab from rfl)) _
  have hs2 : Chg (One tb) (w1.setCell ⟨ab, i, none⟩ (.int .i64 v)) ((w1.setCell ⟨ab, i, none⟩ (.int .i64 v)).setCell ⟨tb, i, none⟩ (.int .i64 u)) := (Chg.refl (One tb) _).setCell (p := ⟨tb, i, none⟩) (.inl (show One tb tb from rfl)) _
  have b1 := (h.ba.chg hc (hn ab (by simp))).set i (.int .i64 v)
  rw [arr4_set _ hi] at b1
  have b2 := ((h.bt.chg hc (hn _ (by simp))).chg hs (fun hh => d4 hh.symm)).set i (.int .i64 u)
  rw [arr4_set _ hi] at b2
  have hbel1 := h.bel.trans (hc.below (fun k hk hf => by have := h.new p hpF; rw [show k = p from hf] at hk; omega) h.bel.size)
  have hbel2 := hbel1.trans (hs.below (fun k hk hf => by rw [show k = ab from hf] at hk; omega) hbel1.size)
  exact ⟨(hd.chg hs (fun k k1 k2 => hF (by rw [← show k = ab from k2]; exact k1))).chg hs2 (fun k k1 k2 => hF2 (by rw [← show k = tb from k2]; exact k1)), ((h.bg.chg hc (hn _ (by simp))).chg hs d1).chg hs2 t1, ((h.bs.chg hc (hn _ (by simp))).chg hs d2).chg hs2 t2, ((h.bd.chg hc (hn _ (by simp))).chg hs d3).chg hs2 t3, b1.chg hs2 d4, b2, ((h.mps.chg hc (hn _ (by simp))).chg hs (fun hh => d5 hh.symm)).chg hs2 (fun hh => t5 hh.symm), ((h.mpd.chg hc (hn _ (by simp))).chg hs (fun hh => d6 hh.symm)).chg hs2 (fun hh => t6 hh.symm), h.dist, h.nf, h.new, hbel2.trans (hs2.below (fun k hk hf => by rw [show k = tb from hf] at hk; omega) hbel2.size)⟩
/-- One more call was seen. -/
theorem GV.putS {ns1 : Nat} (h : GV w0 F p dp tn l gb sb db ab tb ms md ns nd fs fd w) (hm : MpAt w1 Try.prog 3 ms ns1 fs1) (hc : Chg (One ms) w w1) : GV w0 F p dp tn l gb sb db ab tb ms md ns1 nd fs1 fd w1 := by
  have hd := h.dist
  simp only [List.nodup_cons, List.mem_cons, List.not_mem_nil, or_false, not_or, not_false_eq_true, List.nodup_nil, and_true] at hd
  obtain ⟨⟨_, _, _, _, d1, _⟩, ⟨_, _, _, d2, _⟩, ⟨_, _, d3, _⟩, ⟨_, d4, _⟩, ⟨d5, _⟩, d6⟩ := hd
  have hF := (h.nf ms (by simp)).1
  have hB := (h.nf ms (by simp)).2
  exact ⟨h.g.chg hc (fun k k1 k2 => hF (by rw [← show k = ms from k2]; exact k1)), h.bg.chg hc d1, h.bs.chg hc d2, h.bd.chg hc d3, h.ba.chg hc d4, h.bt.chg hc d5, hm, h.mpd.chg hc (fun hh => d6 hh.symm), h.dist, h.nf, h.new, h.bel.trans (hc.below (fun i hi hf => by rw [show i = ms from hf] at hi; omega) h.bel.size)⟩
end
end Go.Proofs.Ytacmgjjpfdncgaa
