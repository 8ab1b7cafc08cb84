/- More contracts of package fair, where no group is there: wake, Add, first, next, Tick, At, Block, Wake. Conditions: at most 1000 tasks, each as it may be. -/
import Derived.Test.YtpafafleepcjdaaFair
namespace Go.Proofs.Ytpafafleepcjdaa
open Go.ChangeShapes Go.WideShapes Go.ChangeAt Go.RowKit
set_option linter.unusedVariables false
theorem max_i (x m : Nat) (h : x < m) : max x m = m := by omega
def PWakeF (F : Nat → Prop) (p : Nat) (ts : List FT) (g off c mb i : Nat) (x : FT) (w : World) (e : Ending) (w' : World) : Prop := ∃ o, FLeast ts ts.length o ∧ e = .returned (.tuple #[]) ∧ FA w' F p (ts.set i (wokenF o x)) (some ⟨g, off, none⟩) c (some g) mb ∧ Chg F w w'
set_option maxHeartbeats 1000000 in
theorem fwake_ok (w : World) (F : Nat → Prop) (p : Nat) (ts : List FT) (g off c mb i : Nat) (x : FT) (h : FA w F p ts (some ⟨g, off, none⟩) c (some g) mb) (hl : ts.length ≤ 1000) (hg : ∀ y ∈ ts, y.g = 0) (hx : ts[i]? = some x) :
    Calls Try.prog 24 #[.pointer (some ⟨p, 0, none⟩), .pointer (some ⟨g, off + i * 5, none⟩)] w (PWakeF F p ts g off c mb i x w) := by
  have H := hid h
  have HG := hid hg
  have HX := hid hx
  have hi : i < ts.length := (List.getElem?_eq_some_iff.1 hx).1
  have hFg := h.fg g rfl
  have hg0 := hg x (List.mem_of_getElem? hx)
  replace hg0 := hid hg0
  clear h hg hx
  go_enter Try.func24, Try.ntmps24
  go_wp2_with fail
  refine (ftop_ok w F p ts _ c _ mb H.out hl HG.out).mono ?_
  rintro e w1 ⟨o, ho, rfl, c1⟩
  have H1 := H.out.nil c1
  have x2 := H1.cell HX.out 2 (by omega)
  have x3 := H1.cell HX.out 3 (by omega)
  have x4 := H1.cell HX.out 4 (by omega)
  have f3 := H1.free (by omega) (off + i * 5 + 3)
  have f4 := H1.free (by omega) (off + i * 5 + 4)
  simp only [ftCells, List.getElem?_cons_succ, List.getElem?_cons_zero] at x2 x3 x4
  rw [hg0.out] at x2
  have C1 := hid (c1.mono (G := F) (fun _ _ h => h.elim))
  replace ho := hid ho
  replace H1 := hid H1
  clear c1
  cases o with
  | none =>
    simp only [leastV, Option.isSome_none]
    go_wp2
    go_end0
    refine ⟨none, ho.out, rfl, ?_, C1.out.setCell (p := ⟨g, off + i * 5 + 4, none⟩) (.inl hFg) _⟩
    exact H1.out.put (y := wokenF none x) HX.out (j := 4) (by omega) rfl
  | some m =>
    simp only [leastV, Option.isSome_some, Option.getD_some]
    have y1 := H1.out.put (y := { x with v := max x.v m }) (u := .int .i64 ((max x.v m : Nat) : Int)) HX.out (j := 3) (by omega) rfl
    have y2 := y1.put (y := wokenF (some m) x) (u := .bool true) (List.getElem?_set_self hi) (j := 4) (by omega) rfl
    rw [set_set] at y2
    have Y2 := hid y2
    clear y1 y2
    by_cases hvm : x.v < m
    · have e1 := max_i x.v m hvm
      rw [e1] at Y2
      clear e1
      go_wp2
      go_end0
      exact ⟨some m, ho.out, rfl, Y2.out, (C1.out.setCell (p := ⟨g, off + i * 5 + 3, none⟩) (.inl hFg) _).setCell (p := ⟨g, off + i * 5 + 4, none⟩) (.inl hFg) _⟩
    · have e1 : max x.v m = x.v := by omega
      rw [e1] at Y2
      clear e1
      go_wp2
      go_end0
      exact ⟨some m, ho.out, rfl, Y2.out, (C1.out.setCell (p := ⟨g, off + i * 5 + 3, none⟩) (.inl hFg) _).setCell (p := ⟨g, off + i * 5 + 4, none⟩) (.inl hFg) _⟩
/-- A task that comes. -/
def newF (t wt : Nat) : FT := ⟨t, wt, 0, 0, false⟩
def PAddF (F : Nat → Prop) (p : Nat) (ts : List FT) (t wt : Nat) (w : World) (e : Ending) (w' : World) : Prop := ∃ F' o, FLeast ts ts.length o ∧ e = .returned (.int .i64 0) ∧ FairAt w' F' p (ts ++ [wokenF o (newF t wt)]) ∧ Chg F w w' ∧ Grew w.heap.size F F'
theorem least_snoc {ts : List FT} {x : FT} {o : Option Nat} (hx : x.r = false) (h : FLeast (ts ++ [x]) (ts ++ [x]).length o) : FLeast ts ts.length o := by
  have hlen : (ts ++ [x]).length = ts.length + 1 := by simp
  rw [hlen] at h
  have hget : ∀ i, i < ts.length → (ts ++ [x])[i]? = ts[i]? := fun i hi => List.getElem?_append_left hi
  cases o with
  | none => intro i y hi hy; exact h i y (by omega) (by rw [hget i hi]; exact hy)
  | some m =>
    obtain ⟨⟨i, y, h1, h2, h3, h4⟩, h5⟩ := h
    refine ⟨⟨i, y, ?_, ?_, h3, h4⟩, fun j z hj hz hr => h5 j z (by omega) (by rw [hget j hj]; exact hz) hr⟩
    · by_cases hi : i < ts.length
      · exact hi
      · have : i = ts.length := by omega
        subst this
        rw [List.getElem?_append_right (Nat.le_refl _)] at h2
        simp at h2
        rw [← h2, hx] at h3; cases h3
    · have hi : i < ts.length := by
        by_cases hi : i < ts.length
        · exact hi
        · have : i = ts.length := by omega
          subst this
          rw [List.getElem?_append_right (Nat.le_refl _)] at h2
          simp at h2
          rw [← h2, hx] at h3; cases h3
      rw [hget i hi] at h2; exact h2
set_option maxHeartbeats 2000000 in
theorem fadd_ok (w : World) (F : Nat → Prop) (p : Nat) (ts : List FT) (t wt : Nat) (h : FairAt w F p ts) (hl : ts.length < 1000) (t1 : 1 ≤ t) (t2 : t ≤ 16) (w1 : 1 ≤ wt) (w2 : wt ≤ 100) (hg : ∀ y ∈ ts, y.g = 0) (ht : ∀ x ∈ ts, x.t ≠ t) :
    Calls Try.prog 17 #[.pointer (some ⟨p, 0, none⟩), .int .i64 (t : Int), .int .i64 (wt : Int), .int .i64 0] w (PAddF F p ts t wt w) := by
  obtain ⟨a, c, G, mb, h⟩ := h
  have d0 := h.c0
  have f0 : w.frozen? ⟨p, 0, none⟩ = false := h.blk.frozen 0
  have HF := hid (ffind_no w F p ts a c G mb (t : Int) h (by omega) (fun x hx he => ht x hx (by omega)))
  have HS := hid (h.sl.alloc (.cells #[.int .i64 (t : Int), .int .i64 (wt : Int), .int .i64 0, .int .i64 0, .bool false] 45))
  have HN := hid (Rd.of_blk (n := 1) (s := 5) (Blk.new w 45 (ftCells (newF t wt))) rfl (by decide))
  have HNE := hid h.ne
  have H := hid h
  have HG := hid hg
  have HT := hid ht
  clear h ht hg
  go_enter Try.func17, Try.ntmps17
  go_wp2_with (first | (go_at_call 23; refine HF.out.mono ?_; rintro e w' ⟨rfl, rfl⟩; clear HF) | (at_builtin; refine wpList_append_sl rfl _ _ eFTask rfl rfl rfl HS.out HN.out (ft_one _) (by omega) (by omega) ?_; intro a' c' w1 G' q1 q2 q3; have HB1 := (H.out.blk.alloc (.cells #[.int .i64 (t : Int), .int .i64 (wt : Int), .int .i64 0, .int .i64 0, .bool false] 45)).chg q2 HNE.out; have e0 := HB1.cell 0; have g0 := HB1.frozen 0; simp only [List.getElem?_cons_zero] at e0; replace HB1 := hid HB1; replace q1 := hid q1; replace q2 := hid q2; replace q3 := hid q3))
  have hA : FA (w1.setCell ⟨p, 0, none⟩ (.slice a' (ts.length + 1) c')) (Or2 F (Opt G')) p (ts ++ [newF t wt]) a' c' G' mb := by
    have hq1 := q1.out.ne_blk HB1.out (by decide)
    refine ⟨?_, ?_, ?_, .inl H.out.fp, .inl H.out.fm, fun g hg => .inr hg, ?_, H.out.pm, ?_⟩
    · have := HB1.out.set 0 (.slice a' (ts.length + 1) c')
      simpa using this
    · have h1 := q1.out.set_far (p := ⟨p, 0, none⟩) hq1 (.slice a' (ts.length + 1) c')
      have h2 : ts.flatMap ftCells ++ ftCells (newF t wt) = (ts ++ [newF t wt]).flatMap ftCells := by simp
      rw [h2] at h1
      simpa using h1
    · exact (((H.out.mp.alloc _).chg q2.out (fun hh => H.out.nm hh)).chg ((Chg.refl (One p) w1).setCell (p := ⟨p, 0, none⟩) (.inl (show One p p from rfl)) _) (fun hh => H.out.pm hh))
    · intro hh
      have := H.out.mp.lt
      rcases q3.out with h3 | h3
      · rw [h3] at hh; exact H.out.nm hh
      · rw [h3] at hh; injection hh with hh; simp at hh; omega
    · rintro k (hF | hG)
      · have h1 := H.out.lt k hF; have h2 := q2.out.size; simp at h2 ⊢; omega
      · have := q1.out.lt k hG; simpa using this
  have hC : Chg F w (w1.setCell ⟨p, 0, none⟩ (.slice a' (ts.length + 1) c')) := by
    have h0 : Chg F w w1 := ((Chg.refl F w).alloc _).trans q2.out (fun i _ h => H.out.fg i h)
    exact h0.setCell (p := ⟨p, 0, none⟩) (.inl H.out.fp) _
  have hGr : Grew w.heap.size F (Or2 F (Opt G')) := by
    rintro k (hF | hG)
    · exact .inl hF
    · rcases q3.out with h3 | h3 <;> rw [h3] at hG
      · exact .inl (H.out.fg k hG)
      · injection hG with hG
        simp at hG
        exact .inr (by omega)
  clear q1 q2 q3 HB1 e0 g0
  obtain ⟨g, off, rfl, rfl, hg1, hg2⟩ := hA.at (by simp)
  have HA := hid hA
  have HC := hid hC
  have HGR := hid hGr
  have hn : NumF (ts ++ [newF t wt]) ts.length (newF t wt) (t : Int) := by
    refine ⟨by simp, rfl, fun j y hj hy => ?_⟩
    rw [List.getElem?_append_left hj] at hy
    have := HT.out y (List.mem_of_getElem? hy)
    omega
  have hgg : ∀ y ∈ ts ++ [newF t wt], y.g = 0 := fun y hy => by
    rcases List.mem_append.1 hy with h1 | h1
    · exact HG.out y h1
    · rw [List.mem_singleton.1 h1]; rfl
  have hlen : (ts ++ [newF t wt]).length ≤ 1000 := by simp; omega
  have HNU := hid hn
  have HGG := hid hgg
  clear hA hC hGr hn hgg
  refine (ffind_yes _ _ p _ g off c' _ mb ts.length (newF t wt) _ HA.out hlen HNU.out).mono ?_
  rintro e w2 ⟨rfl, rfl⟩
  go_wp2_with fail
  refine (fwake_ok _ _ p _ g off c' mb ts.length (newF t wt) HA.out hlen HGG.out HNU.out.1).mono ?_
  rintro e w3 ⟨o, ho, rfl, h3, c3⟩
  replace ho := hid ho
  replace h3 := hid h3
  replace c3 := hid c3
  go_wp2
  go_ret
  refine ⟨Or2 F (Opt (some g)), o, least_snoc rfl ho.out, rfl, ⟨some ⟨g, off, none⟩, c', some g, mb, ?_⟩, ?_, HGR.out⟩
  · have := h3.out
    have e : (ts ++ [newF t wt]).set ts.length (wokenF o (newF t wt)) = ts ++ [wokenF o (newF t wt)] := by simp
    rw [e] at this
    exact this
  · refine HC.out.trans c3.out (fun i hi hh => ?_)
    rcases HGR.out i hh with h | h
    · exact h
    · omega
def bestPtrF (g off : Nat) : Option Nat → Value
  | none => .pointer none
  | some j => .pointer (some ⟨g, off + j * 5, none⟩)
def PFirstF (ts : List FT) (g off : Nat) (w : World) (e : Ending) (w' : World) : Prop := ∃ b, FFirst ts ts.length b ∧ e = .returned (bestPtrF g off b) ∧ ∃ n, w' = w.drewN n
end Go.Proofs.Ytpafafleepcjdaa
