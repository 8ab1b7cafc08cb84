/- Contracts of package fair where groups are: Add (all virtual times are nothing), first. Conditions: at most 1000 tasks. -/
import Derived.Test.YtpafafleepcjdaaGrp2
namespace Go.Proofs.Ytpafafleepcjdaa
open Go.ChangeShapes Go.WideShapes Go.ChangeAt Go.RowKit
set_option linter.unusedVariables false
theorem gfind_no (w : World) (F : Nat → Prop) (p : Nat) (ts : List FT) (S : GS) (a : Option Addr) (c : Nat) (G : Option Nat) (mb n : Nat) (t : Int) (h : GA w F p ts S a c G mb n) (hl : ts.length ≤ 1000) (ht : ∀ x ∈ ts, (x.t : Int) ≠ t) :
    Calls Try.prog 23 #[.pointer (some ⟨p, 0, none⟩), .int .i64 t] w fun e w' => e = .returned (.pointer none) ∧ w = w' := by
  have c0 := h.c0
  have H := hid h
  have HT := hid ht
  clear h ht
  go_enter Try.func23, Try.ntmps23
  go_wp2
  go_loop [11] (fun s11 => ∃ k : Nat, k ≤ ts.length ∧ s11 = .int .i64 k) (fun s11 => ts.length - (intOf s11).toNat)
  case atStart => exact ⟨0, by omega, rfl⟩
  case round =>
    obtain ⟨k, hk, rfl⟩ := hrel
    by_cases hlt : k < ts.length
    · obtain ⟨g, off, rfl, rfl, _, _⟩ := H.out.at (by omega)
      have hc := H.out.cell (List.getElem?_eq_getElem hlt) 0 (by omega)
      simp only [ftCells, List.getElem?_cons_zero, Nat.add_zero] at hc
      have hne : (((ts[k].t : Nat) : Int) == t) = false := by rw [beq_eq_false_iff_ne]; exact HT.out _ (List.getElem_mem hlt)
      go_wp2
      go_round
      case rel => exact ⟨k + 1, by omega, by go_num⟩
      case measure => simp [intOf]; omega
    · go_wp2
      go_ret
      exact ⟨rfl, rfl⟩
theorem gfind_yes (w : World) (F : Nat → Prop) (p : Nat) (ts : List FT) (S : GS) (g off : Nat) (c : Nat) (G : Option Nat) (mb n : Nat) (i : Nat) (x : FT) (t : Int) (h : GA w F p ts S (some ⟨g, off, none⟩) c G mb n) (hl : ts.length ≤ 1000) (hx : NumF ts i x t) :
    Calls Try.prog 23 #[.pointer (some ⟨p, 0, none⟩), .int .i64 t] w fun e w' => e = .returned (.pointer (some ⟨g, off + i * 5, none⟩)) ∧ w = w' := by
  obtain ⟨hx, hxt, ht⟩ := hx
  have c0 := h.c0
  have hi : i < ts.length := (List.getElem?_eq_some_iff.1 hx).1
  have H := hid h
  have HT := hid ht
  have HX := hid hx
  have HXT := hid hxt
  clear h ht hx hxt
  go_enter Try.func23, Try.ntmps23
  go_wp2
  go_loop [11] (fun s11 => ∃ k : Nat, k ≤ i ∧ s11 = .int .i64 k) (fun s11 => ts.length - (intOf s11).toNat)
  case atStart => exact ⟨0, by omega, rfl⟩
  case round =>
    obtain ⟨k, hk, rfl⟩ := hrel
    have hlt : k < ts.length := by omega
    by_cases hki : k = i
    · subst hki
      have hc := H.out.cell HX.out 0 (by omega)
      simp only [ftCells, List.getElem?_cons_zero, Nat.add_zero] at hc
      have hne : (((x.t : Nat) : Int) == t) = true := by rw [beq_iff_eq]; exact HXT.out
      go_wp2
      go_ret
      exact ⟨rfl, rfl⟩
    · have hc := H.out.cell (List.getElem?_eq_getElem hlt) 0 (by omega)
      simp only [ftCells, List.getElem?_cons_zero, Nat.add_zero] at hc
      have hne : (((ts[k].t : Nat) : Int) == t) = false := by rw [beq_eq_false_iff_ne]; exact HT.out k _ (by omega) (List.getElem?_eq_getElem hlt)
      go_wp2
      go_round
      case rel => exact ⟨k + 1, by omega, by go_num⟩
      case measure => simp [intOf]; omega
/-- A task of a group, that comes. -/
def newG (t wt gr : Nat) : FT := ⟨t, wt, gr, 0, false⟩
set_option maxHeartbeats 2000000 in
theorem gadd_ok (w : World) (F : Nat → Prop) (p : Nat) (ts : List FT) (S : GS) (m : Nat) (t wt gr q : Nat) (h : GrpAt w F p ts S m) (hl : ts.length < 1000) (t1 : 1 ≤ t) (t2 : t ≤ 16) (w1 : 1 ≤ wt) (w2 : wt ≤ 100) (g1 : 1 ≤ gr) (g2 : gr ≤ 8) (hq : S.q gr = some q) (hz : ∀ x ∈ ts, x.v = 0) (hv : ∀ g, S.v g = 0) (ht : ∀ x ∈ ts, x.t ≠ t) :
    Calls Try.prog 17 #[.pointer (some ⟨p, 0, none⟩), .int .i64 (t : Int), .int .i64 (wt : Int), .int .i64 (gr : Int)] w fun e w' => ∃ F', e = .returned (.int .i64 0) ∧ GrpAt w' F' p (ts ++ [⟨t, wt, gr, 0, true⟩]) S m ∧ Chg F w w' ∧ Grew w.heap.size F F' := by
  obtain ⟨a, c, G, mb, n, hnm, h⟩ := h
  have d0 := h.c0
  have d1 := h.c1
  have lk := h.look_yes gr (by omega) hq
  have f0 : w.frozen? ⟨p, 0, none⟩ = false := h.blk.frozen 0
  have HF := hid (gfind_no w F p ts S a c G mb n (t : Int) h (by omega) (fun x hx he => ht x hx (by omega)))
  have HS := hid (h.sl.alloc (.cells #[.int .i64 (t : Int), .int .i64 (wt : Int), .int .i64 (gr : Int), .int .i64 0, .bool false] 45))
  have HN := hid (Rd.of_blk (n := 1) (s := 5) (Blk.new w 45 (ftCells (newG t wt gr))) rfl (by decide))
  have HNE := hid h.ne
  have H := hid h
  have HZ := hid hz
  have HV := hid hv
  have HT := hid ht
  have HQ := hid hq
  clear h ht hz hv hq
  go_enter Try.func17, Try.ntmps17
  go_wp2_with (first | (go_at_call 23; refine HF.out.mono ?_; rintro e w' ⟨rfl, rfl⟩; clear HF) | (at_builtin; refine wpList_append_sl rfl _ _ eFTask rfl rfl rfl HS.out HN.out (ft_one _) (by omega) (by omega) ?_; intro a' c' w1 G' q1 q2 q3; have HB1 := (H.out.blk.alloc (.cells #[.int .i64 (t : Int), .int .i64 (wt : Int), .int .i64 (gr : Int), .int .i64 0, .bool false] 45)).chg q2 HNE.out; have e0 := HB1.cell 0; have g0 := HB1.frozen 0; simp only [List.getElem?_cons_zero] at e0; replace HB1 := hid HB1; replace q1 := hid q1; replace q2 := hid q2; replace q3 := hid q3))
  have hA : GA (w1.setCell ⟨p, 0, none⟩ (.slice a' (ts.length + 1) c')) (Or2 F (Opt G')) p (ts ++ [newG t wt gr]) S a' c' G' mb n := by
    have hq1 := q1.out.ne_blk HB1.out (by decide)
    have cp : Chg (One p) w1 (w1.setCell ⟨p, 0, none⟩ (.slice a' (ts.length + 1) c')) := (Chg.refl (One p) w1).setCell (p := ⟨p, 0, none⟩) (.inl (show One p p from rfl)) _
    refine ⟨?_, ?_, ?_, ?_, fun g q hq => ⟨.inl (H.out.gf g q hq).1, (H.out.gf g q hq).2⟩, H.out.inj, .inl H.out.fp, .inl H.out.fm, fun g hg => .inr hg, ?_, H.out.pm, ?_⟩
    · have := HB1.out.set 0 (.slice a' (ts.length + 1) c')
      simpa using this
    · have h1 := q1.out.set_far (p := ⟨p, 0, none⟩) hq1 (.slice a' (ts.length + 1) c')
      have h2 : ts.flatMap ftCells ++ ftCells (newG t wt gr) = (ts ++ [newG t wt gr]).flatMap ftCells := by simp
      rw [h2] at h1
      simpa using h1
    · exact (((H.out.mp.alloc _).chg q2.out (fun hh => H.out.nm hh)).chg cp (fun hh => H.out.pm hh))
    · intro g q hq
      obtain ⟨n1, n2⟩ := H.out.qne hq
      exact (((H.out.gb g q hq).alloc _).chg q2.out (fun hh => n2 hh)).chg cp (fun hh => n1 hh)
    · intro hh
      have := H.out.mp.lt
      rcases q3.out with h3 | h3
      · rw [h3] at hh; exact H.out.nm hh
      · rw [h3] at hh; injection hh with hh; simp at hh; omega
    · rintro k (hF | hG)
      · have h1 := H.out.lt k hF; have h2 := q2.out.size; simp at h2 ⊢; omega
      · have := q1.out.lt k hG; simpa using this
  have hC : Chg F w (w1.setCell ⟨p, 0, none⟩ (.slice a' (ts.length + 1) c')) := by
    have h0 : Chg F w w1 := ((Chg.refl F w).alloc _).trans q2.out (fun i _ h => H.out.fg i h)
    exact h0.setCell (p := ⟨p, 0, none⟩) (.inl H.out.fp) _
  have hGr : Grew w.heap.size F (Or2 F (Opt G')) := by
    rintro k (hF | hG)
    · exact .inl hF
    · rcases q3.out with h3 | h3 <;> rw [h3] at hG
      · exact .inl (H.out.fg k hG)
      · injection hG with hG
        simp at hG
        exact .inr (by omega)
  clear q1 q2 q3 HB1 e0 g0
  obtain ⟨g, off, rfl, rfl, hg1, hg2⟩ := hA.at (by simp)
  have HA := hid hA
  have HC := hid hC
  have HGR := hid hGr
  have hn : NumF (ts ++ [newG t wt gr]) ts.length (newG t wt gr) (t : Int) := by
    refine ⟨by simp, rfl, fun j y hj hy => ?_⟩
    rw [List.getElem?_append_left hj] at hy
    have := HT.out y (List.mem_of_getElem? hy)
    omega
  have hgg : ∀ y ∈ ts ++ [newG t wt gr], y.v = 0 := fun y hy => by
    rcases List.mem_append.1 hy with h1 | h1
    · exact HZ.out y h1
    · rw [List.mem_singleton.1 h1]; rfl
  have hlen : (ts ++ [newG t wt gr]).length ≤ 1000 := by simp; omega
  have HNU := hid hn
  have HGG := hid hgg
  clear hA hC hGr hn hgg
  refine (gfind_yes _ _ p _ S g off c' _ mb n ts.length (newG t wt gr) _ HA.out hlen HNU.out).mono ?_
  rintro e w2 ⟨rfl, rfl⟩
  go_wp2_with fail
  refine (gwake_ok _ _ p _ S g off c' mb n ts.length (newG t wt gr) HA.out hlen HGG.out HV.out HNU.out.1 gr q rfl g1 g2 HQ.out).mono ?_
  rintro e w3 ⟨rfl, h3, c3⟩
  replace h3 := hid h3
  replace c3 := hid c3
  go_wp2
  go_ret
  refine ⟨Or2 F (Opt (some g)), rfl, ⟨some ⟨g, off, none⟩, c', some g, mb, n, hnm, ?_⟩, ?_, HGR.out⟩
  · have := h3.out
    have e : (ts ++ [newG t wt gr]).set ts.length { newG t wt gr with r := true } = ts ++ [⟨t, wt, gr, 0, true⟩] := by simp [newG]
    rw [e] at this
    exact this
  · refine HC.out.trans c3.out (fun i hi hh => ?_)
    rcases HGR.out i hh with h | h
    · exact h
    · omega
/-- The tasks, as one group sees them. -/
def selX (g : Nat) (x : FT) : FT := { x with r := x.r && decide (x.g = g) }
def selG (g : Nat) (ts : List FT) : List FT := ts.map (selX g)
theorem selG_get {g : Nat} {ts : List FT} {i : Nat} {x : FT} (h : ts[i]? = some x) : (selG g ts)[i]? = some (selX g x) := by
  unfold selG; rw [List.getElem?_map, h]; rfl
theorem selG_inv {g : Nat} {ts : List FT} {i : Nat} {y : FT} (h : (selG g ts)[i]? = some y) : ∃ x, ts[i]? = some x ∧ y = selX g x := by
  unfold selG at h
  rw [List.getElem?_map] at h
  cases hx : ts[i]? with
  | none => rw [hx] at h; cases h
  | some x => rw [hx] at h; injection h with h; exact ⟨x, rfl, h.symm⟩
set_option maxHeartbeats 1000000 in
theorem gfirst_ok (w : World) (F : Nat → Prop) (p : Nat) (ts : List FT) (S : GS) (g off : Nat) (c : Nat) (G : Option Nat) (mb n0 : Nat) (h : GA w F p ts S (some ⟨g, off, none⟩) c G mb n0) (hl : ts.length ≤ 1000) (gr : Nat) :
    Calls Try.prog 25 #[.pointer (some ⟨p, 0, none⟩), .int .i64 (gr : Int)] w (fun e w' => ∃ b, FFirst (selG gr ts) ts.length b ∧ e = .returned (bestPtrF g off b) ∧ ∃ n, w' = w.drewN n) := by
  have c0 := h.c0
  have H := hid h
  clear h
  go_enter Try.func25, Try.ntmps25
  go_wp2
  go_loopw [5, 13] (fun s3 s11 wr => ∃ (k : Nat) (b : Option Nat) (n : Nat), k ≤ ts.length ∧ s11 = .int .i64 k ∧ s3 = bestPtrF g off b ∧ Hid (FFirst (selG gr ts) k b) ∧ wr = w.drewN n) (fun _ s11 _ => ts.length - (intOf s11).toNat)
  case atStart => exact ⟨0, none, 0, by omega, rfl, rfl, fun i x hi => absurd hi (by omega), rfl⟩
  case round =>
    obtain ⟨k, b, n, hk, rfl, rfl, hF, rfl⟩ := hrel
    by_cases hlt : k < ts.length
    · have hxk := List.getElem?_eq_getElem hlt
      generalize ts[k] = x at hxk
      have x0 := H.out.cell hxk 0 (by omega)
      have x2 := H.out.cell hxk 2 (by omega)
      have x3 := H.out.cell hxk 3 (by omega)
      have x4 := H.out.cell hxk 4 (by omega)
      simp only [ftCells, List.getElem?_cons_succ, List.getElem?_cons_zero, Nat.add_zero] at x0 x2 x3 x4
      have hsk := hid (selG_get (g := gr) hxk)
      clear hxk
      cases hr : x.r with
      | false =>
        rw [hr] at x4
        have HR : Hid ((selX gr x).r = false) := hid (by simp [selX, hr])
        clear hr
        go_wp2
        go_quiet (fail)
        go_wp2
        go_roundw
        case rel => exact ⟨k + 1, b, _, by omega, by go_num, rfl, ffirst_no hF.out hsk.out HR.out, rfl⟩
        case measure => simp [intOf]; omega
      | true =>
        rw [hr] at x4
        by_cases hgr : x.g = gr
        · have t0 : ((x.g : Int) == (gr : Int)) = true := by rw [beq_iff_eq]; omega
          have HR : Hid ((selX gr x).r = true) := hid (by simp [selX, hr, hgr])
          have HV : Hid ((selX gr x).v = x.v ∧ (selX gr x).t = x.t) := hid ⟨rfl, rfl⟩
          replace hgr := hid hgr
          clear hr
          cases b with
          | none =>
            simp only [bestPtrF]
            go_wp2
            go_quiet (fail)
            go_wp2
            go_roundw
            case rel => exact ⟨k + 1, some k, _, by omega, by go_num, rfl, ffirst_one hF.out hsk.out HR.out, rfl⟩
            case measure => simp [intOf]; omega
          | some j =>
            obtain ⟨y', hj, hyj, hey, _⟩ := id hF.out
            obtain ⟨y, hyy, rfl⟩ := selG_inv hyj
            have y0 := H.out.cell hyy 0 (by omega)
            have y3 := H.out.cell hyy 3 (by omega)
            simp only [ftCells, List.getElem?_cons_succ, List.getElem?_cons_zero, Nat.add_zero] at y0 y3
            replace hyj := hid hyj
            clear hey hyy
            simp only [bestPtrF]
            by_cases h1 : x.v < y.v
            · have t1 : decide ((x.v : Int) < (y.v : Int)) = true := by simp; omega
              have hA : Hid (aheadF (selX gr x) (selX gr y)) := hid (.inl h1)
              go_wp2
              go_quiet (fail)
              go_wp2
              go_roundw
              case rel => exact ⟨k + 1, some k, _, by omega, by go_num, rfl, ffirst_new hF.out hyj.out hsk.out HR.out hA.out, rfl⟩
              case measure => simp [intOf]; omega
            · have t1 : decide ((x.v : Int) < (y.v : Int)) = false := by simp; omega
              by_cases h2 : x.v = y.v
              · have t2 : ((x.v : Int) == (y.v : Int)) = true := by rw [beq_iff_eq]; omega
                by_cases h3 : x.t < y.t
                · have hA : Hid (aheadF (selX gr x) (selX gr y)) := hid (.inr ⟨h2, Nat.le_of_lt h3⟩)
                  have t3 : decide ((x.t : Int) < (y.t : Int)) = true := by simp; omega
                  replace h2 := hid h2
                  go_wp2
                  go_quiet (fail)
                  go_wp2
                  go_roundw
                  case rel => exact ⟨k + 1, some k, _, by omega, by go_num, rfl, ffirst_new hF.out hyj.out hsk.out HR.out hA.out, rfl⟩
                  case measure => simp [intOf]; omega
                · have hA : Hid (aheadF (selX gr y) (selX gr x)) := hid (.inr ⟨h2.symm, by show y.t ≤ x.t; omega⟩)
                  have t3 : decide ((x.t : Int) < (y.t : Int)) = false := by simp; omega
                  replace h2 := hid h2
                  go_wp2
                  go_quiet (fail)
                  go_wp2
                  go_roundw
                  case rel => exact ⟨k + 1, some j, _, by omega, by go_num, rfl, ffirst_old hF.out hyj.out hsk.out hA.out, rfl⟩
                  case measure => simp [intOf]; omega
              · have t2 : ((x.v : Int) == (y.v : Int)) = false := by rw [beq_eq_false_iff_ne]; omega
                have hA : Hid (aheadF (selX gr y) (selX gr x)) := hid (.inl (by show y.v < x.v; omega))
                replace h2 := hid h2
                go_wp2
                go_quiet (fail)
                go_wp2
                go_roundw
                case rel => exact ⟨k + 1, some j, _, by omega, by go_num, rfl, ffirst_old hF.out hyj.out hsk.out hA.out, rfl⟩
                case measure => simp [intOf]; omega
        · have t0 : ((x.g : Int) == (gr : Int)) = false := by rw [beq_eq_false_iff_ne]; omega
          have HR : Hid ((selX gr x).r = false) := hid (by simp [selX, hr, hgr])
          replace hgr := hid hgr
          clear hr
          go_wp2
          go_quiet (fail)
          go_wp2
          go_roundw
          case rel => exact ⟨k + 1, b, _, by omega, by go_num, rfl, ffirst_no hF.out hsk.out HR.out, rfl⟩
          case measure => simp [intOf]; omega
    · obtain rfl : k = ts.length := by omega
      go_wp2
      go_ret
      exact ⟨b, hF.out, rfl, _, rfl⟩
end Go.Proofs.Ytpafafleepcjdaa
