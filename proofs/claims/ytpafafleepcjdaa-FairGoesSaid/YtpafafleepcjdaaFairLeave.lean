/- The contract of fair's Leave, where no group is there: the task goes, all others stay. Condition: at most 1000 tasks. -/
import Derived.Test.YtpafafleepcjdaaFairRow
namespace Go.Proofs.Ytpafafleepcjdaa
open Go.ChangeShapes Go.WideShapes Go.ChangeAt Go.RowKit
set_option linter.unusedVariables false
theorem Sl.cut {w : World} {e : TypeId} {s n m c : Nat} {a : Option Addr} {xs : List Value} {G : Option Nat} (h : Sl w e s a n c xs G) (hm : m ≤ n) : Sl w e s a m m (xs.take (m * s)) G ∨ (m = 0 ∧ Sl w e s a 0 0 [] none) := by
  obtain ⟨h1, h2, h3, h4⟩ := h
  have hms : m * s ≤ n * s := Nat.mul_le_mul_right _ hm
  rcases h4 with ⟨h4, h5⟩ | ⟨g, off, cur, r1, r2, r3, r4, r5⟩
  · exact .inr ⟨by omega, Sl.empty _ _ _ _⟩
  · have hmc : m * s ≤ c * s := Nat.mul_le_mul_right _ (by omega)
    exact .inl ⟨Nat.le_refl _, by omega, by rw [List.length_take]; omega, .inr ⟨g, off, cur, r1, r2, r3, by omega, fun j hj => by rw [r5 j (by omega), List.getElem?_take_of_lt hj]⟩⟩
theorem erase_cells (ts : List FT) (i : Nat) (hi : i < ts.length) : (ts.take i).flatMap ftCells ++ (ts.drop (i + 1)).flatMap ftCells = (ts.eraseIdx i).flatMap ftCells := by
  rw [← List.flatMap_append, List.eraseIdx_eq_take_drop_succ]
theorem fleave_no (w : World) (F : Nat → Prop) (p : Nat) (ts : List FT) (t : Int) (h : FairAt w F p ts) (hl : ts.length ≤ 1000) (ht : ∀ x ∈ ts, (x.t : Int) ≠ t) :
    Calls Try.prog 20 #[.pointer (some ⟨p, 0, none⟩), .int .i64 t] w fun e w' => e = .returned (.int .i64 4) ∧ w = w' := by
  obtain ⟨a, c, G, mb, h⟩ := h
  have c0 := h.c0
  have H := hid h
  have HT := hid ht
  clear h ht
  go_enter Try.func20, Try.ntmps20
  go_wp2
  go_loop [11] (fun s11 => ∃ k : Nat, k ≤ ts.length ∧ s11 = .int .i64 k) (fun s11 => ts.length - (intOf s11).toNat)
  case atStart => exact ⟨0, by omega, rfl⟩
  case round =>
    obtain ⟨k, hk, rfl⟩ := hrel
    by_cases hlt : k < ts.length
    · obtain ⟨g, off, rfl, rfl, _, _⟩ := H.out.at (by omega)
      have hc := H.out.cell (List.getElem?_eq_getElem hlt) 0 (by omega)
      simp only [ftCells, List.getElem?_cons_zero, Nat.add_zero] at hc
      have hne : (((ts[k].t : Nat) : Int) == t) = false := by rw [beq_eq_false_iff_ne]; exact HT.out _ (List.getElem_mem hlt)
      go_wp2
      go_round
      case rel => exact ⟨k + 1, by omega, by go_num⟩
      case measure => simp [intOf]; omega
    · go_wp2
      go_ret
      exact ⟨rfl, rfl⟩
set_option maxHeartbeats 2000000 in
theorem fleave_ok (w : World) (F : Nat → Prop) (p : Nat) (ts : List FT) (i : Nat) (x : FT) (t : Int) (h : FairAt w F p ts) (hl : ts.length ≤ 1000) (hx : NumF ts i x t) :
    Calls Try.prog 20 #[.pointer (some ⟨p, 0, none⟩), .int .i64 t] w fun e w' => ∃ F', e = .returned (.int .i64 0) ∧ FairAt w' F' p (ts.eraseIdx i) ∧ Chg F w w' ∧ Grew w.heap.size F F' := by
  obtain ⟨a, c, G, mb, h⟩ := h
  obtain ⟨hx, hxt, ht⟩ := hx
  have hi : i < ts.length := (List.getElem?_eq_some_iff.1 hx).1
  obtain ⟨g, off, rfl, rfl, hg, hne⟩ := h.at (by omega)
  have c0 := h.c0
  have f0 : w.frozen? ⟨p, 0, none⟩ = false := h.blk.frozen 0
  have hc1 := h.sl.1
  have hc2 := h.sl.2.1
  unfold maxLen at hc2
  have H := hid h
  have HT := hid ht
  have HX := hid hx
  have HXT := hid hxt
  have hA : Sl w 45 5 (some ⟨g, off, none⟩) i i ((ts.take i).flatMap ftCells) (some g) := by
    rcases h.sl.cut (m := i) (by omega) with hh | ⟨rfl, _⟩
    · rwa [flat_take ftCells 5 ft_len] at hh
    · obtain ⟨h1, h2, h3, ⟨h4, _⟩ | ⟨g', off', cur, r1, r2, r3, r4, r5⟩⟩ := h.sl
      · omega
      · exact ⟨Nat.le_refl _, Nat.zero_le _, by simp, .inr ⟨g', off', cur, r1, r2, r3, by omega, fun j hj => absurd hj (by omega)⟩⟩
  have hB := h.sl.rd.drop_n (k := i + 1) (by omega)
  rw [flat_drop ftCells 5 ft_len] at hB
  have HA : Hid (Sl w.drew 45 5 (some ⟨g, off, none⟩) i i ((ts.take i).flatMap ftCells) (some g)) := hA
  have HB : Hid (Rd w.drew (Opt (some g)) 5 (adv (some ⟨g, off, none⟩) c (i + 1) 5) (ts.length - (i + 1)) (c - (i + 1)) ((ts.drop (i + 1)).flatMap ftCells)) := hB
  have HAo : Hid (∀ u ∈ (ts.drop (i + 1)).flatMap ftCells, u.oneCell' = true) := flat_one ftCells ft_one _
  have HE := hid (erase_cells ts i hi)
  have HEL := hid (show (ts.eraseIdx i).length = i + (ts.length - (i + 1)) by rw [List.length_eraseIdx_of_lt hi]; omega)
  have hsl := run_from eFTask (some ⟨g, off, none⟩) ts.length c (i + 1) ((i : Int) + 1) (by omega) (by omega)
  have hw1 := IntWalk.i64_in ((i : Int) + 1) (by omega)
  replace hsl := hid hsl
  replace hw1 := hid hw1
  have HNE := hid h.ne
  clear h ht hx hxt hA hB
  go_enter Try.func20, Try.ntmps20
  go_wp2
  go_loop [11] (fun s11 => ∃ k : Nat, k ≤ i ∧ s11 = .int .i64 k) (fun s11 => ts.length - (intOf s11).toNat)
  case atStart => exact ⟨0, by omega, rfl⟩
  case round =>
    obtain ⟨k, hk, rfl⟩ := hrel
    have hlt : k < ts.length := by omega
    by_cases hki : k = i
    · subst hki
      have hc := H.out.cell HX.out 0 (by omega)
      simp only [ftCells, List.getElem?_cons_zero, Nat.add_zero] at hc
      have hne2 : (((x.t : Nat) : Int) == t) = true := by rw [beq_iff_eq]; exact HXT.out
      go_wp2
      have hs1 := hsl.out
      have hs2 := hw1.out
      have hkc : k ≤ c := by omega
      have hsum : k + (ts.length - (k + 1)) ≤ 4294967296 := by omega
      have h40 : 40 ≤ 4096 := by omega
      go_region_law (refine step_append_sl rfl _ _ eFTask rfl rfl rfl HA.out HB.out HAo.out hsum h40 ?_; intro a' c' w1 G' q1 q2 q3; have HB1 : Blk w1 p 50 [.slice (some ⟨g, off, none⟩) ts.length c, .map (some mb)] := H.out.blk.drew.chg q2 HNE.out; have e0 := HB1.cell 0; have g0 := HB1.frozen 0; simp only [List.getElem?_cons_zero] at e0; replace HB1 := hid HB1; replace q1 := hid q1; replace q2 := hid q2; replace q3 := hid q3)
      all_goals
        go_wp2
        go_ret
        have hq1 := q1.out.ne_blk HB1.out (by decide)
        refine ⟨Or2 F (Opt G'), rfl, ⟨a', c', G', mb, ?_, ?_, ?_, .inl H.out.fp, .inl H.out.fm, fun g hg => .inr hg, ?_, H.out.pm, ?_⟩, ?_, ?_⟩
        · have := HB1.out.set 0 (.slice a' (k + (ts.length - (k + 1))) c')
          rw [HEL.out]
          exact this
        · have h1 := q1.out.set_far (p := ⟨p, 0, none⟩) hq1 (.slice a' (k + (ts.length - (k + 1))) c')
          rw [HE.out] at h1
          rw [HEL.out]
          exact h1
        · exact ((H.out.mp.chg ((Chg.refl Nil w).drew) (fun h => h)).chg q2.out (fun hh => H.out.nm hh)).chg ((Chg.refl (One p) w1).setCell (p := ⟨p, 0, none⟩) (.inl (show One p p from rfl)) _) (fun hh => H.out.pm hh)
        · intro hh
          have := H.out.mp.lt
          rcases q3.out with h3 | h3
          · rw [h3] at hh; exact H.out.nm hh
          · rw [h3] at hh; injection hh with hh; simp at hh; omega
        · rintro j (hF | hG)
          · have h1 := H.out.lt j hF; have h2 := q2.out.size; simp at h2 ⊢; omega
          · have := q1.out.lt j hG; simpa using this
        · have h0 : Chg F w w1 := ((Chg.refl F w).drew).trans q2.out (fun j _ h => H.out.fg j h)
          exact h0.setCell (p := ⟨p, 0, none⟩) (.inl H.out.fp) _
        · rintro j (hF | hG)
          · exact .inl hF
          · rcases q3.out with h3 | h3 <;> rw [h3] at hG
            · exact .inl (H.out.fg j hG)
            · injection hG with hG
              simp at hG
              exact .inr (by omega)
    · have hc := H.out.cell (List.getElem?_eq_getElem hlt) 0 (by omega)
      simp only [ftCells, List.getElem?_cons_zero, Nat.add_zero] at hc
      have hne2 : (((ts[k].t : Nat) : Int) == t) = false := by rw [beq_eq_false_iff_ne]; exact HT.out k _ (by omega) (List.getElem?_eq_getElem hlt)
      go_wp2
      go_round
      case rel => exact ⟨k + 1, by omega, by go_num⟩
      case measure => simp [intOf]; omega
end Go.Proofs.Ytpafafleepcjdaa
