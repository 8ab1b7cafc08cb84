/- pipe.Read of the one pipe. Conditions: somebody reads · pipe.Write to the one pipe. Conditions: somebody reads, and somebody writes. -/
import Derived.Test.YtjllklddjkkddaaGreatDoorZ23
import Derived.WalkLawsBesides
import Derived.Test.YtjllklddjkkddaaGreatDoorZ11
namespace Go.Proofs.YtjllklddjkkddaaGreatDoor
open Go.ChangeShapes Go.WideShapes Go.ChangeAt Go.RowKit
set_option linter.unusedVariables false
/-- Nothing is on its way, and somebody writes. -/
theorem piread_wait (w : World) (F : Nat → Prop) (p g : Nat) (s : Int) (h : PiAt w F p g 1 s []) (hs : 0 < s) (n : Nat) (hn0 : 0 < n) (hn : n ≤ 256) :
    Calls Tryz.prog 158 #[.pointer (some ⟨p, 0, none⟩), .int .i64 1, .int .i64 (n : Int)] w fun e w' => e = .returned (.tuple #[.slice none 0 0, .int .i64 9]) ∧ w = w' := by
  have HE := hid (piend_r w F p g 1 s [] h (by omega))
  obtain ⟨a, c, G, h⟩ := h
  have k1 := h.one.cell 1
  have k2 := h.one.cell 2
  simp only [List.getElem?_cons_zero, List.getElem?_cons_succ, List.length_nil] at k1 k2
  have i1 : ¬ (n : Int) < 0 := by omega
  have i2 : ¬ (256 : Int) < (n : Int) := by omega
  have i3 : (0 : Int) < (n : Int) := by omega
  clear h
  go_enter Tryz.func158, Tryz.ntmps158
  go_wp2_with (go_at_call 220; refine HE.out.mono ?_; rintro e w' ⟨rfl, rfl⟩)
  go_ret2
  exact ⟨rfl, rfl⟩
set_option maxRecDepth 100000 in
set_option maxHeartbeats 2000000 in
/-- Some is read: as much as there is, up to n. -/
theorem piread_ok (w : World) (F : Nat → Prop) (p g : Nat) (s : Int) (bs : List Int) (h : PiAt w F p g 1 s bs) (n : Nat) (hn : n ≤ 256) (hw : n = 0 ∨ bs ≠ [] ∨ s = 0) :
    Calls Tryz.prog 158 #[.pointer (some ⟨p, 0, none⟩), .int .i64 1, .int .i64 (n : Int)] w fun e w' => ∃ a c G F', e = .returned (.tuple #[.slice a (min n bs.length) c, .int .i64 0]) ∧ Sl w' 5 1 a (min n bs.length) c (bys (bs.take n)) G ∧ PiAt w' F' p g 1 s (bs.drop n) ∧ Chg F w w' ∧ Grew w.heap.size F F' := by
  have HE := hid (piend_r w F p g 1 s bs h (by omega))
  obtain ⟨a, c, G, h⟩ := h
  have k1 := h.one.cell 1
  have k2 := h.one.cell 2
  simp only [List.getElem?_cons_zero, List.getElem?_cons_succ] at k1 k2
  have i1 : ¬ (n : Int) < 0 := by omega
  have i2 : ¬ (256 : Int) < (n : Int) := by omega
  have hroom := h.room
  have H := hid h
  obtain ⟨L, hL⟩ : ∃ L, L = bs.length := ⟨_, rfl⟩
  rw [← hL] at k2 hroom
  obtain ⟨m, hm⟩ : ∃ m, m = min n bs.length := ⟨_, rfl⟩
  rw [← hm]
  have hmin : min (n : Int) (L : Int) = (m : Int) := by rw [hm, ← hL]; omega
  have hcond : (¬ 0 < (n : Int)) ∨ (0 < (n : Int) ∧ ((L : Int) == 0) = false) ∨ (0 < (n : Int) ∧ ((L : Int) == 0) = true ∧ ¬ 0 < s) := by
    rcases hw with h1 | h1 | h1
    · exact .inl (by omega)
    · have : bs.length ≠ 0 := fun hh => h1 (List.eq_nil_of_length_eq_zero hh)
      by_cases h0 : 0 < (n : Int)
      · exact .inr (.inl ⟨h0, by rw [beq_eq_false_iff_ne]; omega⟩)
      · exact .inl h0
    · by_cases h0 : 0 < (n : Int)
      · by_cases h2 : L = 0
        · exact .inr (.inr ⟨h0, by rw [beq_iff_eq]; omega, by omega⟩)
        · exact .inr (.inl ⟨h0, by rw [beq_eq_false_iff_ne]; omega⟩)
      · exact .inl h0
  have hcap : L ≤ c := by rw [hL]; exact h.sl.1
  have hmL : m ≤ L := by rw [hm, hL]; exact Nat.min_le_right _ _
  have hmc : (m : Int) ≤ (c : Int) := by omega
  have R1 := (h.sl.init (m := m) (by omega)).rd
  have R2 := h.sl.rd.drop_n (k := m) (by omega)
  have e1 : (bys bs).take (m * 1) = bys (bs.take n) := by
    rw [Nat.mul_one, hm]
    show List.take _ (List.map _ _) = List.map _ _
    rw [← List.map_take]
    congr 1
    rw [List.take_eq_take_iff]
    omega
  have e2 : (bys bs).drop (m * 1) = bys (bs.drop n) := by
    rw [Nat.mul_one, hm]
    show List.drop _ (List.map _ _) = List.map _ _
    rw [← List.map_drop]
    congr 1
    by_cases hnl : n ≤ bs.length
    · rw [Nat.min_eq_left hnl]
    · rw [Nat.min_eq_right (by omega), List.drop_of_length_le (Nat.le_refl _), List.drop_of_length_le (by omega)]
  rw [e1] at R1
  rw [← hL, e2] at R2
  have hsl := run_from (P := Tryz.prog) eU8 a L c m (m : Int) rfl hmL
  have hl2 : L - m = (bs.drop n).length := by rw [List.length_drop, hm, ← hL]; omega
  replace R1 := hid R1
  replace R2 := hid R2
  replace hl2 := hid hl2
  replace hL := hid hL
  replace hm := hid hm
  have hg := h.lt g h.fg
  clear h hw e1 e2
  rcases hcond with i3 | ⟨i3, i4⟩ | ⟨i3, i4, i5⟩
  all_goals
    go_enter Tryz.func158, Tryz.ntmps158
    go_wp2_with (go_at_call 220; refine HE.out.mono ?_; rintro e w' ⟨rfl, rfl⟩)
    refine (clone_u8 _ _ _ _ _ w R1.out (ints_one _ _) (by omega)).mono ?_
    rintro e w1 ⟨a1, c1, G1, rfl, s1, d1, g1⟩
    have k2' := (d1.cell (a := ⟨g, 2, none⟩) hg (fun h => h)).trans k2
    have R3 := hid (R2.out.chg d1 (fun _ _ _ h => h))
    replace s1 := hid s1
    replace d1 := hid d1
    replace g1 := hid g1
    go_wp2_with fail
    refine (clone_u8 _ _ _ _ _ w1 R3.out (ints_one _ _) (by omega)).mono ?_
    rintro e w2 ⟨a2, c2, G2, rfl, s2, d2, g2⟩
    have D := hid (d1.out.trans d2 (fun _ _ h => h))
    have B2 := H.out.one.chg D.out (fun h => h)
    have j2 := B2.cell 2
    have f2 := B2.frozen 2
    simp only [List.getElem?_cons_zero, List.getElem?_cons_succ] at j2
    replace B2 := hid B2
    replace s2 := hid s2
    replace d2 := hid d2
    replace g2 := hid g2
    clear k2 k2' R3 hsl
    go_wp2
    go_ret2
    have hN := hl2.out
    have gf : ∀ k, G2 = some k → w.heap.size ≤ k := fun k hk => by have := g2.out k hk; have := d1.out.size; omega
    have A2 := H.out.chg D.out (fun _ _ h => h)
    have hs2 : Chg (One g) w2 (w2.setCell ⟨g, 2, none⟩ (.slice a2 (L - m) c2)) := (Chg.refl (One g) w2).setCell (p := ⟨g, 2, none⟩) (.inl (show One g g from rfl)) _
    have gp : g ≠ p := fun hh => A2.one.ne A2.blk (by decide) hh
    refine ⟨a1, c1, G1, Or2 F (Opt G2), ?_, ?_, ⟨a2, c2, G2, ?_, ?_, ?_, ?_, .inl H.out.fp, .inl H.out.fg, fun k hk => .inr hk, ?_⟩, (D.out.mono (fun _ _ h => h.elim)).trans hs2 (fun k _ hk => by rw [show k = g from hk]; exact H.out.fg), fun k hk => ?_⟩
    · rfl
    · exact (s1.out.chg d2.out (fun _ _ h => h)).set_far (p := ⟨g, 2, none⟩) (fun hh => by have := g1.out g hh; omega) _
    · exact A2.blk.far (p := ⟨g, 2, none⟩) (fun hh => gp hh.symm) _
    · rw [← hN]
      exact B2.out.set 2 _
    · rw [← hN]
      exact s2.out.set_far (p := ⟨g, 2, none⟩) (fun hh => by have := gf g hh; omega) _
    · rw [← hN]; omega
    · rintro k (hk | hk)
      · have := H.out.lt k hk
        have := D.out.size
        have := hs2.size
        omega
      · have := s2.out.lt k hk
        have := hs2.size
        omega
    · rcases hk with hk | hk
      · exact .inl hk
      · exact .inr (gf k hk)
end Go.Proofs.YtjllklddjkkddaaGreatDoor
namespace Go.Proofs.YtjllklddjkkddaaGreatDoor
open Go.ChangeShapes Go.WideShapes Go.ChangeAt Go.RowKit
set_option linter.unusedVariables false
/-- There is no room. -/
theorem piwrite_wait (w : World) (F : Nat → Prop) (p g : Nat) (bs : List Int) (h : PiAt w F p g 1 1 bs) (hb : bs.length = 64) (b : Option Addr) (d bc : Nat) (hd0 : 0 < d) (hd : d ≤ 256) :
    Calls Tryz.prog 160 #[.pointer (some ⟨p, 0, none⟩), .int .i64 1, .slice b d bc] w fun e w' => e = .returned (.tuple #[.int .i64 0, .int .i64 9]) ∧ w = w' := by
  have HE := hid (piend_s w F p g 1 1 bs h (by omega))
  obtain ⟨a, c, G, h⟩ := h
  have k0 := h.one.cell 0
  have k2 := h.one.cell 2
  simp only [List.getElem?_cons_zero, List.getElem?_cons_succ, hb] at k0 k2
  have i1 : ¬ (256 : Int) < (d : Int) := by omega
  have i2 : (0 : Int) < (d : Int) := by omega
  clear h
  go_enter Tryz.func160, Tryz.ntmps160
  go_wp2_with (go_at_call 220; refine HE.out.mono ?_; rintro e w' ⟨rfl, rfl⟩)
  go_ret2
  exact ⟨rfl, rfl⟩
set_option maxRecDepth 100000 in
set_option maxHeartbeats 2000000 in
theorem piwrite_ok (w : World) (F : Nat → Prop) (p g : Nat) (bs : List Int) (h : PiAt w F p g 1 1 bs) (R : Nat → Prop) (b : Option Addr) (d bc : Nat) (ds : List Int) (hds : Rd w R 1 b d bc (bys ds)) (hd : d ≤ 256) (hw : d = 0 ∨ bs.length < 64) :
    Calls Tryz.prog 160 #[.pointer (some ⟨p, 0, none⟩), .int .i64 1, .slice b d bc] w fun e w' => e = .returned (.tuple #[.int .i64 ((min d (64 - bs.length) : Nat) : Int), .int .i64 0]) ∧ ∃ F', PiAt w' F' p g 1 1 (bs ++ ds.take (min d (64 - bs.length))) ∧ Chg F w w' ∧ Grew w.heap.size F F' := by
  have HE := hid (piend_s w F p g 1 1 bs h (by omega))
  obtain ⟨a, c, G, h⟩ := h
  have k0 := h.one.cell 0
  have k2 := h.one.cell 2
  simp only [List.getElem?_cons_zero, List.getElem?_cons_succ] at k0 k2
  have i1 : ¬ (256 : Int) < (d : Int) := by omega
  have hroom := h.room
  have H := hid h
  obtain ⟨L, hL⟩ : ∃ L, L = bs.length := ⟨_, rfl⟩
  obtain ⟨m, hm⟩ : ∃ m, m = min d (64 - bs.length) := ⟨_, rfl⟩
  rw [← hm]
  rw [← hL] at k2 hroom
  have hmin : min (d : Int) (64 - (L : Int)) = (m : Int) := by rw [hm, ← hL]; omega
  have hmd : m ≤ d := by rw [hm]; exact Nat.min_le_left _ _
  have hmL : L + m ≤ 64 := by rw [hm, hL]; omega
  have hdc : d ≤ bc := hds.1
  have hmc : (m : Int) ≤ (bc : Int) := by omega
  have R1 := hds.take_n hmd
  rw [Nat.mul_one, show (bys ds).take m = bys (ds.take m) by show List.take _ (List.map _ _) = List.map _ _; rw [← List.map_take]] at R1
  have S1 := h.sl
  rw [← hL] at S1
  have hg := h.lt g h.fg
  have hnG := h.sl.ne_blk h.one (by decide)
  have hcond : (¬ 0 < (d : Int)) ∨ (0 < (d : Int) ∧ ((L : Int) == 64) = false) := by
    by_cases h0 : 0 < (d : Int)
    · rcases hw with h1 | h1
      · omega
      · exact .inr ⟨h0, by rw [beq_eq_false_iff_ne]; omega⟩
    · exact .inl h0
  have f2 := h.one.frozen 2
  replace R1 := hid (R1.drewN 1)
  replace S1 := hid (S1.drewN 1)
  replace hL := hid hL
  replace hm := hid hm
  replace hnG := hid hnG
  clear h hw hds
  rcases hcond with i3 | ⟨i3, i4⟩
  all_goals
    go_enter Tryz.func160, Tryz.ntmps160
    go_wp2_with (go_at_call 220; refine HE.out.mono ?_; rintro e w' ⟨rfl, rfl⟩)
    go_region_law
      (refine step_append_sl rfl _ _ eU8 rfl rfl rfl S1.out R1.out (ints_one _ _) (by omega) (by omega) ?_; intro a2 c2 w2 G2 q1 q2 q3; have j2 := (q2.cell (a := ⟨g, 2, none⟩) hg (fun h => hnG.out h)).trans k2; have B2 := hid (H.out.one.drew.chg q2 (fun h => hnG.out h)); have f2' := B2.out.frozen 2; replace q1 := hid q1; replace q2 := hid q2; replace q3 := hid q3)
    all_goals
      have C2 : Chg (Opt G) w w2 := (((Chg.refl (Opt G) w).drew).trans q2.out (fun _ _ h => h))
      have A2p := H.out.blk.chg C2 (fun hh => H.out.sl.ne_blk H.out.blk (by decide) hh)
      have gp : g ≠ p := fun hh => H.out.one.ne H.out.blk (by decide) hh
      have hs2 : Chg (One g) w2 (w2.setCell ⟨g, 2, none⟩ (.slice a2 (L + m) c2)) := (Chg.refl (One g) w2).setCell (p := ⟨g, 2, none⟩) (.inl (show One g g from rfl)) _
      have hlen : L + m = (bs ++ ds.take m).length := by
        have := R1.out.ilen
        rw [List.length_append, ← hL.out, this]
      have FIN : Hid (PiAt (w2.setCell ⟨g, 2, none⟩ (.slice a2 (L + m) c2)) (Or2 F (Opt G2)) p g 1 1 (bs ++ ds.take m) ∧ Chg F w (w2.setCell ⟨g, 2, none⟩ (.slice a2 (L + m) c2)) ∧ Grew w.heap.size F (Or2 F (Opt G2))) := by
        refine hid ⟨⟨a2, c2, G2, A2p.far (p := ⟨g, 2, none⟩) (fun hh => gp hh.symm) _, ?_, ?_, by omega, .inl H.out.fp, .inl H.out.fg, fun k hk => .inr hk, ?_⟩, (C2.mono (fun k _ hk => H.out.fs k hk)).trans hs2 (fun k _ hk => by rw [show k = g from hk]; exact H.out.fg), fun k hk => ?_⟩
        · rw [← hlen]
          exact B2.out.set 2 _
        · rw [← hlen, ← bys_append]
          exact q1.out.set_far (p := ⟨g, 2, none⟩) (q1.out.ne_blk B2.out (by decide)) _
        · rintro k (hk | hk)
          · have := H.out.lt k hk
            have := C2.size
            have := hs2.size
            omega
          · have := q1.out.lt k hk
            have := hs2.size
            omega
        · rcases hk with hk | hk
          · exact .inl hk
          · rcases q3.out with h3 | h3
            · exact .inl (H.out.fs k (by rw [← h3]; exact hk))
            · have h4 : some w.drew.heap.size = some k := by rw [← h3]; exact hk
              injection h4 with h4
              exact .inr (Nat.le_of_eq h4)
      clear j2 f2' f2 k2 k0 C2 A2p hs2 hlen
      go_wp2
      go_ret2
      exact ⟨rfl, _, FIN.out⟩
end Go.Proofs.YtjllklddjkkddaaGreatDoor
