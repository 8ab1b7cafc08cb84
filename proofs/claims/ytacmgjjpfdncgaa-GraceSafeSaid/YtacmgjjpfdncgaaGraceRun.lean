/- Contracts of Run and Reads of the readers, and of graceBegun. Conditions: at most 256 calls wait. -/
import Derived.Test.YtacmgjjpfdncgaaGrace
namespace Go.Proofs.Ytacmgjjpfdncgaa
open Go.ChangeShapes Go.WideShapes Go.ChangeAt Go.RowKit
set_option linter.unusedVariables false
/-- The numbers of the calls that may be done. -/
def doneIds (dp tn : Nat → Int) (l : List GCall) : List Int := (l.filter (ovr dp tn)).map GCall.id
/-- The calls that wait still. -/
def leftOf (dp tn : Nat → Int) (l : List GCall) : List GCall := l.filter (fun x => !ovr dp tn x)
theorem sl_ne {w : World} {e e' : TypeId} {s s' n n' c c' : Nat} {a a' : Option Addr} {xs xs' : List Value} {G G' : Option Nat} (h : Sl w e s a n c xs G) (h' : Sl w e' s' a' n' c' xs' G') (hne : e ≠ e') : ∀ g, G = some g → G' ≠ some g := by
  intro g hg hg'
  obtain ⟨_, _, _, ⟨_, h4⟩ | ⟨g1, off, cur, _, r2, r3, _⟩⟩ := h
  · rw [h4] at hg; cases hg
  · obtain ⟨_, _, _, ⟨_, h4⟩ | ⟨g2, off2, cur2, _, s2, s3, _⟩⟩ := h'
    · rw [h4] at hg'; cases hg'
    · rw [hg] at r2; rw [hg'] at s2
      injection r2 with r2; injection s2 with s2
      subst r2; subst s2
      rw [r3] at s3
      injection s3 with s3
      injection s3 with _ ht
      exact hne ht
theorem done_snoc (dp tn : Nat → Int) (m : List GCall) (x : GCall) (b : Bool) (hb : ovr dp tn x = b) :
    doneIds dp tn (m ++ [x]) = (if b then doneIds dp tn m ++ [x.id] else doneIds dp tn m) ∧ leftOf dp tn (m ++ [x]) = (if b then leftOf dp tn m else leftOf dp tn m ++ [x]) := by
  unfold doneIds leftOf
  cases b <;> simp [hb]
/-- What holds ahead of each round of Run. -/
def RunInv (w0 : World) (F : Nat → Prop) (p : Nat) (dp tn : Nat → Int) (l : List GCall) (k : Nat) (outs : List Int) (lefts : List GCall) (a3 a4 : Option Addr) (c3 c4 : Nat) (w : World) : Prop :=
  ∃ G3 G4, Chg Nil w0 w ∧ Sl w 3 1 a3 outs.length c3 (ints .i64 outs) G3 ∧ Sl w 86 5 a4 lefts.length c4 (lefts.flatMap gcCells) G4 ∧ outs = doneIds dp tn (l.take k) ∧ lefts = leftOf dp tn (l.take k) ∧ (∀ g, G3 = some g → w0.heap.size ≤ g) ∧ ∀ g, G4 = some g → w0.heap.size ≤ g
set_option maxHeartbeats 1000000 in
theorem run_any (w : World) (F : Nat → Prop) (p : Nat) (dp tn : Nat → Int) (l : List GCall) (h : GrAt w F p dp tn l) (hl : l.length ≤ 256) :
    Calls Try.prog 33 #[.pointer (some ⟨p, 0, none⟩)] w fun e w' => ∃ F' a c G, e = .returned (.slice a (doneIds dp tn l).length c) ∧ Sl w' 3 1 a (doneIds dp tn l).length c (ints .i64 (doneIds dp tn l)) G ∧ GrAt w' F' p dp tn (leftOf dp tn l) ∧ Chg F w w' ∧ Grew w.heap.size F F' ∧ ∀ g, G = some g → w.heap.size ≤ g ∧ ¬ F' g := by
  have H := hid h
  obtain ⟨a, c, G, hb, hs, h3, h4, h5, h6⟩ := h
  have d8 : w.cell? ⟨p, 8, none⟩ = some (.slice a l.length c) := hb.cell 8
  have HS := hid hs
  have HB := hid hb
  have H6 := hid h6
  clear hb hs h6
  go_enter Try.func33, Try.ntmps33
  go_wp2
  go_loopw [3, 4, 12] (fun s3 s4 s12 wr => ∃ (k : Nat) (outs : List Int) (lefts : List GCall) (a3 a4 : Option Addr) (c3 c4 : Nat), k ≤ l.length ∧ outs.length ≤ k ∧ lefts.length ≤ k ∧ s12 = .int .i64 k ∧ s3 = .slice a3 outs.length c3 ∧ s4 = .slice a4 lefts.length c4 ∧
    Hid (RunInv w F p dp tn l k outs lefts a3 a4 c3 c4 wr)) (fun _ _ s12 _ => l.length - (intOf s12).toNat)
  case atStart => exact ⟨0, [], [], none, none, 0, 0, by omega, by simp, by simp, rfl, rfl, rfl, none, none, Chg.refl _ _, Sl.empty _ _ _ _, Sl.empty _ _ _ _, rfl, rfl, (fun g h => by cases h), (fun g h => by cases h)⟩
  case round =>
    obtain ⟨k, outs, lefts, a3, a4, c3, c4, hk, ho, hlf, rfl, rfl, rfl, hJ⟩ := hrel
    obtain ⟨G3, G4, j1, j2, j3, j4, j5, j6, j7⟩ := id hJ.out
    by_cases hlt : k < l.length
    · obtain ⟨g, off, rfl, hg1, hg2, hc⟩ := (HS.out.chg j1 (fun _ _ h => h)).rd.elem gc_len rfl (by omega)
      have e0 := hc k hlt 0 (by omega)
      have e1 := hc k hlt 1 (by omega)
      have e2 := hc k hlt 2 (by omega)
      have e3 := hc k hlt 3 (by omega)
      have e4 := hc k hlt 4 (by omega)
      clear hc
      simp only [gcCells, List.getElem?_cons_succ, List.getElem?_cons_zero, Nat.add_zero] at e0 e1 e2 e3 e4
      have GW := hid ((H.out.chg j1 (fun _ _ h => h)).chg ((Chg.refl Nil wr).alloc (.cells #[.int .i64 l[k].id, .int .i64 (l[k].wt 0), .int .i64 (l[k].wt 1), .int .i64 (l[k].wt 2), .int .i64 (l[k].wt 3)] 86)) (fun _ _ h => h))
      have NB := hid (Blk.new wr 86 (gcCells l[k]))
      replace j1 := hid j1
      replace j4 := hid j4
      replace j5 := hid j5
      replace j6 := hid j6
      replace j7 := hid j7
      have HD := hid (sl_ne j2 j3 (by decide))
      have HD' := hid (sl_ne j3 j2 (by decide))
      have hdone : ∀ b, ovr dp tn l[k] = b → doneIds dp tn (l.take (k + 1)) = (if b then doneIds dp tn (l.take k) ++ [l[k].id] else doneIds dp tn (l.take k)) ∧ leftOf dp tn (l.take (k + 1)) = (if b then leftOf dp tn (l.take k) else leftOf dp tn (l.take k) ++ [l[k]]) := by
        intro b hb
        rw [List.take_succ_eq_append_getElem hlt]
        exact done_snoc dp tn (l.take k) l[k] b hb
      cases hov : ovr dp tn l[k] with
      | true =>
        have hdn := hid (hdone true hov)
        clear hdone
        have OVER : True := trivial
        go_wp2_with (first | (go_at_call 45; refine (over_any _ F p dp tn l l[k] GW.out).mono ?_; rw [hov]; rintro e w1 ⟨rfl, q1⟩; have nb := NB.out.chg q1 (fun h => h); have n0 := nb.cell 0; simp only [gcCells, List.getElem?_cons_zero] at n0; replace nb := hid nb; have HS1 := hid (((j2.alloc (.cells #[.int .i64 l[k].id, .int .i64 (l[k].wt 0), .int .i64 (l[k].wt 1), .int .i64 (l[k].wt 2), .int .i64 (l[k].wt 3)] 86)).chg q1 (fun _ _ h => h)).alloc (.cells #[.int .i64 l[k].id] 3)); have HN1 := hid (Rd.of_blk (n := 1) (s := 1) (Blk.new w1 3 (ints .i64 [l[k].id])) rfl (by decide))) | (at_builtin; refine wpList_append_sl (o := ⟨some 23, _, _, _, _, _⟩) rfl _ _ eInt rfl rfl rfl HS1.out HN1.out (ints_one _ _) (by omega) (by omega) ?_; intro a' c' w2 G' y1 y2 y3; replace y3 := hid y3))
        go_roundw
        case rel =>
          have hw1 : Chg Nil w w1 := (j1.out.alloc _).trans q1 (fun _ _ h => h)
          have hw2 : Chg Nil w w2 := hw1.trans (push_chg y2) (fun i hi hG => by have := j6.out i hG; omega)
          refine ⟨k + 1, outs ++ [l[k].id], lefts, a', a4, c', c4, by omega, by simp; omega, by omega, by go_num, by simp, rfl, G', G4, hw2, sl_push rfl y1, ?_, ?_, ?_, ?_, j7.out⟩
          · exact ((j3.alloc _).chg q1 (fun _ _ h => h)).chg (push_chg y2) (fun g hg hG => HD.out g hG hg)
          · rw [hdn.out.1, ← j4.out]; rfl
          · rw [hdn.out.2, ← j5.out]; rfl
          · intro g hg
            rcases push_grew y3.out g hg with h | h
            · exact j6.out g h
            · have := hw1.size; omega
        case measure => simp [intOf]; omega
      | false =>
        have hdn := hid (hdone false hov)
        clear hdone
        go_wp2_with (first | (go_at_call 45; refine (over_any _ F p dp tn l l[k] GW.out).mono ?_; rw [hov]; rintro e w1 ⟨rfl, q1⟩; have nb := NB.out.chg q1 (fun h => h); have n0 := nb.cell 0; have n1 := nb.cell 1; have n2 := nb.cell 2; have n3 := nb.cell 3; have n4 := nb.cell 4; simp only [gcCells, List.getElem?_cons_zero, List.getElem?_cons_succ] at n0 n1 n2 n3 n4; replace nb := hid nb; have HS1 := hid (((j3.alloc (.cells #[.int .i64 l[k].id, .int .i64 (l[k].wt 0), .int .i64 (l[k].wt 1), .int .i64 (l[k].wt 2), .int .i64 (l[k].wt 3)] 86)).chg q1 (fun _ _ h => h)).alloc (.cells #[.int .i64 l[k].id, .int .i64 (l[k].wt 0), .int .i64 (l[k].wt 1), .int .i64 (l[k].wt 2), .int .i64 (l[k].wt 3)] 86)); have HN1 := hid (Rd.of_blk (n := 1) (s := 5) (Blk.new w1 86 (gcCells l[k])) rfl (by decide))) | (at_builtin; refine wpList_append_sl (o := ⟨some 27, _, _, _, _, _⟩) rfl _ _ eCall rfl rfl rfl HS1.out HN1.out (gc_one _) (by omega) (by omega) ?_; intro a' c' w2 G' y1 y2 y3; replace y3 := hid y3))
        go_roundw
        case rel =>
          have hw1 : Chg Nil w w1 := (j1.out.alloc _).trans q1 (fun _ _ h => h)
          have hw2 : Chg Nil w w2 := hw1.trans (push_chg y2) (fun i hi hG => by have := j7.out i hG; omega)
          refine ⟨k + 1, outs, lefts ++ [l[k]], a3, a', c3, c', by omega, by omega, by simp; omega, by go_num, rfl, by simp, G3, G', hw2, ?_, ?_, ?_, ?_, j6.out, ?_⟩
          · exact ((j2.alloc _).chg q1 (fun _ _ h => h)).chg (push_chg y2) (fun g hg hG => HD'.out g hG hg)
          · have : lefts.flatMap gcCells ++ gcCells l[k] = (lefts ++ [l[k]]).flatMap gcCells := by simp
            rw [this] at y1
            simpa using y1
          · rw [hdn.out.1, ← j4.out]; rfl
          · rw [hdn.out.2, ← j5.out]; rfl
          · intro g hg
            rcases push_grew y3.out g hg with h | h
            · exact j7.out g h
            · have := hw1.size; omega
        case measure => simp [intOf]; omega
    · have B1 := HB.out.chg j1 (fun h => h)
      have u8 : wr.cell? ⟨p, 8, none⟩ = some (.slice a l.length c) := B1.cell 8
      have f8 := B1.frozen 8
      replace B1 := hid B1
      rw [List.take_of_length_le (by omega)] at j4 j5
      subst j4
      subst j5
      have HD := hid (sl_ne j2 j3 (by decide))
      replace j6 := hid j6
      replace j7 := hid j7
      go_wp2
      go_ret
      have n3 := j2.ne_blk B1.out (by decide)
      have n4 := j3.ne_blk B1.out (by decide)
      refine ⟨Or2 F (Opt G4), a3, c3, G3, rfl, j2.set_far (p := ⟨p, 8, none⟩) n3 _, ⟨a4, c4, G4, ?_, j3.set_far (p := ⟨p, 8, none⟩) n4 _, .inl h3, fun g hg => .inr hg, ?_, H6.out⟩, ?_, ?_, ?_⟩
      · have := B1.out.set 8 (.slice a4 (leftOf dp tn l).length c4)
        simpa [grCells] using this
      · rintro k (hF | hG)
        · have h1 := h5 k hF; have h2 := j1.size; simp; omega
        · have := j3.lt k hG; simpa using this
      · exact (j1.mono (G := F) (fun _ _ h => h.elim)).setCell (p := ⟨p, 8, none⟩) (.inl h3) _
      · rintro k (hF | hG)
        · exact .inl hF
        · exact .inr (j7.out k hG)
      · intro g hg
        refine ⟨j6.out g hg, ?_⟩
        rintro (hF | hG)
        · have := h5 g hF; have := j6.out g hg; omega
        · exact HD.out g hg hG
theorem reads_any (w : World) (F : Nat → Prop) (p : Nat) (dp tn : Nat → Int) (l : List GCall) (h : GrAt w F p dp tn l) (hl : l.length ≤ 256) :
    Calls Try.prog 37 #[.pointer (some ⟨p, 0, none⟩)] w fun e w' => ∃ m : Int, e = .returned (.tuple #[.int .i64 m, .int .i64 l.length]) ∧ ((∀ i, i < 4 → dp i = 0) → m = 0) ∧ ∃ k, w' = w.drewN k := by
  obtain ⟨a, c, G, hb, hs, h3, h4, h5, h6⟩ := h
  have d8 : w.cell? ⟨p, 8, none⟩ = some (.slice a l.length c) := hb.cell 8
  have HB := hid hb
  clear hb hs h4 h5 h6
  go_enter Try.func37, Try.ntmps37
  go_wp2
  go_loop [4, 6] (fun s4 s6 => ∃ (i : Nat) (m : Int), i ≤ 4 ∧ s6 = .int .i64 i ∧ s4 = .int .i64 m ∧ Hid ((∀ i, i < 4 → dp i = 0) → m = 0)) (fun _ s6 => 4 - (intOf s6).toNat)
  case atStart => exact ⟨0, 0, by omega, rfl, rfl, fun _ => rfl⟩
  case round =>
    obtain ⟨i, m, hi, rfl, rfl, hm⟩ := hrel
    by_cases hi4 : i < 4
    · have e0 := HB.out.cell i
      rw [gr_dp _ _ _ hi4] at e0
      have i1 : (i : Int) < 4 := by omega
      by_cases hd : 0 < dp i
      · have hno := hid (show ¬ ∀ i, i < 4 → dp i = 0 from fun h => by have := h i hi4; omega)
        go_wp2
        go_round
        case rel => exact ⟨i + 1, _, by omega, by go_num, rfl, fun h => absurd h hno.out⟩
        case measure => simp [intOf]; omega
      · go_wp2
        go_round
        case rel => exact ⟨i + 1, m, by omega, by go_num, rfl, hm⟩
        case measure => simp [intOf]; omega
    · go_wp2
      go_quiet (fail)
      go_wp2
      go_ret2
      exact ⟨m, rfl, hm.out, _, rfl⟩
theorem blk1_self (dp tn : Nat → Int) (t : Int) (i : Nat) (h1 : 0 < dp i) (h2 : 0 < tn i) : blk1 dp tn ⟨t, waitsFor dp tn⟩ i = true := by
  unfold blk1 waitsFor
  simp [h1, h2]
theorem blk1_wt0 (dp tn : Nat → Int) (x : GCall) (i : Nat) (h : x.wt i = 0) : blk1 dp tn x i = false := by
  unfold blk1
  rw [h]
  simp
theorem blk1_dp0 (dp tn : Nat → Int) (x : GCall) (i : Nat) (h : dp i = 0) : blk1 dp tn x i = false := by
  unfold blk1
  rw [h]
  simp
theorem waits_dp0 (dp tn : Nat → Int) (i : Nat) (h : dp i = 0) : waitsFor dp tn i = 0 := by unfold waitsFor; rw [h]; simp
theorem ovr_idle (dp tn : Nat → Int) (x : GCall) (h : ∀ i, i < 4 → dp i = 0) : ovr dp tn x = true := by
  unfold ovr
  rw [blk1_dp0 _ _ _ 0 (h 0 (by omega)), blk1_dp0 _ _ _ 1 (h 1 (by omega)), blk1_dp0 _ _ _ 2 (h 2 (by omega)), blk1_dp0 _ _ _ 3 (h 3 (by omega))]
  rfl
theorem ovr_blk {dp tn : Nat → Int} {x : GCall} {i : Nat} (hi : i < 4) (h : blk1 dp tn x i = true) : ovr dp tn x = false := by
  unfold ovr
  rcases i with _ | _ | _ | _ | i
  all_goals first | omega | simp [h]
theorem done_idle (dp tn : Nat → Int) (l : List GCall) (h : ∀ i, i < 4 → dp i = 0) : doneIds dp tn l = l.map GCall.id ∧ leftOf dp tn l = [] := by
  unfold doneIds leftOf
  constructor
  · rw [List.filter_eq_self.2 (fun x _ => ovr_idle dp tn x h)]
  · rw [List.filter_eq_nil_iff]
    intro x _
    rw [ovr_idle dp tn x h]
    simp
theorem done_none (dp tn : Nat → Int) (l : List GCall) (h : ∀ x ∈ l, ovr dp tn x = false) : doneIds dp tn l = [] ∧ leftOf dp tn l = l := by
  unfold doneIds leftOf
  constructor
  · rw [List.filter_eq_nil_iff.2 (fun x hx => by rw [h x hx]; simp)]; rfl
  · rw [List.filter_eq_self]
    intro x hx
    rw [h x hx]; rfl
theorem graceBegun_ok (w : World) : Calls Try.prog 30 #[] w fun e w' => e = .returned (.bool true) ∧ Chg Nil w w' := by
  go_enter Try.func30, Try.ntmps30
  go_wp2_with fail
  refine (newGrace_ok _).mono ?_
  rintro e w1 ⟨F1, p, rfl, s1, c1, g1⟩
  go_wp2_with fail
  refine (enter_ok _ F1 p 1 _ _ _ s1 (by omega) (by simp) (by simp)).mono ?_
  rintro e w2 ⟨rfl, s2, c2⟩
  go_wp2_with fail
  refine (gcall_ok _ F1 p _ _ _ 7 s2 (by simp) rfl).mono ?_
  rintro e w3 ⟨F3, rfl, s3, c3, g3⟩
  have v1 : doneIds (enterD (fun _ => 0) 1) (enterT (fun _ => 0) (fun _ => 0) 1) ([] ++ [⟨7, waitsFor (enterD (fun _ => 0) 1) (enterT (fun _ => 0) (fun _ => 0) 1)⟩]) = [] := by rfl
  have v2 : leftOf (enterD (fun _ => 0) 1) (enterT (fun _ => 0) (fun _ => 0) 1) ([] ++ [⟨7, waitsFor (enterD (fun _ => 0) 1) (enterT (fun _ => 0) (fun _ => 0) 1)⟩]) = [⟨7, waitsFor (enterD (fun _ => 0) 1) (enterT (fun _ => 0) (fun _ => 0) 1)⟩] := by rfl
  go_wp2_with fail
  refine (run_any _ F3 p _ _ _ s3 (by simp)).mono ?_
  rw [v1, v2]
  rintro e w4 ⟨F4, a4, c4, G4, rfl, y4, s4, d4, g4, z4⟩
  clear v1 v2
  replace z4 := hid z4
  go_wp2_with fail
  refine (leave_ok _ F4 p 1 _ _ _ s4 (by omega) (by decide)).mono ?_
  rintro e w5 ⟨rfl, s5, d5⟩
  have v3 : doneIds (upI (enterD (fun _ => 0) 1) 1 (enterD (fun _ => 0) 1 1 - 1)) (enterT (fun _ => 0) (fun _ => 0) 1) [⟨7, waitsFor (enterD (fun _ => 0) 1) (enterT (fun _ => 0) (fun _ => 0) 1)⟩] = [7] := by rfl
  go_wp2_with fail
  refine (run_any _ F4 p _ _ _ s5 (by simp)).mono ?_
  rw [v3]
  rintro e w6 ⟨F6, a6, c6, G6, rfl, y6, s6, d6, g6, z6⟩
  clear v3
  replace z6 := hid z6
  have he : eqI [7] [7] = true := by decide
  have HN := hid (Rd.of_blk (n := 1) (s := 1) (Blk.new w6 3 (ints .i64 [(7 : Int)])) rfl (by decide))
  have HY := hid (y6.rd.alloc (.cells #[.int .i64 7] 3))
  go_wp2_with fail
  refine (equal_int _ _ _ _ _ _ _ _ _ _ _ HY.out HN.out (by simp) (by simp)).mono ?_
  rw [he]
  rintro e w7 ⟨rfl, kq, rfl⟩
  go_wp2
  go_ret
  refine ⟨rfl, ?_⟩
  have f1 : ∀ k, F1 k → w.heap.size ≤ k := grew_ge g1 (fun _ h => h.elim) (Nat.le_refl _)
  have x1 := below_nil (Below.refl _ w) c1
  have fp : ∀ k, One p k → w.heap.size ≤ k := fun k hk => by
    rw [show k = p from hk]
    obtain ⟨_, _, _, _, _, h3, _⟩ := s1
    exact f1 p h3
  have x2 := below_chg x1 c2 fp
  have x3 := below_chg x2 c3 f1
  have f3 := grew_ge g3 f1 x2.size
  have x4 := below_chg x3 d4 f3
  have f4 := grew_ge g4 f3 x3.size
  have x5 := below_chg x4 d5 fp
  have x6 := below_chg x5 d6 f4
  exact (Chg.of_below x6 Nil).alloc _ |>.drewN kq
end Go.Proofs.Ytacmgjjpfdncgaa
