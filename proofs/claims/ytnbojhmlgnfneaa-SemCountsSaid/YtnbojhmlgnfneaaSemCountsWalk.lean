/- The walk of the law SemCounts: it returns true and changes nothing that was there. No condition. -/
import Derived.Test.YtnbojhmlgnfneaaSem
import Derived.Deep.DeepCutAuto
namespace Go.Proofs.Ytnbojhmlgnfneaa
open Go.ChangeShapes Go.WideShapes Go.ChangeAt Go.RowKit
set_option linter.unusedVariables false
/-- What holds ahead of each round: the semaphore, and the law's own row. -/
def SemInv (w0 : World) (p : Nat) (n : Int) (k : Nat) (ups downs : Int) (row : List Int) (a : Option Addr) (c : Nat) (w : World) : Prop :=
  ∃ F G, SemAt w F p (n + ups - downs) row ∧ Sl w 3 1 a row.length c (ints .i64 row) G ∧ Below w0.heap.size w0 w ∧ (∀ k, F k → w0.heap.size ≤ k) ∧ (∀ g, G = some g → w0.heap.size ≤ g) ∧ Dj F (Opt G) ∧
    0 ≤ ups ∧ ups ≤ k ∧ 0 ≤ downs ∧ 0 ≤ n + ups - downs ∧ (0 < n + ups - downs → row = []) ∧ row.length ≤ k ∧ ∀ x ∈ row, 1 ≤ x
section
variable {w0 w w1 w2 : World} {p k : Nat} {n ups downs : Int} {row : List Int} {a : Option Addr} {c : Nat}
theorem SemInv.next (h : SemInv w0 p n k ups downs row a c w) : SemInv w0 p n (k + 1) ups downs row a c w := by
  obtain ⟨F, G, h1, h2, h3, h4, h5, h6, h7, h8, h9, h10, h11, h12, h13⟩ := h
  exact ⟨F, G, h1, h2, h3, h4, h5, h6, h7, by omega, h9, h10, h11, by omega, h13⟩
theorem below_chg {w0 w w1 : World} {F : Nat → Prop} (h : Below w0.heap.size w0 w) (hc : Chg F w w1) (hF : ∀ k, F k → w0.heap.size ≤ k) : Below w0.heap.size w0 w1 :=
  h.trans (hc.below (fun i hi hf => by have := hF i hf; omega) h.size)
theorem grew_ge {N B : Nat} {F F' : Nat → Prop} (h : Grew N F F') (hF : ∀ k, F k → B ≤ k) (hB : B ≤ N) : ∀ k, F' k → B ≤ k := fun k hk => by
  rcases h k hk with h1 | h1
  · exact hF k h1
  · omega
end
set_option maxRecDepth 100000 in
set_option maxHeartbeats 1000000 in
theorem semCounts_walk (a0 : Int) (a1 : Option Addr) (len1 cap1 : Nat) (z1 : List Int) (w : World) (w0 : (Lit.int .i64 a0).wf = true) (w1 : IsRow .i64 w a1 len1 cap1 z1) :
    Calls Try.prog 5 #[.int .i64 a0, .slice a1 len1 cap1] w fun e w' => e = .returned (.bool true) ∧ Below w.heap.size w w' := by
  have n0 := rest_nonneg a0 5 (by omega)
  have n1 := rest_lt a0 5 (by omega)
  have hl1 := w1.1.1
  have hl2 := w1.1.2.1
  unfold maxLen at hl2
  have W1 := hid w1
  clear w1
  go_enter Try.func5, Try.ntmps5
  go_wp2_with fail
  refine (newSem_ok 0 _ (by omega) (by omega)).mono ?_
  rintro e w1 ⟨F1, p1, rfl, s1, c1, g1⟩
  go_wp2_with fail
  refine (down_wait _ F1 p1 2 [] s1 (by simp) (by omega) (by omega) (by simp)).mono ?_
  rintro e w2 ⟨F2, rfl, s2, c2, g2⟩
  go_wp2_with fail
  refine (up_row _ F2 p1 0 2 [] s2 (by simp)).mono ?_
  rintro e w3 ⟨F3, rfl, s3, c3, g3⟩
  go_upto_region 13 with (first | (go_at_call 13; refine (rest_any _ _ _ (by omega) (by omega)).mono ?_; rintro e w' ⟨rfl, rfl⟩) | (go_at_call 25; refine (newSem_ok _ _ (by omega) (by omega)).mono ?_; rintro e w4 ⟨F, p, rfl, s4, c4, g4⟩))
  have b1 : Below w.heap.size w w4 := by
    have f1 : ∀ k, F1 k → w.heap.size ≤ k := grew_ge g1 (fun _ h => h.elim) (Nat.le_refl _)
    have x1 := below_chg (Below.refl _ w) c1 (fun _ h => h.elim)
    have f2 := grew_ge g2 f1 x1.size
    have x2 := below_chg x1 c2 f1
    have x3 := below_chg x2 c3 f2
    exact below_chg x3 c4 (fun _ h => h.elim)
  have hI : SemInv w p (rest a0 5) 0 0 0 [] none 0 w4 := by
    refine ⟨F, none, by simpa using s4, Sl.empty _ _ _ _, b1, ?_, (fun g h => by cases h), (fun k _ h => by cases h), by omega, by omega, by omega, by omega, fun _ => rfl, by simp, by simp⟩
    have f1 : ∀ k, F1 k → w.heap.size ≤ k := grew_ge g1 (fun _ h => h.elim) (Nat.le_refl _)
    have x1 := below_chg (Below.refl _ w) c1 (fun _ h => h.elim)
    have f2 := grew_ge g2 f1 x1.size
    have x2 := below_chg x1 c2 f1
    have x3 := below_chg x2 c3 f2
    exact grew_ge g4 (fun _ h => h.elim) x3.size
  clear s1 c1 g1 s2 c2 g2 s3 c3 g3 s4 c4 g4 b1
  replace hI := hid hI
  go_cut [61, 62, 63] (fun s61 s62 s63 wx => wx = w4 ∧ ∃ N : Nat, N ≤ 200 ∧ N ≤ len1 ∧ s61 = .slice a1 N cap1 ∧ s62 = .int .i64 N ∧ s63 = .int .i64 0)
  case first =>
    go_wp2
    · go_meet
      exact ⟨rfl, 200, by omega, by omega, rfl, rfl, rfl⟩
    · go_meet
      exact ⟨rfl, len1, by omega, by omega, by simp, by simp, rfl⟩
  case rest =>
    obtain ⟨rfl, N, hN1, hN2, rfl, rfl, rfl⟩ := hcut
    go_wp2
    go_loopw [11, 12, 13, 63] (fun s11 s12 s13 s63 wr => ∃ (k : Nat) (ups downs : Int) (row : List Int) (a : Option Addr) (c : Nat), k ≤ N ∧ s63 = .int .i64 k ∧ s11 = .int .i64 ups ∧ s12 = .int .i64 downs ∧ s13 = .slice a row.length c ∧
      Hid (SemInv w p (rest a0 5) k ups downs row a c wr)) (fun _ _ _ s63 _ => N - (intOf s63).toNat)
    case atStart => exact ⟨0, 0, 0, [], none, 0, Nat.zero_le _, rfl, rfl, rfl, rfl, hI⟩
    case round =>
      obtain ⟨k, ups, downs, row, a, c, hk, rfl, rfl, rfl, rfl, hJ⟩ := hrel
      clear hI
      obtain ⟨F, G, i1, i2, i3, i4, i5, i6, i7, i8, i9, i10, i11, i12, i13⟩ := id hJ.out
      by_cases hlt : k < N
      · have hz : k < z1.length := by have := W1.out.1.ilen; omega
        have HA : Rd wr (Upto w.heap.size) 1 a1 len1 cap1 (ints .i64 z1) := W1.out.1.chg (Chg.of_below i3 Nil) (fun _ _ _ h => h)
        obtain ⟨g, off, rfl, _, _, hc⟩ := HA.at hz
        have hc1 := hc k hz
        clear hc HA
        have r1 := rest_nonneg z1[k] 2 (by omega)
        have r2 := rest_lt z1[k] 2 (by omega)
        have r3 := rest_nonneg (wrap64 (z1[k].tdiv 2)) 16 (by omega)
        have r4 := rest_lt (wrap64 (z1[k].tdiv 2)) 16 (by omega)
        replace i11 := hid i11
        replace i13 := hid i13
        replace i4 := hid i4
        replace i5 := hid i5
        go_upto_if 69 with (first | (go_at_call 13; refine (rest_any _ _ _ (by omega) (by omega)).mono ?_; rintro e w' ⟨rfl, rfl⟩))
        go_cut [11, 12, 13] (fun s11 s12 s13 wc => ∃ (ups downs : Int) (row : List Int) (a : Option Addr) (c : Nat), s11 = .int .i64 ups ∧ s12 = .int .i64 downs ∧ s13 = .slice a row.length c ∧
          Hid (SemInv w p (rest a0 5) (k + 1) ups downs row a c wc))
        case first =>
          by_cases h2 : rest z1[k] 2 = 0
          · have b2 : (rest z1[k] 2 == 0) = true := by rw [beq_iff_eq]; exact h2
            clear h2
            by_cases hm : (1 + rest (wrap64 (z1[k].tdiv 2)) 16) ∈ row
            · have hh := hasI_true hm
              replace hm := hid hm
              go_wp2_with (first | (go_at_call 13; refine (rest_any _ _ _ (by omega) (by omega)).mono ?_; rintro e w' ⟨rfl, rfl⟩) | (go_at_call 26; refine (down_has _ F p _ _ row i1 (by omega) (by omega) (by omega) hm.out).mono ?_; rintro e w' ⟨rfl, rfl⟩) | (go_at_call 23; refine (contains_int _ _ _ _ _ _ _ i2.rd (by omega)).mono ?_; rintro e w' ⟨rfl, rfl⟩))
              go_meet
              exact ⟨ups, downs, row, a, c, rfl, rfl, rfl, hJ.out.next⟩
            · have hh := hasI_false hm
              replace hm := hid hm
              by_cases hp : 0 < rest a0 5 + ups - downs
              · go_wp2_with (first | (go_at_call 13; refine (rest_any _ _ _ (by omega) (by omega)).mono ?_; rintro e w' ⟨rfl, rfl⟩) | (go_at_call 26; refine (down_ok _ F p _ _ row i1 (by omega) (by omega) (by omega) hm.out hp (by omega)).mono ?_; rintro e w2 ⟨rfl, q1, q2⟩; have i2' := i2.chg q2 (fun g hg hF => i6 g hF hg)) | (go_at_call 23; refine (contains_int _ _ _ _ _ _ _ i2'.rd (by omega)).mono ?_; rintro e w' ⟨rfl, rfl⟩))
                go_meet
                refine ⟨ups, downs + 1, row, a, c, rfl, by go_num, rfl, F, G, ?_, i2', below_chg i3 q2 i4.out, i4.out, i5.out, i6, by omega, by omega, by omega, by omega, fun _ => i11.out hp, by omega, i13.out⟩
                rw [show rest a0 5 + ups - (downs + 1) = rest a0 5 + ups - downs - 1 by omega]
                exact q1
              · have h0 : rest a0 5 + ups - downs = 0 := by omega
                have i1' : SemAt wr F p 0 row := by rw [← h0]; exact i1
                replace h0 := hid h0
                go_wp2_with (first | (go_at_call 13; refine (rest_any _ _ _ (by omega) (by omega)).mono ?_; rintro e w' ⟨rfl, rfl⟩) | (go_at_call 26; refine (down_wait _ F p _ row i1' (by omega) (by omega) (by omega) hm.out).mono ?_; rintro e w2 ⟨F2, rfl, q1, q2, q3⟩; have i2' := i2.chg q2 (fun g hg hF => i6 g hF hg); have HS := hid (i2'.alloc (.cells #[.int .i64 (1 + rest (wrap64 (z1[k].tdiv 2)) 16)] 3)); have HN := hid (Rd.of_blk (n := 1) (s := 1) (Blk.new w2 3 (ints .i64 [1 + rest (wrap64 (z1[k].tdiv 2)) 16])) rfl (by decide))) | (go_at_call 23; refine (contains_int _ _ _ _ _ _ _ i2'.rd (by omega)).mono ?_; rintro e w' ⟨rfl, rfl⟩) | (at_builtin; refine wpList_append_sl rfl _ _ eInt rfl rfl rfl HS.out HN.out (ints_one _ _) (by omega) (by omega) ?_; intro a' c' w3 G' y1 y2 y3; replace y3 := hid y3))
                go_meet
                have hN3 : w.heap.size ≤ w2.heap.size := Nat.le_trans i3.size q2.size
                refine ⟨ups, downs, row ++ [1 + rest (wrap64 (z1[k].tdiv 2)) 16], a', c', rfl, rfl, by simp, F2, G', ?_, ?_, ?_, ?_, ?_, ?_, by omega, by omega, by omega, by omega, fun h => absurd h (by omega), by simp; omega, ?_⟩
                · have hq : SemAt (w2.alloc (.cells #[.int .i64 (1 + rest (wrap64 (z1[k].tdiv 2)) 16)] 3)) F2 p 0 (row ++ [1 + rest (wrap64 (z1[k].tdiv 2)) 16]) := q1.chg ((Chg.refl Nil w2).alloc _) (fun _ _ h => h)
                  have hd : Dj F2 (Opt G) := i6.grew q3 (fun g hg => i2.lt g hg)
                  have := hq.chg y2 hd
                  rw [h0.out]
                  exact this
                · rw [ints_append] at y1; simpa using y1
                · exact below_chg (below_chg (below_chg i3 q2 i4.out) ((Chg.refl Nil w2).alloc _) (fun _ h => h.elim)) y2 (fun k hk => i5.out k hk)
                · exact grew_ge q3 i4.out i3.size
                · intro g hg
                  rcases opt_grew y3.out g hg with h | h
                  · exact i5.out g h
                  · simp at h; omega
                · have hd : Dj F2 (Opt G) := i6.grew q3 (fun g hg => i2.lt g hg)
                  refine (hd.symm.grew (opt_grew y3.out) (fun k hk => ?_)).symm
                  have := q1.lt k hk
                  simp; omega
                · intro x hx
                  rcases List.mem_append.1 hx with hx | hx
                  · exact i13.out x hx
                  · have : x = 1 + rest (wrap64 (z1[k].tdiv 2)) 16 := by simpa using hx
                    omega
          · have b2 : (rest z1[k] 2 == 0) = false := by rw [beq_eq_false_iff_ne]; exact h2
            clear h2
            cases row with
            | nil =>
              go_wp2_with (go_at_call 27; refine (up_none _ F p _ i1 (by omega) (by omega)).mono ?_; rintro e w2 ⟨rfl, q1, q2⟩)
              go_meet
              refine ⟨ups + 1, downs, [], a, c, by go_num, rfl, rfl, F, G, ?_, i2.chg q2 (fun g hg hF => i6 g hF hg), below_chg i3 q2 i4.out, i4.out, i5.out, i6, by omega, by omega, by omega, by omega, fun _ => rfl, by simp, by simp⟩
              rw [show rest a0 5 + (ups + 1) - downs = rest a0 5 + ups - downs + 1 by omega]
              exact q1
            | cons x row =>
              have hx := i13.out x (by simp)
              have hnp : ¬ (0 < rest a0 5 + ups - downs) := fun h => by have := i11.out h; cases this
              simp only [List.length_cons] at i12
              obtain ⟨g', off', rfl, _, _, hc'⟩ := i2.rd.at (i := 0) (by simp)
              obtain ⟨G2, t1, t2⟩ := i2.tail
              have hcap := i2.1
              simp only [List.length_cons] at hcap
              have HI2 := hid i2
              replace t2 := hid t2
              have hfin : ∀ (w2 : World) (F2 : Nat → Prop) (A : Option Addr) (C : Nat), SemAt w2 F2 p (rest a0 5 + ups - downs) row → Chg F wr w2 → Grew wr.heap.size F F2 → (∃ G3, Sl wr 3 1 A row.length C (ints .i64 row) G3 ∧ ∀ g', G3 = some g' → G = some g') →
                  SemInv w p (rest a0 5) (k + 1) (ups + 1) (downs + 1) row A C w2 := by
                rintro w2 F2 A C q1 q2 q3 ⟨G3, t1, t2⟩
                have hd : Dj F (Opt G3) := fun k h1 h2 => i6 k h1 (t2 k h2)
                refine ⟨F2, G3, ?_, t1.chg q2 (fun g hg hF => hd g hF hg), below_chg i3 q2 i4.out, grew_ge q3 i4.out i3.size, fun g hg => i5.out g (t2 g hg), hd.grew q3 (fun g hg => t1.lt g hg), by omega, by omega, by omega, by omega, fun h => absurd h (by omega), by omega, fun y hy => i13.out y (by simp [hy])⟩
                rw [show rest a0 5 + (ups + 1) - (downs + 1) = rest a0 5 + ups - downs by omega]
                exact q1
              replace hfin := hid hfin
              by_cases hc1' : c = 1
              · go_wp2_with (go_at_call 27; refine (up_row _ F p _ _ row i1 (by omega)).mono ?_; rintro e w2 ⟨F2, rfl, q1, q2, q3⟩; have i2' := i2.chg q2 (fun g hg hF => i6 g hF hg); obtain ⟨_, _, hh, _, _, hc'⟩ := i2'.rd.at (i := 0) (by simp); injection hh with hh; injection hh with hh1 hh2; subst hh1; subst hh2; have hx0 := hc' 0 (by simp); clear hc'; simp only [List.getElem_cons_zero, Nat.add_zero] at hx0)
                go_meet
                have h0 : row = [] := List.eq_nil_of_length_eq_zero (by omega)
                subst h0
                exact ⟨ups + 1, downs + 1, [], _, _, by go_num, by go_num, rfl, hfin.out _ _ _ _ q1 q2 q3 ⟨none, Sl.empty _ _ _ _, fun _ h => by cases h⟩⟩
              · go_wp2_with (go_at_call 27; refine (up_row _ F p _ _ row i1 (by omega)).mono ?_; rintro e w2 ⟨F2, rfl, q1, q2, q3⟩; have i2' := i2.chg q2 (fun g hg hF => i6 g hF hg); obtain ⟨_, _, hh, _, _, hc'⟩ := i2'.rd.at (i := 0) (by simp); injection hh with hh; injection hh with hh1 hh2; subst hh1; subst hh2; have hx0 := hc' 0 (by simp); clear hc'; simp only [List.getElem_cons_zero, Nat.add_zero] at hx0)
                go_meet
                exact ⟨ups + 1, downs + 1, row, _, _, by go_num, by go_num, rfl, hfin.out _ _ _ _ q1 q2 q3 ⟨G2, t1, t2.out⟩⟩
        case rest =>
          clear hJ i1 i2 i3 i4 i5 i6 i7 i8 i9 i10 i11 i12 i13
          obtain ⟨ups, downs, row, a, c, rfl, rfl, rfl, hJ⟩ := hcut
          obtain ⟨F, G, i1, i2, i3, i4, i5, i6, i7, i8, i9, i10, i11, i12, i13⟩ := id hJ.out
          replace i4 := hid i4
          replace i5 := hid i5
          replace i13 := hid i13
          have he : eqI row row = true := eqI_true rfl
          by_cases hp : 0 < rest a0 5 + ups - downs
          · obtain rfl := i11 hp
            go_wp2_with (first | (go_at_call 28; refine (count_ok _ F p _ _ i1 (by simp)).mono ?_; rintro e w2 ⟨a2, c2, G2, rfl, q1, q2, q3⟩; have i2' := i2.chg q2 (fun g hg hF => hF.elim)) | (go_at_call 16; refine (equal_int _ _ _ _ _ _ _ _ _ _ _ q1.rd i2'.rd (by simp) (by simp)).mono ?_; rintro e w3 ⟨rfl, kq, rfl⟩))
            go_roundw
            case rel =>
              refine ⟨k + 1, ups, downs, [], a, c, by omega, by go_num, rfl, rfl, rfl, F, G, ?_, (i2'.drewN kq), ?_, i4.out, i5.out, i6, i7, i8, i9, i10, fun _ => rfl, i12, i13.out⟩
              · exact (i1.chg q2 (fun _ _ h => h)).chg ((Chg.refl Nil w2).drewN kq) (fun _ _ h => h)
              · exact below_chg (below_chg i3 q2 (fun _ h => h.elim)) ((Chg.refl Nil w2).drewN kq) (fun _ h => h.elim)
            case measure => simp [intOf]; omega
          · replace i11 := hid i11
            go_wp2_with (first | (go_at_call 28; refine (count_ok _ F p _ _ i1 (by omega)).mono ?_; rintro e w2 ⟨a2, c2, G2, rfl, q1, q2, q3⟩; have i2' := i2.chg q2 (fun g hg hF => hF.elim)) | (go_at_call 16; refine (equal_int _ _ _ _ _ _ _ _ _ _ _ q1.rd i2'.rd (by omega) (by omega)).mono ?_; rintro e w3 ⟨rfl, kq, rfl⟩))
            replace i11 := i11.out
            go_roundw
            case rel =>
              refine ⟨k + 1, ups, downs, row, a, c, by omega, by go_num, rfl, rfl, rfl, F, G, ?_, (i2'.drewN kq), ?_, i4.out, i5.out, i6, i7, i8, i9, i10, i11, i12, i13.out⟩
              · exact (i1.chg q2 (fun _ _ h => h)).chg ((Chg.refl Nil w2).drewN kq) (fun _ _ h => h)
              · exact below_chg (below_chg i3 q2 (fun _ h => h.elim)) ((Chg.refl Nil w2).drewN kq) (fun _ h => h.elim)
            case measure => simp [intOf]; omega
      · go_wp2
        go_ret
        exact ⟨rfl, i3⟩
end Go.Proofs.Ytnbojhmlgnfneaa
