/- The walk of the law PickClasses: it returns true and changes nothing that was there. No condition. -/
import Derived.Test.YtipmjfpoglkiaaaPcM
import Derived.Test.YtipmjfpoglkiaaaFairRow
import Derived.Deep.DeepCutAuto
import Derived.Deep.CutBlock
namespace Go.Proofs.Ytipmjfpoglkiaaa
open Go.ChangeShapes Go.WideShapes Go.ChangeAt Go.RowKit Go.ChangeMaps
set_option linter.unusedVariables false
theorem IsRows.row {k : IntKind} {w w' : World} {a : Option Addr} {len cap : Nat} {zs : List (List Int)} (h : IsRows k w a len cap zs) (hb : Below w.heap.size w w') (i : Nat) (hi : i < len) :
    ∃ g off a' n' c', a = some ⟨g, off, none⟩ ∧ w'.cell? ⟨g, off + i, none⟩ = some (.slice a' n' c') ∧ ∃ z, Rd w' (Upto w.heap.size) 1 a' n' c' (ints k z) ∧ n' ≤ c' ∧ c' ≤ 9223372036854775807 ∧ z.length = n' := by
  obtain ⟨xs, h1, h2, h3⟩ := h
  obtain ⟨g, off, r1, r2, r3, r4⟩ := h1.cellAt (by omega)
  obtain ⟨a', n', c', e1, e2⟩ := h3 i (by omega)
  refine ⟨g, off, a', n', c', r1, ?_, _, e2.1.chg (Chg.of_below hb Nil) (fun _ _ _ h => h), e2.1.1, e2.1.2.1, e2.1.ilen⟩
  rw [hb.cell (p := ⟨g, off + i, none⟩) r2, r4 i hi, e1]
theorem IsRows.bd {k : IntKind} {w : World} {a : Option Addr} {len cap : Nat} {zs : List (List Int)} (h : IsRows k w a len cap zs) : len ≤ 9223372036854775807 ∧ len ≤ cap ∧ cap ≤ 9223372036854775807 := by
  obtain ⟨xs, h1, _⟩ := h
  have h2 := h1.1
  have h3 := h1.2.1
  unfold maxLen at h3
  omega
set_option maxRecDepth 100000 in
set_option maxHeartbeats 4000000 in
theorem pickClasses_walk (a0 : Option Addr) (len0 cap0 : Nat) (z0 : List (List Int)) (w : World) (w0 : IsRows .i64 w a0 len0 cap0 z0) :
    Calls Try.prog 5 #[.slice a0 len0 cap0] w fun e w' => e = .returned (.bool true) ∧ Below w.heap.size w w' := by
  obtain ⟨hl0, hl1, hl2⟩ := w0.bd
  have W1 := hid w0
  have hmm := @run_makeMap Try.prog
  clear w0
  go_enter Try.func5, Try.ntmps5
  go_wp2_with fail
  refine (pickBegun_ok _).mono ?_
  rintro e w1 ⟨rfl, b1⟩
  have NW := hid (pknew_ok (env_of b1))
  clear b1
  go_wp2_with fail
  refine NW.out.mono ?_
  rintro e w3 ⟨p, rfl, h1⟩
  obtain ⟨E, hEw, P4, hEm, hEk⟩ := pcb_new h1
  have mp := MpAt.made w3 Try.prog 3
  have B4 : Below w.heap.size w (w3.alloc (.map #[] 0)) := below_nil h1.belw ((Chg.refl Nil w3).alloc _)
  have mg : w.heap.size ≤ w3.heap.size := h1.belw.size
  have START : Hid (∀ wr s, PkM E p 9 s wr → PcA 9 s → ∃ E', PcB w E' p w3.heap.size 9 0 0 (fun _ => false) s wr) := fun wr s hp ha => pcb_start hp hEw mp hEm mg hEk B4 ha.done
  have I0 : Hid (∃ s, PkM E p 0 s (w3.alloc (.map #[] 0)) ∧ PcA 0 s) := hid ⟨_, P4, pcA_new⟩
  clear NW h1 hEw P4 hEm hEk mp B4 mg
  obtain ⟨mo, hmo⟩ : ∃ mo, mo = w3.heap.size := ⟨_, rfl⟩
  obtain ⟨w4, hw4⟩ : ∃ w4, w4 = w3.alloc (.map #[] 0) := ⟨_, rfl⟩
  rw [← hmo] at START
  rw [← hw4] at I0
  go_upto_region 5 with fail
  rw [← hmo, ← hw4]
  clear hmo hw4 hmm
  go_wp2
  go_loopw [5] (fun s5 wr => ∃ k : Nat, k ≤ 9 ∧ s5 = .int .i64 ((k : Int) + 1) ∧ Hid (∃ s, PkM E p k s wr ∧ PcA k s)) (fun s5 _ => 10 - (intOf s5).toNat)
  case atStart => exact ⟨0, by omega, rfl, I0⟩
  case round =>
    clear I0
    obtain ⟨k, hk, rfl, hJ⟩ := hrel
    by_cases hlt : k < 9
    · obtain ⟨s, j1, j2⟩ := id hJ.out
      by_cases h3 : k < 3
      · have A := hid (pkFair_i j1 (by omega) j2 h3 ((k : Int) + 1) (by omega))
        have t1 : (k : Int) + 1 ≤ 3 := by omega
        clear j1 j2 hJ
        go_wp2_with fail
        refine A.out.mono ?_
        rintro e w6 ⟨rfl, y1⟩
        replace y1 := hid y1
        clear A
        go_wp2
        go_roundw
        case rel => exact ⟨k + 1, by omega, by go_num, y1⟩
        case measure => simp [intOf]; omega
      · by_cases h6 : k < 6
        · have A := hid (pkPrio_i j1 (by omega) j2 (by omega) h6 ((k : Int) + 1) ((k : Int) + 1 - 4) (by omega) (by omega))
          have t1 : ¬ (k : Int) + 1 ≤ 3 := by omega
          have t2 : (k : Int) + 1 ≤ 6 := by omega
          clear j1 j2 hJ
          go_wp2_with fail
          refine A.out.mono ?_
          rintro e w6 ⟨rfl, y1⟩
          replace y1 := hid y1
          clear A
          go_wp2
          go_roundw
          case rel => exact ⟨k + 1, by omega, by go_num, y1⟩
          case measure => simp [intOf]; omega
        · have A := hid (pkDead_i j1 (by omega) j2 (by omega) hlt ((k : Int) + 1) (by omega))
          have t1 : ¬ (k : Int) + 1 ≤ 3 := by omega
          have t2 : ¬ (k : Int) + 1 ≤ 6 := by omega
          clear j1 j2 hJ
          go_wp2_with fail
          refine A.out.mono ?_
          rintro e w6 ⟨rfl, y1⟩
          replace y1 := hid y1
          clear A
          go_wp2
          go_roundw
          case rel => exact ⟨k + 1, by omega, by go_num, y1⟩
          case measure => simp [intOf]; omega
    · have hk9 : k = 9 := by omega
      have I1 : Hid (∃ E o s, PcB w E p mo (9 + 0) 0 0 o s wr) := by
        obtain ⟨s, j1, j2⟩ := hJ.out
        subst hk9
        obtain ⟨E', hT⟩ := START.out _ _ j1 j2
        exact hid ⟨E', _, s, hT⟩
      clear hJ START hk9
      obtain ⟨wo, hwo⟩ : ∃ wo : World, wo = wr := ⟨_, rfl⟩
      subst hwo
      go_upto_region 16 with fail
      go_cut [44, 45, 46] (fun s44 s45 s46 wx => wx = wo ∧ ∃ M : Nat, M ≤ 200 ∧ M ≤ len0 ∧ s44 = .slice a0 M cap0 ∧ s45 = .int .i64 M ∧ s46 = .int .i64 0)
      case first =>
        go_wp2
        · go_meet
          exact ⟨rfl, 200, by omega, by omega, rfl, rfl, rfl⟩
        · go_meet
          exact ⟨rfl, len0, by omega, by omega, by simp, by simp, rfl⟩
      case rest =>
        obtain ⟨rfl, M, hM1, hM2, rfl, rfl, rfl⟩ := hcut
        go_wp2
        go_loopw [46] (fun s46 wr => ∃ m : Nat, m ≤ M ∧ s46 = .int .i64 m ∧ Hid (∃ E o s, PcB w E p mo (9 + m) m m o s wr)) (fun s46 _ => M - (intOf s46).toNat)
        case atStart => exact ⟨0, by omega, rfl, I1⟩
        case round =>
          clear I1
          obtain ⟨m, hm, rfl, hJ⟩ := hrel
          by_cases hlt2 : m < M
          · obtain ⟨E, o, s, j1⟩ := id hJ.out
            obtain ⟨g, off, ar, nr, cr, rfl, hcr, z, hz, hz1, hz2, hz3⟩ := W1.out.row j1.bel m (by omega)
            by_cases h3 : nr < 2
            · have h3' : (nr : Int) < 2 := by omega
              have hJ2 : Hid (∃ E o s, PcB w E p mo (9 + (m + 1)) (m + 1) (m + 1) o s wr) := ⟨E, o, s, j1.more⟩
              clear hz hJ j1
              go_wp2
              go_roundw
              case rel => exact ⟨m + 1, by omega, by go_num, hJ2⟩
              case measure => simp [intOf]; omega
            · have h3' : (2 : Int) ≤ (nr : Int) := by omega
              obtain ⟨gr, offr, rfl, _, _, hc⟩ := hz.at (i := 0) (by omega)
              have x0 := hc 0 (by omega)
              have x1 := hc 1 (by omega)
              simp only [Nat.add_zero] at x0
              generalize z[0] = z0' at x0
              generalize z[1] = z1' at x1
              clear hc hz hJ
              have J1 := hid j1
              clear j1
              obtain ⟨wo, hwo⟩ : ∃ wo : World, wo = wr := ⟨_, rfl⟩
              subst hwo
              go_wp2_with fail
              refine (rest_nat _ 9 _ (by omega) (by omega)).mono ?_
              rintro e w5 ⟨t0, ht0, rfl, rfl⟩
              obtain ⟨t, ht⟩ : ∃ t : Nat, t = t0 + 1 := ⟨_, rfl⟩
              have t1 : 1 ≤ t := by omega
              have t9 : t ≤ 9 := by omega
              have hti : Hid ((1 : Int) + (t0 : Int) = (t : Int)) := hid (by omega)
              clear ht
              go_wp2_with fail
              refine (rest_nat _ 4 _ (by omega) (by omega)).mono ?_
              rintro e w5 ⟨d, hd, rfl, rfl⟩
              rw [hti.out]
              clear hti ht0
              clear x0 x1 hcr
              by_cases h0 : d = 0
              · subst h0
                clear hd
                have A := hid (pcb_block J1.out (by omega) t t1 t9)
                have lk : (Instr.lookup 39 (.map (some mo)) (.int .i64 (t : Int)) false).run Try.prog wo.drew = .ok (.bool (o t)) wo.drew := J1.out.lookD (Chg.refl _ _).drew t (by omega)
                have TL : Hid (∀ w6 s', PkM E p (9 + m + 1) s' w6 ∧ PcI (m + 1) (updO o t true) s' → ∃ f, MpAt w6 Try.prog 3 mo m f ∧ ∀ w'', MpAt w'' Try.prog 3 mo (m + 1) (updM f (t : Int) (some (.bool true))) → Chg (One mo) w6 w'' → ∃ E', PcB w E' p mo (9 + m + 1) (m + 1) (m + 1) (updO o t true) s' w'') := fun w6 s' hh => J1.out.told hh.1 t true hh.2
                clear J1
                cases hot : o t with
                | false =>
                  rw [hot] at A lk
                  simp only [Bool.false_eq_true, if_false] at A
                  clear hot
                  go_upto_region 31 with fail
                  go_region_law (go_simp; go_at_call 14; refine A.out.mono ?_; rintro e w6 ⟨s', rfl, k1, lk6⟩; replace k1 := hid k1)
                  all_goals
                    obtain ⟨f, f1, f2⟩ := TL.out _ _ k1.out
                    replace f1 := hid f1
                    replace f2 := hid f2
                    clear TL A lk lk6
                    go_wp2_with (at_mapUpdate; refine wpList_store _ rfl _ _ _ 39 rfl (k := 3) (e := 4) Try.underlying3 Try.underlying39 mo m f rfl f1.out (by omega) (t : Int) (.bool true) rfl rfl (wf_key (by omega) (by omega)) ?_; intro w7 m1 m2; have Y : Hid (∃ E o s, PcB w E p mo (9 + (m + 1)) (m + 1) (m + 1) o s w7) := (f2.out _ m1 m2).elim (fun E' hT => hid ⟨E', _, s', hT⟩); clear m1 m2 f1 f2)
                    go_roundw
                    case rel => exact ⟨m + 1, by omega, by go_num, Y⟩
                    case measure => simp [intOf]; omega
                | true =>
                  rw [hot] at A lk
                  simp only [if_true] at A
                  clear hot
                  go_upto_region 31 with fail
                  go_region_law (go_simp; go_at_call 14; refine A.out.mono ?_; rintro e w6 ⟨s', rfl, k1, lk6⟩; replace k1 := hid k1)
                  all_goals
                    obtain ⟨f, f1, f2⟩ := TL.out _ _ k1.out
                    replace f1 := hid f1
                    replace f2 := hid f2
                    clear TL A lk lk6
                    go_wp2_with (at_mapUpdate; refine wpList_store _ rfl _ _ _ 39 rfl (k := 3) (e := 4) Try.underlying3 Try.underlying39 mo m f rfl f1.out (by omega) (t : Int) (.bool true) rfl rfl (wf_key (by omega) (by omega)) ?_; intro w7 m1 m2; have Y : Hid (∃ E o s, PcB w E p mo (9 + (m + 1)) (m + 1) (m + 1) o s w7) := (f2.out _ m1 m2).elim (fun E' hT => hid ⟨E', _, s', hT⟩); clear m1 m2 f1 f2)
                    go_roundw
                    case rel => exact ⟨m + 1, by omega, by go_num, Y⟩
                    case measure => simp [intOf]; omega
              · by_cases h1 : d = 1
                · subst h1
                  clear hd h0
                  have A := hid (pcb_wake J1.out (by omega) (by omega) t t1 t9)
                  have lk : (Instr.lookup 39 (.map (some mo)) (.int .i64 (t : Int)) false).run Try.prog wo.drew = .ok (.bool (o t)) wo.drew := J1.out.lookD (Chg.refl _ _).drew t (by omega)
                  have TL : Hid (∀ w6 s', PkM E p (9 + m + 1) s' w6 ∧ PcI (m + 1) (updO o t false) s' → ∃ f, MpAt w6 Try.prog 3 mo m f ∧ ∀ w'', MpAt w'' Try.prog 3 mo (m + 1) (updM f (t : Int) (some (.bool false))) → Chg (One mo) w6 w'' → ∃ E', PcB w E' p mo (9 + m + 1) (m + 1) (m + 1) (updO o t false) s' w'') := fun w6 s' hh => J1.out.told hh.1 t false hh.2
                  clear J1
                  cases hot : o t with
                  | false =>
                    rw [hot] at A lk
                    simp only [Bool.false_eq_true, if_false] at A
                    clear hot
                    go_upto_region 35 with fail
                    go_region_law (go_simp; go_at_call 16; refine A.out.mono ?_; rintro e w6 ⟨s', rfl, k1, lk6⟩; replace k1 := hid k1)
                    all_goals
                      obtain ⟨f, f1, f2⟩ := TL.out _ _ k1.out
                      replace f1 := hid f1
                      replace f2 := hid f2
                      clear TL A lk lk6
                      go_wp2_with (at_mapUpdate; refine wpList_store _ rfl _ _ _ 39 rfl (k := 3) (e := 4) Try.underlying3 Try.underlying39 mo m f rfl f1.out (by omega) (t : Int) (.bool false) rfl rfl (wf_key (by omega) (by omega)) ?_; intro w7 m1 m2; have Y : Hid (∃ E o s, PcB w E p mo (9 + (m + 1)) (m + 1) (m + 1) o s w7) := (f2.out _ m1 m2).elim (fun E' hT => hid ⟨E', _, s', hT⟩); clear m1 m2 f1 f2)
                      go_roundw
                      case rel => exact ⟨m + 1, by omega, by go_num, Y⟩
                      case measure => simp [intOf]; omega
                  | true =>
                    rw [hot] at A lk
                    simp only [if_true] at A
                    clear hot
                    go_upto_region 35 with fail
                    go_region_law (go_simp; go_at_call 16; refine A.out.mono ?_; rintro e w6 ⟨s', rfl, k1, lk6⟩; replace k1 := hid k1)
                    all_goals
                      obtain ⟨f, f1, f2⟩ := TL.out _ _ k1.out
                      replace f1 := hid f1
                      replace f2 := hid f2
                      clear TL A lk lk6
                      go_wp2_with (at_mapUpdate; refine wpList_store _ rfl _ _ _ 39 rfl (k := 3) (e := 4) Try.underlying3 Try.underlying39 mo m f rfl f1.out (by omega) (t : Int) (.bool false) rfl rfl (wf_key (by omega) (by omega)) ?_; intro w7 m1 m2; have Y : Hid (∃ E o s, PcB w E p mo (9 + (m + 1)) (m + 1) (m + 1) o s w7) := (f2.out _ m1 m2).elim (fun E' hT => hid ⟨E', _, s', hT⟩); clear m1 m2 f1 f2)
                      go_roundw
                      case rel => exact ⟨m + 1, by omega, by go_num, Y⟩
                      case measure => simp [intOf]; omega
                · have b0 : ((d : Int) == 0) = false := by rw [beq_eq_false_iff_ne]; omega
                  have b1 : ((d : Int) == 1) = false := by rw [beq_eq_false_iff_ne]; omega
                  clear hd h0 h1 t1 t9
                  have A := hid (pc_tick J1.out.pk J1.out.pi (by omega))
                  go_wp2_with fail
                  refine A.out.mono ?_
                  rintro e w6 ⟨r, s', rfl, k1, k2, hnow, r9, hr0, hx⟩
                  clear A
                  obtain ⟨E', hT⟩ := J1.out.tick k1 k2
                  have NO := hid (pknow_ok hT.pk)
                  rw [hnow] at NO
                  have HT := hid hT
                  have HX := hid hx
                  have LK : Hid (∀ x : Nat, x ≤ 1000 → (Instr.lookup 39 (.map (some mo)) (.int .i64 (x : Int)) false).run Try.prog w6 = .ok (.bool (o x)) w6) := fun x hx => hT.look x hx
                  clear J1 k1 k2 hnow hT hx
                  have Y : Hid (∃ E o s, PcB w E p mo (9 + (m + 1)) (m + 1) (m + 1) o s w6) := by
                    exact hid ⟨E', o, s', HT.out.more9⟩
                  clear HT
                  by_cases r0 : r = 0
                  · have q1 : ¬ (0 : Int) < (r : Int) := by omega
                    have q2 : ((r : Int) == 0) = true := by rw [beq_iff_eq]; omega
                    have HAL : Hid (∀ x, 1 ≤ x → x ≤ 6 → o x = true) := hid (fun x h1 h2 => by
                      cases hox : o x with
                      | true => rfl
                      | false => exact absurd r0 (HX.out x h1 h2 hox).1)
                    clear hr0 HX r0
                    go_upto_region 25 with (go_at_call 20; refine NO.out.mono ?_; rintro e w' ⟨rfl, rfl⟩)
                    go_wp2
                    go_loopw [11] (fun s11 wx => ∃ x : Nat, 1 ≤ x ∧ x ≤ 7 ∧ s11 = .int .i64 x ∧ wx = w6) (fun s11 _ => 8 - (intOf s11).toNat)
                    case atStart => exact ⟨1, by omega, by omega, rfl, rfl⟩
                    case round =>
                      obtain ⟨x, hx1, hx7, rfl, rfl⟩ := hrel
                      by_cases hx6 : x < 7
                      · have lk := LK.out x (by omega)
                        rw [HAL.out x hx1 (by omega)] at lk
                        go_wp2
                        go_roundw
                        case rel => exact ⟨x + 1, by omega, by omega, by go_num, trivial⟩
                        case measure => simp [intOf]; omega
                      · go_wp2
                        go_roundw
                        case rel => exact ⟨m + 1, by omega, by go_num, Y⟩
                        case measure => simp [intOf]; omega
                  · have q1 : (0 : Int) < (r : Int) := by omega
                    have q2 : ((r : Int) == 0) = false := by rw [beq_eq_false_iff_ne]; omega
                    have lkr := LK.out r (by omega)
                    rw [hr0 r0] at lkr
                    clear hr0
                    go_upto_region 25 with (go_at_call 20; refine NO.out.mono ?_; rintro e w' ⟨rfl, rfl⟩)
                    go_wp2
                    go_loopw [11] (fun s11 wx => ∃ x : Nat, 1 ≤ x ∧ x ≤ 7 ∧ s11 = .int .i64 x ∧ wx = w6) (fun s11 _ => 8 - (intOf s11).toNat)
                    case atStart => exact ⟨1, by omega, by omega, rfl, rfl⟩
                    case round =>
                      obtain ⟨x, hx1, hx7, rfl, rfl⟩ := hrel
                      by_cases hx6 : x < 7
                      · have lk := LK.out x (by omega)
                        cases hox : o x with
                        | true =>
                          rw [hox] at lk
                          clear hox
                          go_wp2
                          go_roundw
                          case rel => exact ⟨x + 1, by omega, by omega, by go_num, trivial⟩
                          case measure => simp [intOf]; omega
                        | false =>
                          rw [hox] at lk
                          have hle := (HX.out x hx1 (by omega) hox).2
                          have hle2 : ¬ ((r : Int) - 1) / 3 < ((x : Int) - 1) / 3 := by omega
                          clear hox
                          go_wp2
                          go_roundw
                          case rel => exact ⟨x + 1, by omega, by omega, by go_num, trivial⟩
                          case measure => simp [intOf]; omega
                      · go_wp2
                        go_roundw
                        case rel => exact ⟨m + 1, by omega, by go_num, Y⟩
                        case measure => simp [intOf]; omega
          · have hb : Hid (Below w.heap.size w wr) := by
              obtain ⟨E, o, s, j1⟩ := hJ.out
              exact hid j1.bel
            clear hJ
            go_wp2
            go_ret
            exact ⟨rfl, hb.out⟩
end Go.Proofs.Ytipmjfpoglkiaaa
