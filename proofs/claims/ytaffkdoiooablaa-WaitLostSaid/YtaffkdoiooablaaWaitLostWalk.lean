/- The walk of the law WaitLost: it returns true and changes nothing that was there. No condition. -/
import Derived.Test.YtaffkdoiooablaaWait4
namespace Go.Proofs.Ytaffkdoiooablaa
open Go.ChangeShapes Go.WideShapes Go.ChangeAt Go.RowKit
set_option linter.unusedVariables false
theorem rest_nat (k n : Int) (w : World) (h1 : 1 ≤ n) (h2 : n ≤ 9223372036854775807) :
    Calls Try.prog 15 #[.int .i64 k, .int .i64 n] w fun e w' => ∃ q : Nat, (q : Int) < n ∧ e = .returned (.int .i64 q) ∧ w = w' := by
  refine (rest_any k n w h1 h2).mono ?_
  rintro e w' ⟨rfl, rfl⟩
  have hb1 := rest_nonneg k n h1
  have hb2 := rest_lt k n h1
  obtain ⟨q, hq⟩ := Int.eq_ofNat_of_zero_le hb1
  exact ⟨q, by omega, by rw [hq], rfl⟩
/-- Others: none of them is this one, and none wants to be alone. -/
def Oth (T : Int) (l : List WT) : Prop := ∀ y ∈ l, y.al = false ∧ y.t ≠ T
theorem oth_waits {T : Int} {l : List WT} (h : Oth T l) : waits l T = false := by
  unfold waits
  rw [decide_eq_false_iff_not, List.mem_map]
  rintro ⟨y, hy, he⟩
  exact (h y hy).2 he
theorem oth_alone {T : Int} {l : List WT} (h : Oth T l) : alone l = 0 := by
  unfold alone
  rw [List.length_eq_zero_iff, List.filter_eq_nil_iff]
  intro y hy
  rw [(h y hy).1]; simp
theorem alone_snoc {T : Int} {l : List WT} (h : Oth T l) (x : WT) : alone (l ++ [x]) ≤ 1 := by
  have := oth_alone h
  unfold alone at *
  rw [List.filter_append, List.length_append, this]
  have := List.length_filter_le WT.al [x]
  simp at this ⊢
  omega
theorem PList.open {l : List WT} {w : World} {e : Ending} {w' : World} (h : PList l w e w') : ∃ a c G, e = .returned (.slice a l.length c) ∧ Sl w' 3 1 a l.length c (ints .i64 (l.map WT.t)) G ∧ Chg Nil w w' := by
  obtain ⟨a, c, G, h1, h2, h3, _⟩ := h
  exact ⟨a, c, G, h1, h2, h3⟩
set_option maxRecDepth 100000 in
set_option maxHeartbeats 4000000 in
theorem waitLost_walk (a0 : Int) (a1 a2 : Bool) (a3 : Option Addr) (len3 cap3 : Nat) (z3 : List Int) (w : World) (w0 : (Lit.int .i64 a0).wf = true) (w3 : IsRow .i64 w a3 len3 cap3 z3) :
    Calls Try.prog 6 #[.int .i64 a0, .bool a1, .bool a2, .slice a3 len3 cap3] w fun e w' => e = .returned (.bool true) ∧ Below w.heap.size w w' := by
  have hl1 := w3.1.1
  have hl2 := w3.1.2.1
  unfold maxLen at hl2
  have Z3 := hid w3.1.ilen
  have W3 := hid w3.1
  clear w3
  go_enter Try.func6, Try.ntmps6
  go_wp2_with fail
  refine (qbegun_ok _).mono ?_
  rintro e w1 ⟨rfl, c1⟩
  have C1 := hid (Chg.below c1 (fun i hi h => h) (Nat.le_refl _))
  clear c1
  go_wp2_with fail
  refine (qnew_ok _).mono ?_
  rintro e w2 ⟨F, p, rfl, h2, c2, g2⟩
  have hM := hid (qnew_mem w1 w2 F p w C1.out h2 c2 g2)
  clear h2 c2 g2 C1
  go_wp2_with fail
  refine (rest_nat _ 16 _ (by omega) (by omega)).mono ?_
  rintro e w3 ⟨q, hq, rfl, rfl⟩
  obtain ⟨T, hT⟩ : ∃ T : Int, T = 1 + (q : Int) := ⟨_, rfl⟩
  have hT1 : 1 ≤ T := by omega
  have hT2 : T ≤ 16 := by omega
  have hTe : 1 + (q : Int) = T := hT.symm
  clear hT
  go_upto_region 5 with fail
  go_cut [29, 30, 31] (fun s29 s30 s31 wx => wx = w2 ∧ ∃ N : Nat, N ≤ 20 ∧ N ≤ len3 ∧ s29 = .slice a3 N cap3 ∧ s30 = .int .i64 N ∧ s31 = .int .i64 0)
  case first =>
    go_wp2
    · go_meet
      exact ⟨rfl, 20, by omega, by omega, rfl, rfl, rfl⟩
    · go_meet
      exact ⟨rfl, len3, by omega, by omega, by simp, by simp, rfl⟩
  case rest =>
    obtain ⟨rfl, N, hN1, hN2, rfl, rfl, rfl⟩ := hcut
    clear hTe hq
    go_wp2
    go_loopw [31] (fun s31 wr => ∃ (k : Nat) (F : Nat → Prop) (l : List WT), k ≤ N ∧ l.length ≤ k ∧ s31 = .int .i64 k ∧ Hid (Oth T l) ∧ Hid (QMem w.heap.size w F p l 0 0 (fun _ => none) wr)) (fun s31 _ => N - (intOf s31).toNat)
    case atStart => exact ⟨0, F, [], by omega, by simp, rfl, (fun y hy => by cases hy), hM⟩
    case round =>
      clear hM
      obtain ⟨k, F, l, hk, hlk, rfl, hO, hM⟩ := hrel
      by_cases hlt : k < N
      · have hz : k < z3.length := by have := Z3.out; omega
        obtain ⟨g, off, rfl, _, _, hc⟩ := (W3.out.below hM.out.bel (fun _ h => h)).at hz
        have hc1 := hc k hz
        clear hc
        generalize z3[k] = z at hc1
        go_wp2_with fail
        refine (rest_nat _ 16 _ (by omega) (by omega)).mono ?_
        rintro e w4 ⟨y, hy, rfl, rfl⟩
        obtain ⟨Y, hY⟩ : ∃ Y : Int, 1 + (y : Int) = Y := ⟨_, rfl⟩
        have hY1 : 1 ≤ Y := by omega
        have hY2 : Y ≤ 16 := by omega
        by_cases hYT : Y = T
        · have hb : (Y != T) = false := by rw [bne_eq_false_iff_eq]; exact hYT
          replace hYT := hid hYT
          go_wp2
          go_roundw
          case rel => exact ⟨k + 1, F, l, by omega, by omega, by go_num, hO, hM⟩
          case measure => simp [intOf]; omega
        · have hb : (Y != T) = true := by rw [bne_iff_ne]; exact hYT
          have HYT := hid hYT
          clear hYT
          cases hwt : waits l Y with
          | true =>
            have HWT := hid hwt
            clear hwt
            go_wp2_with fail
            refine (qadd_has _ F p l 0 0 _ Y false hM.out.q (by omega) hY1 hY2 HWT.out).mono ?_
            rintro e w5 ⟨F5, rfl, h5, c5, g5⟩
            have hM5 := hid (hM.out.step h5 c5 g5)
            clear h5 c5 g5
            go_wp2
            go_roundw
            case rel => exact ⟨k + 1, F5, l, by omega, by omega, by go_num, hO, hM5⟩
            case measure => simp [intOf]; omega
          | false =>
            have HWT := hid hwt
            clear hwt
            go_wp2_with fail
            refine (qadd_ok _ F p l 0 0 _ Y false hM.out.q (by omega) hY1 hY2 HWT.out).mono ?_
            rintro e w5 ⟨F5, rfl, h5, c5, g5⟩
            have hM5 := hid (hM.out.step h5 c5 g5)
            have hO5 : Oth T (l ++ [WT.mk Y false]) := fun x hx => by
              rcases List.mem_append.1 hx with h1 | h1
              · exact hO.out x h1
              · rw [List.mem_singleton.1 h1]; exact ⟨rfl, HYT.out⟩
            replace hO5 := hid hO5
            clear h5 c5 g5
            go_wp2
            go_roundw
            case rel => exact ⟨k + 1, F5, _, by omega, by simp; omega, by go_num, hO5, hM5⟩
            case measure => simp [intOf]; omega
      · have hw0 := hid (oth_waits hO.out)
        go_wp2_with fail
        refine (qlook_ok _ F p l 0 0 _ T hM.out.q (by omega) hT1 hT2 hw0.out (by omega) (by omega) (by omega)).mono ?_
        rintro e w4 ⟨rfl, h4, c4⟩
        have hM4 := hid (hM.out.step h4 c4 (Grew.refl _ _))
        clear h4 c4 hM
        cases a2 with
        | true =>
          have hal := hid (Nat.le_of_eq (oth_alone hO.out))
          go_wp2_with fail
          refine (qwake_all _ F p l 0 _ _ 0 hM4.out.q (by omega) hal.out (by omega) (by omega) (by omega)).mono ?_
          rintro e w5 ⟨a5, c5, G5, rfl, s5, h5, d5, g5⟩
          have hM5 := hid (hM4.out.step h5 d5 (Grew.refl _ _))
          clear s5 h5 d5 g5 hM4
          have HF : Hid (updM (fun _ => none) T (some (.int .i64 (0 + 1))) T = some (.int .i64 1)) := by simp [updM, Hid]
          go_wp2_with fail
          refine (qsleep_no _ F p [] (0 + 1) _ _ T 1 a1 hM5.out.q (by simp) hT1 hT2 (by omega) (by omega) (by omega) HF.out rfl (by omega)).mono ?_
          rintro e w6 ⟨rfl, h6, c6⟩
          have hM6 := hid (hM5.out.step h6 c6 (Grew.refl _ _))
          clear h6 c6 hM5
          go_wp2_with fail
          refine (qlist_ok _ F p [] _ _ _ hM6.out.q (by simp)).mono ?_
          intro e w7 hPL
          obtain ⟨a7, c7, G7, rfl, s7, d7⟩ := hPL.open
          clear hPL
          have hM7 := hid (hM6.out.nil d7)
          have S7 := hid s7
          clear s7 d7 hM6
          go_wp2_with fail
          refine (contains_int _ _ _ _ ([] : List Int) T _ S7.out.rd (by simp)).mono ?_
          rw [hasI_false (l := []) (t := T) (by simp)]
          rintro e w8 ⟨rfl, rfl⟩
          have HF2 : Hid (updM (updM (fun _ => none) T (some (.int .i64 (0 + 1)))) T none T = none) := by simp [updM, Hid]
          go_wp2_with fail
          refine (qsleep_state _ F p [] _ _ _ T a1 hM7.out.q hT1 hT2 HF2.out).mono ?_
          rintro e w8 ⟨rfl, rfl⟩
          go_wp2_with fail
          refine (qwake_all _ F p [] _ _ _ 1 hM7.out.q (by simp) (by simp [alone]) (by omega) (by omega) (by omega)).mono ?_
          rintro e w9 ⟨a9, c9, G9, rfl, s9, h9, d9, g9⟩
          have hM9 := hid (hM7.out.step h9 d9 (Grew.refl _ _))
          have S9 := hid s9
          clear s9 h9 d9 g9
          go_wp2_with fail
          refine (contains_int _ _ _ _ ([] : List Int) T _ S9.out.rd (by simp)).mono ?_
          rw [hasI_false (l := []) (t := T) (by simp)]
          rintro e w8 ⟨rfl, rfl⟩
          go_wp2_with fail
          refine (qlist_ok _ F p [] _ _ _ hM9.out.q (by simp)).mono ?_
          intro e w10 hPL
          obtain ⟨a10, c10, G10, rfl, s10, d10⟩ := hPL.open
          clear hPL
          have hM10 := hid (hM9.out.nil d10)
          clear s10 d10
          go_wp2
          go_ret
          exact ⟨rfl, hM10.out.bel⟩
        | false =>
          have HF : Hid (updM (fun _ => none) T (some (.int .i64 (0 + 1))) T = some (.int .i64 (0 + 1))) := by simp [updM, Hid]
          go_wp2_with fail
          refine (qsleep_yes _ F p l 0 _ _ T a1 hM4.out.q (by omega) hT1 hT2 (by omega) (by omega) HF.out hw0.out).mono ?_
          rintro e w6 ⟨F6, rfl, h6, c6, g6⟩
          have hM6 := hid (hM4.out.step h6 c6 g6)
          clear h6 c6 g6 hM4
          have hlen : (l ++ [WT.mk T a1]).length ≤ 1000 := by simp; omega
          have hal := hid (alone_snoc hO.out (WT.mk T a1))
          have hin := hid (hasI_true (l := (l ++ [WT.mk T a1]).map WT.t) (t := T) (by simp))
          obtain ⟨l2, hl2e⟩ : ∃ l2, l2 = l ++ [WT.mk T a1] := ⟨_, rfl⟩
          rw [← hl2e] at hM6 hlen hal hin
          clear hl2e
          go_wp2_with fail
          refine (qlist_ok _ F6 p l2 _ _ _ hM6.out.q hlen).mono ?_
          intro e w7 hPL
          obtain ⟨a7, c7, G7, rfl, s7, d7⟩ := hPL.open
          clear hPL
          have hM7 := hid (hM6.out.nil d7)
          have S7 := hid s7
          clear s7 d7 hM6
          go_wp2_with fail
          refine (contains_int _ _ _ _ (l2.map WT.t) T _ S7.out.rd (by omega)).mono ?_
          rw [hin.out]
          rintro e w8 ⟨rfl, rfl⟩
          have HF2 : Hid (updM (updM (fun _ => none) T (some (.int .i64 (0 + 1)))) T none T = none) := by simp [updM, Hid]
          go_wp2_with fail
          refine (qsleep_state _ F6 p l2 _ _ _ T a1 hM7.out.q hT1 hT2 HF2.out).mono ?_
          rintro e w8 ⟨rfl, rfl⟩
          go_wp2_with fail
          refine (qwake_all _ F6 p l2 _ _ _ 1 hM7.out.q hlen hal.out (by omega) (by omega) (by omega)).mono ?_
          rintro e w9 ⟨a9, c9, G9, rfl, s9, h9, d9, g9⟩
          have hM9 := hid (hM7.out.step h9 d9 (Grew.refl _ _))
          have S9 := hid s9
          clear s9 h9 d9 g9
          go_wp2_with fail
          refine (contains_int _ _ _ _ (l2.map WT.t) T _ S9.out.rd (by omega)).mono ?_
          rw [hin.out]
          rintro e w8 ⟨rfl, rfl⟩
          go_wp2_with fail
          refine (qlist_ok _ F6 p [] _ _ _ hM9.out.q (by simp)).mono ?_
          intro e w10 hPL
          obtain ⟨a10, c10, G10, rfl, s10, d10⟩ := hPL.open
          clear hPL
          have hM10 := hid (hM9.out.nil d10)
          clear s10 d10
          go_wp2
          go_ret
          exact ⟨rfl, hM10.out.bel⟩
end Go.Proofs.Ytaffkdoiooablaa
