/- Contracts of slices.SortStableFunc as the law PrioGoes uses it. Conditions: at most 16 elements. -/
import Derived.Test.YtaffkdoiooablaaGoes
import Derived.Deep.QuietTactic
import Derived.BigQuiet
namespace Go.Proofs.Ytaffkdoiooablaa
open Go.ChangeShapes Go.WideShapes Go.ChangeAt Go.RowKit
set_option linter.unusedVariables false
/-- The priority of a task, by the argument. -/
def fOf (z : List Int) (x : Nat) : Int := rest (z.getD x 0) 8
theorem fOf_eq (z : List Int) (x : Nat) (h : x < z.length) : fOf z x = rest z[x] 8 := by simp [fOf, List.getD, List.getElem?_eq_getElem h]
theorem fOf_bd (z : List Int) (x : Nat) : 0 ≤ fOf z x ∧ fOf z x < 8 := ⟨rest_nonneg _ 8 (by omega), rest_lt _ 8 (by omega)⟩
theorem nats_set (ys : List Nat) (i x : Nat) : (nats ys).set i (x : Int) = nats (ys.set i x) := by simp [nats, List.map_set]
set_option maxHeartbeats 800000 in
theorem goesIns (R : Nat → Prop) (lp : Nat) (A : Option Addr) (n0 c0 : Nat) (z : List Int) (a : Option Addr) (n c : Nat) (G : Option Nat) (xs : List Nat) (w : World)
    (hz : Rd w R 1 A n0 c0 (ints .i64 z)) (hl : w.cell? ⟨lp, 0, none⟩ = some (.slice A n0 c0)) (h : Sl w 3 1 a n c (ints .i64 (nats xs)) G) (hn : n ≤ 16) (hx : ∀ x ∈ xs, x < z.length) (hR : ∀ k, R k → G ≠ some k) (hlp : G ≠ some lp) :
    Calls Try.prog 58 #[.slice a n c, .int .i64 0, .int .i64 (n : Int), .func (.func 23) #[] #[.pointer (some ⟨lp, 0, none⟩)]] w fun e w' => e = .returned (.tuple #[]) ∧ ∃ ys, SameBy (fOf z) xs ys ∧ OrdTo (fOf z) ys n ∧ Sl w' 3 1 a n c (ints .i64 (nats ys)) G ∧ Chg (Opt G) w w' := by
  have hnl : xs.length = n := by have := h.rd.ilen; rw [nats_len] at this; exact this
  have H := hid h
  have HZ := hid hz
  have HX := hid hx
  have HL := hid hl
  have HR := hid hR
  have HLP := hid hlp
  have hlpl := (lt_of_cell hl).1
  have hnl2 := hid hnl
  clear h hz hx hl hR hlp hnl
  go_enter Try.func58, Try.ntmps58
  go_wp2
  go_loopw [8] (fun s8 wr => ∃ (i : Nat) (ys : List Nat), 1 ≤ i ∧ s8 = .int .i64 i ∧ (i ≤ n ∨ i = 1) ∧ Hid (SameBy (fOf z) xs ys) ∧ Hid (OrdTo (fOf z) ys i) ∧ Hid (Sl wr 3 1 a n c (ints .i64 (nats ys)) G) ∧ Hid (Chg (Opt G) w wr)) (fun s8 _ => n - (intOf s8).toNat)
  case atStart => exact ⟨1, xs, by omega, rfl, .inr rfl, ⟨rfl, fun _ => rfl⟩, (fun a b x y h1 h2 => by omega), H, Chg.refl _ _⟩
  case round =>
    obtain ⟨i, ys, hi1, rfl, hi2, hS, hO, hL, hC⟩ := hrel
    by_cases hlt : i < n
    · obtain ⟨g, off, rfl, rfl, _⟩ := hL.out.block (by omega)
      have hlt2 : (i : Int) < n := by omega
      obtain ⟨wo, rfl⟩ : ∃ wo : World, wo = wr := ⟨_, rfl⟩
      have hB := hid hO.out.start
      go_wp2
      go_loopw [9] (fun s9 wr => ∃ (j : Nat) (ys : List Nat), j ≤ i ∧ s9 = .int .i64 j ∧ Hid (SameBy (fOf z) xs ys) ∧ Hid (OrdBut (fOf z) ys i j) ∧ Hid (Sl wr 3 1 (some ⟨g, off, none⟩) n c (ints .i64 (nats ys)) (some g)) ∧ Hid (Chg (One g) w wr)) (fun s9 _ => (intOf s9).toNat)
      case atStart => exact ⟨i, ys, by omega, rfl, hS, hB, hL, hC.out.mono (fun k _ hk => by injection hk with hk; exact hk.symm)⟩
      case round =>
        clear hS hO hL hC hB
        obtain ⟨j, ys, hj, rfl, hS, hO, hL, hC⟩ := hrel
        have hyl : ys.length = n := by rw [hS.out.1]; exact hnl2.out
        by_cases hj0 : j = 0
        · subst hj0
          have hO2 := hid hO.out.zero
          go_wp2
          go_region
          go_wp2
          go_roundw
          case rel => exact ⟨i + 1, ys, by omega, by go_num, .inl (by omega), hS, hO2, hL, hC.out.drew.mono (fun _ _ h => by rw [show _ = g from h]; rfl)⟩
          case measure => simp [intOf]; omega
        · obtain ⟨m, rfl⟩ : ∃ m, j = m + 1 := ⟨j - 1, by omega⟩
          obtain ⟨x0, hx0⟩ : ∃ x0, ys[m]? = some x0 := ⟨_, List.getElem?_eq_getElem (by omega)⟩
          obtain ⟨y0, hy0⟩ : ∃ y0, ys[m + 1]? = some y0 := ⟨_, List.getElem?_eq_getElem (by omega)⟩
          have hx1 : x0 < z.length := HX.out _ (hS.out.mem (List.mem_of_getElem? hx0))
          have hy1 : y0 < z.length := HX.out _ (hS.out.mem (List.mem_of_getElem? hy0))
          obtain ⟨g2, off2, e2, _, _, hc⟩ := hL.out.rd.at (i := m) (by rw [nats_len]; omega)
          injection e2 with e2
          injection e2 with e2 e3
          subst e2; subst e3
          have hcx := hc m (by rw [nats_len]; omega)
          have hcy := hc (m + 1) (by rw [nats_len]; omega)
          have ex : (nats ys)[m]'(by rw [nats_len]; omega) = (x0 : Int) := by
            have := List.getElem?_eq_some_iff.1 hx0; simp [nats, this.2]
          have ey : (nats ys)[m + 1]'(by rw [nats_len]; omega) = (y0 : Int) := by
            have := List.getElem?_eq_some_iff.1 hy0; simp [nats, this.2]
          rw [ex] at hcx
          rw [ey] at hcy
          have hfx := hL.out.unfrozen (i := m) (by omega)
          have hfy := hL.out.unfrozen (i := m + 1) (by omega)
          have HZ2 := hid (HZ.out.chg hC.out (fun k _ hk h1 => HR.out k hk (by rw [show k = g from h1])))
          have HL2 : Hid (wr.cell? ⟨lp, 0, none⟩ = some (.slice A n0 c0)) := hid ((hC.out.cell (a := ⟨lp, 0, none⟩) hlpl (fun hh => HLP.out (by rw [show lp = g from hh]))).trans HL.out)
          have HG : Hid (∀ q, Calls Try.prog 23 #[.int .i64 (y0 : Int), .int .i64 (x0 : Int), .pointer (some ⟨lp, 0, none⟩)] (wr.drewN q) fun e w' => e = .returned (.int .i64 (fOf z x0 - fOf z y0)) ∧ ∃ k, w' = (wr.drewN q).drewN k) := hid (fun q => by
            rw [fOf_eq z x0 hx1, fOf_eq z y0 hy1]
            exact goes1 R lp A n0 c0 y0 x0 z (wr.drewN q) (HZ2.out.drewN q) HL2.out hy1 hx1)
          have hmn : (m : Int) + 1 < n := by omega
          have hmn2 : (m : Int) < n := by omega
          have hgt : (0 : Int) < (m : Int) + 1 := by omega
          have hsub : IntKind.i64.wrap ((m : Int) + 1 - 1) = (m : Int) := by rw [IntWalk.i64_in _ (by omega)]; omega
          have hsub2 : (m : Int) + 1 - 1 = (m : Int) := by omega
          have HX0 := hid hx0
          have HY0 := hid hy0
          clear hc ex ey hx0 hy0 HZ2 HL2
          by_cases hcmp : fOf z x0 < fOf z y0
          · have hd : fOf z x0 - fOf z y0 < 0 := by omega
            have hO2 := hid (hO.out.swap hj HX0.out HY0.out hcmp)
            have hS2 := hid (hS.out.swap HX0.out HY0.out hcmp)
            have hL2 := (hL.out.put (i := m + 1) (by omega) (.int .i64 x0)).put (i := m) (by omega) (.int .i64 y0)
            rw [ints_set, ints_set, nats_set, nats_set] at hL2
            have HL3 := hid hL2
            clear hL2 hcmp
            go_wp2
            go_quiet ((go_at_call 23; exact Calls.quiet_of (HG.out _)))
            all_goals
              go_wp2
              go_region
              go_wp2
              go_roundw
              case rel => exact ⟨m, _, by omega, by go_num, hS2, hO2, HL3, ((hC.out.drewN (nq + 1)).setCell (p := ⟨g, off + (m + 1), none⟩) (.inl rfl) (.int .i64 x0)).setCell (p := ⟨g, off + m, none⟩) (.inl rfl) (.int .i64 y0)⟩
              case measure => simp [intOf]
          · have hd : ¬ fOf z x0 - fOf z y0 < 0 := by omega
            have hO2 := hid (hO.out.stop HX0.out HY0.out (by omega))
            clear hcmp
            go_wp2
            go_quiet ((go_at_call 23; exact Calls.quiet_of (HG.out _)))
            all_goals
              go_wp2
              go_roundw
              case rel => exact ⟨i + 1, ys, by omega, by go_num, .inl (by omega), hS, hO2, hL, (hC.out.drewN nq).mono (fun _ _ h => by rw [show _ = g from h]; rfl)⟩
              case measure => simp [intOf]; omega
    · have hin : (n : Int) ≤ i := by omega
      go_wp2
      go_end0
      exact ⟨rfl, ys, hS.out, (fun a b x y h1 h2 => hO.out a b x y h1 (by omega)), hL.out, hC.out⟩
set_option maxRecDepth 100000 in
theorem goesSort (R : Nat → Prop) (lp : Nat) (A : Option Addr) (n0 c0 : Nat) (z : List Int) (a : Option Addr) (n c : Nat) (G : Option Nat) (xs : List Nat) (w : World)
    (hz : Rd w R 1 A n0 c0 (ints .i64 z)) (hl : w.cell? ⟨lp, 0, none⟩ = some (.slice A n0 c0)) (h : Sl w 3 1 a n c (ints .i64 (nats xs)) G) (hn : n ≤ 16) (hx : ∀ x ∈ xs, x < z.length) (hR : ∀ k, R k → G ≠ some k) (hlp : G ≠ some lp) :
    Calls Try.prog 22 #[.slice a n c, .func (.func 23) #[] #[.pointer (some ⟨lp, 0, none⟩)]] w fun e w' => e = .returned (.tuple #[]) ∧ ∃ ys, SameBy (fOf z) xs ys ∧ OrdTo (fOf z) ys n ∧ Sl w' 3 1 a n c (ints .i64 (nats ys)) G ∧ Chg (Opt G) w w' := by
  have HI := hid (goesIns R lp A n0 c0 z a n c G xs w hz hl h hn hx hR hlp)
  clear hz hl h hx hR hlp
  have HS : Hid (Calls Try.prog 46 #[.slice a n c, .int .i64 (n : Int), .func (.func 23) #[] #[.pointer (some ⟨lp, 0, none⟩)]] w fun e w' => e = .returned (.tuple #[]) ∧ ∃ ys, SameBy (fOf z) xs ys ∧ OrdTo (fOf z) ys n ∧ Sl w' 3 1 a n c (ints .i64 (nats ys)) G ∧ Chg (Opt G) w w') := by
    show Calls _ _ _ _ _
    have h20 : (n : Int) < 20 := by omega
    go_enter Try.func46, Try.ntmps46
    go_wp2
    go_loop [7, 8] (fun s7 s8 => s7 = .int .i64 0 ∧ s8 = .int .i64 20) (fun _ _ => 0)
    case atStart => exact ⟨rfl, rfl⟩
    case round =>
      obtain ⟨rfl, rfl⟩ := hrel
      go_wp2_with fail
      refine HI.out.mono ?_
      rintro e w1 ⟨rfl, h1⟩
      have H1 := hid h1
      clear h1
      go_wp2
      go_loop [6] (fun s28 => s28 = .int .i64 20) (fun _ => 0)
      case atStart => rfl
      case round =>
        subst hrel
        go_wp2
        go_end0
        exact ⟨rfl, H1.out⟩
  go_enter Try.func22, Try.ntmps22
  go_wp2_with fail
  refine HS.out.mono ?_
  rintro e w1 ⟨rfl, h1⟩
  have H1 := hid h1
  clear h1
  go_wp2
  go_end0
  exact ⟨rfl, H1.out⟩
end Go.Proofs.Ytaffkdoiooablaa
