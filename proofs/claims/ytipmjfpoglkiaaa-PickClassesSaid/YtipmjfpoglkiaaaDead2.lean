/- More contracts of package dead: Wake, first, Pass, Tick, At, Now, Pick. Conditions: at most 1000 tasks, each as it may be; times below 2^30. -/
import Derived.Test.YtipmjfpoglkiaaaDead
namespace Go.Proofs.Ytipmjfpoglkiaaa
open Go.ChangeShapes Go.WideShapes Go.ChangeAt Go.RowKit
set_option linter.unusedVariables false
/-- Pass, as it goes: the tasks up to k are done. -/
def PassAt (w0 : World) (F : Nat → Prop) (p now : Nat) (ts : List DT) (a : Option Addr) (c : Nat) (G : Option Nat) (k : Nat) (w : World) : Prop := DA w F p (now + 1) (mapK (passT (now + 1)) ts k) a c G ∧ Chg F w0 w
set_option maxHeartbeats 1000000 in
theorem dpass_ok (w : World) (F : Nat → Prop) (p now : Nat) (ts : List DT) (h : DeadAt w F p now ts) (hl : ts.length ≤ 1000) (hn : now ≤ 1073741824) (hok : ∀ x ∈ ts, DOk now x) :
    Calls Try.prog 28 #[.pointer (some ⟨p, 0, none⟩)] w fun e w' => e = .returned (.tuple #[]) ∧ DeadAt w' F p (now + 1) (ts.map (passT (now + 1))) ∧ Chg F w w' := by
  obtain ⟨a, c, G, h⟩ := h
  have c0 := h.c0
  have c1 := h.c1
  have f0 := h.f0 0
  have HO := hid hok
  have H := hid h
  have hI : PassAt w F p now ts a c G 0 (w.setCell ⟨p, 0, none⟩ (.int .i64 ((now : Int) + 1))) := by
    refine ⟨?_, (Chg.refl F w).setCell (p := ⟨p, 0, none⟩) (.inl h.fp) _⟩
    rw [mapK_zero]
    exact h.tick (now + 1) _ (by omega)
  replace hI := hid hI
  clear h hok
  go_enter Try.func28, Try.ntmps28
  go_wp2
  go_loopw [16] (fun s16 wr => ∃ k : Nat, k ≤ ts.length ∧ s16 = .int .i64 k ∧ Hid (PassAt w F p now ts a c G k wr)) (fun s16 _ => ts.length - (intOf s16).toNat)
  case atStart => exact ⟨0, by omega, rfl, hI⟩
  case round =>
    obtain ⟨k, hk, rfl, hJ⟩ := hrel
    clear hI c0 c1 f0
    by_cases hlt : k < ts.length
    · obtain ⟨j1, j2⟩ := id hJ.out
      have hxk := mapK_get (passT (now + 1)) ts k hlt
      obtain ⟨g, off, rfl, rfl, hg, hne⟩ := j1.at (by rw [mapK_len]; omega)
      have c0 := j1.c0
      have c1 := j1.c1
      rw [mapK_len] at c1
      have x1 := j1.cell hxk 1 (by omega)
      have x2 := j1.cell hxk 2 (by omega)
      have x3 := j1.cell hxk 3 (by omega)
      have x4 := j1.cell hxk 4 (by omega)
      have x6 := j1.cell hxk 6 (by omega)
      have f3 := j1.free (by rw [mapK_len]; omega) (off + k * 7 + 3)
      have f4 := j1.free (by rw [mapK_len]; omega) (off + k * 7 + 4)
      have f6 := j1.free (by rw [mapK_len]; omega) (off + k * 7 + 6)
      simp only [dtCells, List.getElem?_cons_succ, List.getElem?_cons_zero] at x1 x2 x3 x4 x6
      have hd2 := (HO.out ts[k] (List.getElem_mem hlt)).d2
      have hp2 := (HO.out ts[k] (List.getElem_mem hlt)).p2
      have HS := hid (mapK_succ (passT (now + 1)) ts k hlt)
      have HK := hid hxk
      generalize hx : ts[k] = x at *
      replace hx := hid hx
      clear hxk
      replace j1 := hid j1
      replace j2 := hid j2
      rw [show ((now + 1 : Nat) : Int) = (now : Int) + 1 by omega] at c0
      cases ho : x.o with
      | false =>
        have hp : passT (now + 1) x = x := by simp [passT, ho]
        rw [ho] at x6
        have HP := hid hp
        clear hp
        replace ho := hid ho
        go_wp2
        go_quiet (fail)
        go_wp2
        go_roundw
        case rel =>
          refine ⟨k + 1, by omega, by go_num, ?_, j2.out.drewN _⟩
          rw [← HS.out, HP.out]
          have : (mapK (passT (now + 1)) ts k).set k x = mapK (passT (now + 1)) ts k := by
            obtain ⟨h1, h2⟩ := List.getElem?_eq_some_iff.1 HK.out
            rw [← h2]; exact List.set_getElem_self _
          rw [this]
          exact j1.out.drewN _
        case measure => simp [intOf]; omega
      | true =>
        rw [ho] at x6
        by_cases hdn : x.d ≤ now + 1
        · have hdi : (x.d : Int) ≤ (now : Int) + 1 := by omega
          have hw := IntWalk.i64_in ((x.d : Int) + (x.p : Int)) (by omega)
          have hp : passT (now + 1) x = { x with o := false, l := x.b, d := x.d + x.p } := by simp [passT, ho, hdn]
          have HP := hid hp
          clear hp
          replace ho := hid ho
          go_wp2
          go_quiet (fail)
          go_wp2
          go_region
          go_wp2
          go_roundw
          case rel =>
            have hkl : k < (mapK (passT (now + 1)) ts k).length := by rw [mapK_len]; exact hlt
            have y1 := (j1.out.drewN (nq + 1)).put (y := { x with o := false }) (u := .bool false) HK.out (j := 6) (by omega) rfl
            have y2 := y1.put (y := { x with o := false, l := x.b }) (u := .int .i64 x.b) (List.getElem?_set_self hkl) (j := 3) (by omega) rfl
            have y3 := y2.put (y := { x with o := false, l := x.b, d := x.d + x.p }) (u := .int .i64 ((x.d : Int) + (x.p : Int))) (List.getElem?_set_self (by rw [List.length_set]; exact hkl)) (j := 4) (by omega) rfl
            rw [set_setD, set_setD, ← HP.out, HS.out] at y3
            have hFg := j1.out.fg g rfl
            exact ⟨k + 1, by omega, by go_num, y3, (((j2.out.drewN (nq + 1)).setCell (p := ⟨g, off + k * 7 + 6, none⟩) (.inl hFg) _).setCell (p := ⟨g, off + k * 7 + 3, none⟩) (.inl hFg) _).setCell (p := ⟨g, off + k * 7 + 4, none⟩) (.inl hFg) _⟩
          case measure => simp [intOf]; omega
        · have hdi : decide ((x.d : Int) ≤ (now : Int) + 1) = false := by simp; omega
          have hp : passT (now + 1) x = x := by simp [passT, ho, hdn]
          have HP := hid hp
          clear hp
          replace ho := hid ho
          go_wp2
          go_quiet (fail)
          go_wp2
          go_roundw
          case rel =>
            refine ⟨k + 1, by omega, by go_num, ?_, j2.out.drewN _⟩
            rw [← HS.out, HP.out]
            have : (mapK (passT (now + 1)) ts k).set k x = mapK (passT (now + 1)) ts k := by
              obtain ⟨h1, h2⟩ := List.getElem?_eq_some_iff.1 HK.out
              rw [← h2]; exact List.set_getElem_self _
            rw [this]
            exact j1.out.drewN _
          case measure => simp [intOf]; omega
    · obtain ⟨j1, j2⟩ := id hJ.out
      rw [mapK_all _ _ _ (by omega)] at j1
      go_wp2
      go_end0
      exact ⟨rfl, ⟨_, _, _, j1⟩, j2⟩
/-- Where the best of a list lies. -/
def bestPtr (g off : Nat) : Option Nat → Value
  | none => .pointer none
  | some j => .pointer (some ⟨g, off + j * 7, none⟩)
def PFirst (ts : List DT) (g off : Nat) (w : World) (e : Ending) (w' : World) : Prop := ∃ b, IsFirst ts ts.length b ∧ e = .returned (bestPtr g off b) ∧ ∃ n, w' = w.drewN n
set_option maxHeartbeats 1000000 in
theorem dfirst_ok (w : World) (F : Nat → Prop) (p now : Nat) (ts : List DT) (g off : Nat) (c : Nat) (G : Option Nat) (h : DA w F p now ts (some ⟨g, off, none⟩) c G) (hl : ts.length ≤ 1000) :
    Calls Try.prog 42 #[.pointer (some ⟨p, 0, none⟩)] w (PFirst ts g off w) := by
  have c1 := h.c1
  have H := hid h
  clear h
  go_enter Try.func42, Try.ntmps42
  go_wp2
  go_loopw [3, 11] (fun s3 s11 wr => ∃ (k : Nat) (b : Option Nat) (n : Nat), k ≤ ts.length ∧ s11 = .int .i64 k ∧ s3 = bestPtr g off b ∧ Hid (IsFirst ts k b) ∧ wr = w.drewN n) (fun _ s11 _ => ts.length - (intOf s11).toNat)
  case atStart => exact ⟨0, none, 0, by omega, rfl, rfl, fun i x hi => absurd hi (by omega), rfl⟩
  case round =>
    obtain ⟨k, b, n, hk, rfl, rfl, hF, rfl⟩ := hrel
    by_cases hlt : k < ts.length
    · have hxk := List.getElem?_eq_getElem hlt
      generalize ts[k] = x at hxk
      have x0 := H.out.cell hxk 0 (by omega)
      have x4 := H.out.cell hxk 4 (by omega)
      have x5 := H.out.cell hxk 5 (by omega)
      have x6 := H.out.cell hxk 6 (by omega)
      simp only [dtCells, List.getElem?_cons_succ, List.getElem?_cons_zero, Nat.add_zero] at x0 x4 x5 x6
      replace hxk := hid hxk
      cases hr : x.r with
      | false =>
        have he : elig x = false := by simp [elig, hr]
        rw [hr] at x5
        replace hr := hid hr
        replace he := hid he
        go_wp2
        go_quiet (fail)
        go_wp2
        go_roundw
        case rel => exact ⟨k + 1, b, _, by omega, by go_num, rfl, first_no hF.out hxk.out he.out, rfl⟩
        case measure => simp [intOf]; omega
      | true =>
        rw [hr] at x5
        cases ho : x.o with
        | true =>
          have he : elig x = false := by simp [elig, ho]
          rw [ho] at x6
          replace hr := hid hr
          replace ho := hid ho
          replace he := hid he
          go_wp2
          go_quiet (fail)
          go_wp2
          go_roundw
          case rel => exact ⟨k + 1, b, _, by omega, by go_num, rfl, first_no hF.out hxk.out he.out, rfl⟩
          case measure => simp [intOf]; omega
        | false =>
          have he : elig x = true := by simp [elig, hr, ho]
          rw [ho] at x6
          replace hr := hid hr
          replace ho := hid ho
          replace he := hid he
          cases b with
          | none =>
            simp only [bestPtr]
            go_wp2
            go_quiet (fail)
            go_wp2
            go_roundw
            case rel => exact ⟨k + 1, some k, _, by omega, by go_num, rfl, first_one hF.out hxk.out he.out, rfl⟩
            case measure => simp [intOf]; omega
          | some j =>
            obtain ⟨y, hj, hyj, hey, _⟩ := id hF.out
            have y0 := H.out.cell hyj 0 (by omega)
            have y4 := H.out.cell hyj 4 (by omega)
            simp only [dtCells, List.getElem?_cons_succ, List.getElem?_cons_zero, Nat.add_zero] at y0 y4
            replace hyj := hid hyj
            replace hey := hid hey
            simp only [bestPtr]
            by_cases h1 : x.d < y.d
            · have t1 : decide ((x.d : Int) < (y.d : Int)) = true := by simp; omega
              go_wp2
              go_quiet (fail)
              go_wp2
              go_roundw
              case rel => exact ⟨k + 1, some k, _, by omega, by go_num, rfl, first_new hF.out hyj.out hxk.out he.out (.inl h1), rfl⟩
              case measure => simp [intOf]; omega
            · have t1 : decide ((x.d : Int) < (y.d : Int)) = false := by simp; omega
              by_cases h2 : x.d = y.d
              · have t2 : ((x.d : Int) == (y.d : Int)) = true := by rw [beq_iff_eq]; omega
                by_cases h3 : x.t < y.t
                · have hA : ahead x y := .inr ⟨h2, Nat.le_of_lt h3⟩
                  have t3 : decide ((x.t : Int) < (y.t : Int)) = true := by simp; omega
                  replace hA := hid hA
                  replace h2 := hid h2
                  go_wp2
                  go_quiet (fail)
                  go_wp2
                  go_roundw
                  case rel => exact ⟨k + 1, some k, _, by omega, by go_num, rfl, first_new hF.out hyj.out hxk.out he.out hA.out, rfl⟩
                  case measure => simp [intOf]; omega
                · have hA : ahead y x := .inr ⟨h2.symm, by omega⟩
                  have t3 : decide ((x.t : Int) < (y.t : Int)) = false := by simp; omega
                  replace hA := hid hA
                  replace h2 := hid h2
                  go_wp2
                  go_quiet (fail)
                  go_wp2
                  go_roundw
                  case rel => exact ⟨k + 1, some j, _, by omega, by go_num, rfl, first_old hF.out hyj.out hxk.out hA.out, rfl⟩
                  case measure => simp [intOf]; omega
              · have t2 : ((x.d : Int) == (y.d : Int)) = false := by rw [beq_eq_false_iff_ne]; omega
                have hA : ahead y x := .inl (by omega)
                replace hA := hid hA
                replace h2 := hid h2
                go_wp2
                go_quiet (fail)
                go_wp2
                go_roundw
                case rel => exact ⟨k + 1, some j, _, by omega, by go_num, rfl, first_old hF.out hyj.out hxk.out hA.out, rfl⟩
                case measure => simp [intOf]; omega
    · obtain rfl : k = ts.length := by omega
      go_wp2
      go_ret
      exact ⟨b, hF.out, rfl, _, rfl⟩
end Go.Proofs.Ytipmjfpoglkiaaa
