/- The last contracts of package fair, where no group is there: first, next, Tick, At, Block, Wake. Conditions: at most 1000 tasks, each as it may be; virtual times below 2^50. -/
import Derived.Test.YtpafafleepcjdaaFair2
namespace Go.Proofs.Ytpafafleepcjdaa
open Go.ChangeShapes Go.WideShapes Go.ChangeAt Go.RowKit
set_option linter.unusedVariables false
set_option maxHeartbeats 1000000 in
theorem ffirst_ok (w : World) (F : Nat → Prop) (p : Nat) (ts : List FT) (g off : Nat) (c : Nat) (G : Option Nat) (mb : Nat) (h : FA w F p ts (some ⟨g, off, none⟩) c G mb) (hl : ts.length ≤ 1000) (hg : ∀ y ∈ ts, y.g = 0) :
    Calls Try.prog 25 #[.pointer (some ⟨p, 0, none⟩), .int .i64 0] w (PFirstF ts g off w) := by
  have c0 := h.c0
  have H := hid h
  have HG := hid hg
  clear h hg
  go_enter Try.func25, Try.ntmps25
  go_wp2
  go_loopw [5, 13] (fun s3 s11 wr => ∃ (k : Nat) (b : Option Nat) (n : Nat), k ≤ ts.length ∧ s11 = .int .i64 k ∧ s3 = bestPtrF g off b ∧ Hid (FFirst ts k b) ∧ wr = w.drewN n) (fun _ s11 _ => ts.length - (intOf s11).toNat)
  case atStart => exact ⟨0, none, 0, by omega, rfl, rfl, fun i x hi => absurd hi (by omega), rfl⟩
  case round =>
    obtain ⟨k, b, n, hk, rfl, rfl, hF, rfl⟩ := hrel
    by_cases hlt : k < ts.length
    · have hxk := List.getElem?_eq_getElem hlt
      generalize ts[k] = x at hxk
      have x0 := H.out.cell hxk 0 (by omega)
      have x2 := H.out.cell hxk 2 (by omega)
      have x3 := H.out.cell hxk 3 (by omega)
      have x4 := H.out.cell hxk 4 (by omega)
      simp only [ftCells, List.getElem?_cons_succ, List.getElem?_cons_zero, Nat.add_zero] at x0 x2 x3 x4
      rw [HG.out x (List.mem_of_getElem? hxk)] at x2
      replace hxk := hid hxk
      cases hr : x.r with
      | false =>
        rw [hr] at x4
        replace hr := hid hr
        go_wp2
        go_quiet (fail)
        go_wp2
        go_roundw
        case rel => exact ⟨k + 1, b, _, by omega, by go_num, rfl, ffirst_no hF.out hxk.out hr.out, rfl⟩
        case measure => simp [intOf]; omega
      | true =>
        rw [hr] at x4
        replace hr := hid hr
        cases b with
        | none =>
          simp only [bestPtrF]
          go_wp2
          go_quiet (fail)
          go_wp2
          go_roundw
          case rel => exact ⟨k + 1, some k, _, by omega, by go_num, rfl, ffirst_one hF.out hxk.out hr.out, rfl⟩
          case measure => simp [intOf]; omega
        | some j =>
          obtain ⟨y, hj, hyj, hey, _⟩ := id hF.out
          have y0 := H.out.cell hyj 0 (by omega)
          have y3 := H.out.cell hyj 3 (by omega)
          simp only [ftCells, List.getElem?_cons_succ, List.getElem?_cons_zero, Nat.add_zero] at y0 y3
          replace hyj := hid hyj
          replace hey := hid hey
          simp only [bestPtrF]
          by_cases h1 : x.v < y.v
          · have t1 : decide ((x.v : Int) < (y.v : Int)) = true := by simp; omega
            go_wp2
            go_quiet (fail)
            go_wp2
            go_roundw
            case rel => exact ⟨k + 1, some k, _, by omega, by go_num, rfl, ffirst_new hF.out hyj.out hxk.out hr.out (.inl h1), rfl⟩
            case measure => simp [intOf]; omega
          · have t1 : decide ((x.v : Int) < (y.v : Int)) = false := by simp; omega
            by_cases h2 : x.v = y.v
            · have t2 : ((x.v : Int) == (y.v : Int)) = true := by rw [beq_iff_eq]; omega
              by_cases h3 : x.t < y.t
              · have hA : aheadF x y := .inr ⟨h2, Nat.le_of_lt h3⟩
                have t3 : decide ((x.t : Int) < (y.t : Int)) = true := by simp; omega
                replace hA := hid hA
                replace h2 := hid h2
                go_wp2
                go_quiet (fail)
                go_wp2
                go_roundw
                case rel => exact ⟨k + 1, some k, _, by omega, by go_num, rfl, ffirst_new hF.out hyj.out hxk.out hr.out hA.out, rfl⟩
                case measure => simp [intOf]; omega
              · have hA : aheadF y x := .inr ⟨h2.symm, by omega⟩
                have t3 : decide ((x.t : Int) < (y.t : Int)) = false := by simp; omega
                replace hA := hid hA
                replace h2 := hid h2
                go_wp2
                go_quiet (fail)
                go_wp2
                go_roundw
                case rel => exact ⟨k + 1, some j, _, by omega, by go_num, rfl, ffirst_old hF.out hyj.out hxk.out hA.out, rfl⟩
                case measure => simp [intOf]; omega
            · have t2 : ((x.v : Int) == (y.v : Int)) = false := by rw [beq_eq_false_iff_ne]; omega
              have hA : aheadF y x := .inl (by omega)
              replace hA := hid hA
              replace h2 := hid h2
              go_wp2
              go_quiet (fail)
              go_wp2
              go_roundw
              case rel => exact ⟨k + 1, some j, _, by omega, by go_num, rfl, ffirst_old hF.out hyj.out hxk.out hA.out, rfl⟩
              case measure => simp [intOf]; omega
    · obtain rfl : k = ts.length := by omega
      go_wp2
      go_ret
      exact ⟨b, hF.out, rfl, _, rfl⟩
end Go.Proofs.Ytpafafleepcjdaa
