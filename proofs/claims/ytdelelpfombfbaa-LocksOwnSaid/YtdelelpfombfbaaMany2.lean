/- Contracts of the lock that many may hold: has, go_. Conditions: at most 1000 hold it or wait. -/
import Derived.Test.YtdelelpfombfbaaMany
import Derived.Deep.QuietTactic
import Derived.BigQuiet
namespace Go.Proofs.Ytdelelpfombfbaa
open Go.ChangeShapes Go.WideShapes Go.ChangeAt Go.RowKit
set_option linter.unusedVariables false
theorem contains_q (R : Nat → Prop) (a : Option Addr) (n c : Nat) (l : List Int) (t : Int) (w : World) (h : Rd w R 1 a n c (ints .i64 l)) (hn : n ≤ 4294967296) :
    Calls Try.prog 35 #[.slice a n c, .int .i64 t] w fun e w' => e = .returned (.bool (hasI l t)) ∧ w' = w :=
  (contains_int R a n c l t w h hn).mono (by rintro e w' ⟨rfl, rfl⟩; exact ⟨rfl, rfl⟩)
theorem mcontains_any (R : Nat → Prop) (a : Option Addr) (n c q : Nat) (l : List WN) (t : Int) (w : World) (h : Rd w R 2 a n c (l.flatMap wnCells)) (hn : n = l.length) (hl : n < 4294967296) (hq : w.cell? ⟨q, 0, none⟩ = some (.int .i64 t)) :
    Calls Try.prog 59 #[.slice a n c, .func (.func 60) #[] #[.pointer (some ⟨q, 0, none⟩)]] w fun e w' => e = .returned (.bool (anyN l t)) ∧ Chg Nil w w' := by
  subst hn
  have HR := hid (indexN_any R a _ c q l t w h rfl hl hq)
  clear h hq
  go_enter Try.func59, Try.ntmps59
  go_wp2_with fail
  refine HR.out.mono ?_
  rintro e w1 ⟨k, rfl, hk, hk2, hc⟩
  replace hk := hid hk
  go_wp2
  go_ret
  exact ⟨ret_bool hk.out, hc⟩
set_option maxHeartbeats 4000000 in
theorem mhas_any (w : World) (F : Nat → Prop) (p : Nat) (s : MS) (t : Int) (h : MnAt w F p s) (hl1 : s.rd.length ≤ 1000) (hl2 : s.row.length ≤ 1000) :
    Calls Try.prog 44 #[.pointer (some ⟨p, 0, none⟩), .int .i64 t] w fun e w' => e = .returned (.bool (s.has t)) ∧ Chg Nil w w' := by
  obtain ⟨a, c, G, b, d, H, h⟩ := h
  have C0 : Chg Nil w (w.alloc (.cells #[.int .i64 t] 3)) := (Chg.refl _ _).alloc _
  have h1 := h.nil C0
  have d0 := h1.c0
  have d1 := h1.c1
  have d2 := h1.c2
  have HQ : (w.alloc (.cells #[.int .i64 t] 3)).cell? ⟨w.heap.size, 0, none⟩ = some (.int .i64 t) := (Blk.new w 3 [.int .i64 t]).cell 0
  obtain ⟨w1, hw1⟩ : ∃ w1, w1 = w.alloc (.cells #[.int .i64 t] 3) := ⟨_, rfl⟩
  rw [← hw1] at C0 h1 d0 d1 d2 HQ
  have C1 := hid (fun q => contains_q _ a _ c s.rd t (w1.drewN q) (h1.rd.rd.drewN q) (by omega))
  have C2 := hid (fun q => mcontains_any _ b _ d w.heap.size s.row t (w1.drewN q) (h1.row.rd.drewN q) rfl (by omega) HQ)
  have HW := hid hw1
  have C0' := hid C0
  clear h h1 C0
  by_cases hw : s.wr = t
  · have E : Hid (s.has t = true) := hid (by unfold MS.has; simp [hw])
    have hb : (s.wr == t) = true := by rw [beq_iff_eq]; exact hw
    rw [E.out]
    clear hw C1 C2
    go_enter Try.func44, Try.ntmps44
    go_upto_region 1 with fail
    rw [← hw1]
    clear hw1
    go_quiet (fail)
    go_wp2
    go_ret
    exact ⟨rfl, C0'.out.drewN _⟩
  · have hb : (s.wr == t) = false := by rw [beq_eq_false_iff_ne]; exact hw
    clear hw
    cases hh : hasI s.rd t with
    | true =>
      have E : Hid (s.has t = true) := hid (by unfold MS.has; rw [hb, hh]; rfl)
      rw [E.out]
      rw [hh] at C1
      clear hh C2
      go_enter Try.func44, Try.ntmps44
      go_upto_region 1 with fail
      rw [← hw1]
      clear hw1
      go_quiet ((go_at_call 35; with_reducible exact Calls.quiet_of_same (C1.out _)))
      go_wp2
      go_ret
      exact ⟨rfl, C0'.out.drewN _⟩
    | false =>
      have E : Hid (s.has t = anyN s.row t) := hid (by unfold MS.has; rw [hb, hh]; rfl)
      rw [E.out]
      rw [hh] at C1
      clear hh
      generalize anyN s.row t = v at C2 ⊢
      go_enter Try.func44, Try.ntmps44
      go_upto_region 1 with fail
      rw [← hw1]
      clear hw1
      go_region_law (first | (go_simp; go_at_call 35; refine (C1.out _).mono ?_; rintro e w' ⟨rfl, rfl⟩) | (go_simp; go_at_call 59; refine (C2.out _).mono ?_; rintro e w2 ⟨rfl, q2⟩; replace q2 := hid q2))
      all_goals
        go_wp2
        go_ret
        exact ⟨rfl, (C0'.out.drewN _).trans q2.out (fun _ _ h => h)⟩
end Go.Proofs.Ytdelelpfombfbaa
