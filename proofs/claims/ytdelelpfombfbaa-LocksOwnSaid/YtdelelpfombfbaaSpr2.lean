/- More contracts of package spread that only read: better, best, value. Conditions: at most 1000 tasks, each as it may be. -/
import Derived.Test.YtdelelpfombfbaaSpr1
namespace Go.Proofs.Ytdelelpfombfbaa
open Go.ChangeShapes Go.WideShapes Go.ChangeAt Go.RowKit
set_option linter.unusedVariables false
theorem betB_of {x y : ST} {P : Prop} [Decidable P] (h : Better x y ↔ P) : betB x y = decide P := decide_eq_decide.2 h
theorem bet_ne {x y : ST} (h : asC x ≠ asC y) : betB x y = decide (asC y < asC x) := betB_of (by unfold Better; omega)
theorem bet_dead {x y : ST} (hx : asC x = 3) (hy : asC y = 3) : (x.du ≠ y.du → betB x y = decide (x.du < y.du)) ∧ (x.du = y.du → betB x y = decide (x.t < y.t)) := by
  have e1 : key1 x = x.du := if_pos hx
  have e2 : key1 y = y.du := if_pos hy
  have e3 : key2 x = x.t := if_pos hx
  have e4 : key2 y = y.t := if_pos hy
  exact ⟨fun h => betB_of (by unfold Better; omega), fun h => betB_of (by unfold Better; omega)⟩
theorem bet_prio {x y : ST} (hx : asC x = 2) (hy : asC y = 2) : (asV x ≠ asV y → betB x y = decide (asV y < asV x)) ∧ (asV x = asV y → betB x y = decide (x.si < y.si)) := by
  have e1 : key1 x = - asV x := by unfold key1; rw [if_neg (by omega), if_pos hx]
  have e2 : key1 y = - asV y := by unfold key1; rw [if_neg (by omega), if_pos hy]
  have e3 : key2 x = x.si := by unfold key2; rw [if_neg (by omega), if_pos hx]
  have e4 : key2 y = y.si := by unfold key2; rw [if_neg (by omega), if_pos hy]
  exact ⟨fun h => betB_of (by unfold Better; omega), fun h => betB_of (by unfold Better; omega)⟩
theorem bet_fair {x y : ST} (h : asC x = asC y) (h3 : asC x ≠ 3) (h2 : asC x ≠ 2) : (x.v ≠ y.v → betB x y = decide (x.v < y.v)) ∧ (x.v = y.v → betB x y = decide (x.t < y.t)) := by
  have e1 : key1 x = x.v := by unfold key1; rw [if_neg h3, if_neg h2]
  have e2 : key1 y = y.v := by unfold key1; rw [if_neg (by omega), if_neg (by omega)]
  have e3 : key2 x = x.t := by unfold key2; rw [if_neg h3, if_neg h2]
  have e4 : key2 y = y.t := by unfold key2; rw [if_neg (by omega), if_neg (by omega)]
  exact ⟨fun h => betB_of (by unfold Better; omega), fun h => betB_of (by unfold Better; omega)⟩
set_option maxHeartbeats 1000000 in
theorem sbetter_ok (w : World) (F : Nat → Prop) (p : Nat) (s : SR) (g off : Nat) (a : Option Addr) (c : Nat) (G : Option Nat) (h : RA w F p s g off a c G) (i j : Nat) (x y : ST) (hx : s.ts[i]? = some x) (hy : s.ts[j]? = some y) :
    Calls Try.prog 77 #[.pointer (some ⟨g, off + i * 15, none⟩), .pointer (some ⟨g, off + j * 15, none⟩)] w fun e w' => e = .returned (.bool (betB x y)) ∧ ∃ q, w' = w.drewN q := by
  have AX := hid (fun q => sas_ok (w.drewN q) F p s g off a c G (h.drewN q) i x hx)
  have AY := hid (fun q => sas_ok (w.drewN q) F p s g off a c G (h.drewN q) j y hy)
  have x0 := h.cell hx 0 (by omega)
  have x8 := h.cell hx 8 (by omega)
  have x9 := h.cell hx 9 (by omega)
  have x10 := h.cell hx 10 (by omega)
  have y0 := h.cell hy 0 (by omega)
  have y8 := h.cell hy 8 (by omega)
  have y9 := h.cell hy 9 (by omega)
  have y10 := h.cell hy 10 (by omega)
  simp only [stCells, List.getElem?_cons_succ, List.getElem?_cons_zero, Nat.add_zero] at x0 x8 x9 x10 y0 y8 y9 y10
  have E1 := hid (@bet_ne x y)
  have E3 := hid (@bet_dead x y)
  have E2 := hid (@bet_prio x y)
  have E0 := hid (@bet_fair x y)
  clear h hx hy
  generalize asC x = A at AX E1 E2 E3 E0
  generalize asC y = B at AY E1 E2 E3 E0
  generalize asV x = V at AX E2
  generalize asV y = W at AY E2
  generalize betB x y = R at E1 E2 E3 E0 ⊢
  go_enter Try.func77, Try.ntmps77
  go_wp2_with fail
  refine (AX.out 0).mono ?_
  rintro e w1 ⟨rfl, q1, rfl⟩
  go_wp2_with fail
  refine (AY.out _).mono ?_
  rintro e w1 ⟨rfl, q2, rfl⟩
  clear AX AY
  by_cases hab : A = B
  · have hb : (A != B) = false := by rw [bne_eq_false_iff_eq]; exact hab
    by_cases h3 : A = 3
    · have hb3 : (A == 3) = true := by rw [beq_iff_eq]; exact h3
      have E := E3.out h3 (by omega)
      clear E0 E1 E2 E3 hab h3
      by_cases hd : x.du = y.du
      · have hbd : (x.du != y.du) = false := by rw [bne_eq_false_iff_eq]; exact hd
        have E' := hid (E.2 hd)
        clear hd E
        go_wp2
        go_quiet (fail)
        go_wp2
        go_quiet (fail)
        go_wp2
        go_ret
        exact ⟨ret_bool E'.out.symm, by (try simp only [World.drewN_drewN]); exact ⟨_, rfl⟩⟩
      · have hbd : (x.du != y.du) = true := by rw [bne_iff_ne]; exact hd
        have E' := hid (E.1 hd)
        clear hd E
        go_wp2
        go_quiet (fail)
        go_wp2
        go_quiet (fail)
        go_wp2
        go_ret
        exact ⟨ret_bool E'.out.symm, by (try simp only [World.drewN_drewN]); exact ⟨_, rfl⟩⟩
    · have hb3 : (A == 3) = false := by rw [beq_eq_false_iff_ne]; exact h3
      by_cases h2 : A = 2
      · have hb2 : (A == 2) = true := by rw [beq_iff_eq]; exact h2
        have E := E2.out h2 (by omega)
        clear E0 E1 E2 E3 hab h3 h2
        by_cases hd : V = W
        · have hbd : (V != W) = false := by rw [bne_eq_false_iff_eq]; exact hd
          have E' := hid (E.2 hd)
          clear hd E
          go_wp2
          go_quiet (fail)
          go_wp2
          go_ret
          exact ⟨ret_bool E'.out.symm, by (try simp only [World.drewN_drewN]); exact ⟨_, rfl⟩⟩
        · have hbd : (V != W) = true := by rw [bne_iff_ne]; exact hd
          have E' := hid (E.1 hd)
          clear hd E
          go_wp2
          go_ret
          exact ⟨ret_bool E'.out.symm, by (try simp only [World.drewN_drewN]); exact ⟨_, rfl⟩⟩
      · have hb2 : (A == 2) = false := by rw [beq_eq_false_iff_ne]; exact h2
        have E := E0.out hab h3 h2
        clear E0 E1 E2 E3 hab h3 h2
        by_cases hd : x.v = y.v
        · have hbd : (x.v != y.v) = false := by rw [bne_eq_false_iff_eq]; exact hd
          have E' := hid (E.2 hd)
          clear hd E
          go_wp2
          go_quiet (fail)
          go_wp2
          go_quiet (fail)
          go_wp2
          go_ret
          exact ⟨ret_bool E'.out.symm, by (try simp only [World.drewN_drewN]); exact ⟨_, rfl⟩⟩
        · have hbd : (x.v != y.v) = true := by rw [bne_iff_ne]; exact hd
          have E' := hid (E.1 hd)
          clear hd E
          go_wp2
          go_quiet (fail)
          go_wp2
          go_quiet (fail)
          go_wp2
          go_ret
          exact ⟨ret_bool E'.out.symm, by (try simp only [World.drewN_drewN]); exact ⟨_, rfl⟩⟩
  · have hb : (A != B) = true := by rw [bne_iff_ne]; exact hab
    have E' := hid (E1.out hab)
    clear E0 E1 E2 E3 hab
    go_wp2
    go_ret
    exact ⟨ret_bool E'.out.symm, by (try simp only [World.drewN_drewN]); exact ⟨_, rfl⟩⟩
/-- The bit of a mask, as the program asks for it. -/
theorem mask_bit (m k : Nat) (hm : m < 16) (hk : k < 4) : (bits .and .i64 ((m : Int) / 2 ^ k) 1 == 1) = m.testBit k := by
  have : ∀ (m : Fin 16) (k : Fin 4), (bits .and .i64 ((m.val : Int) / 2 ^ k.val) 1 == 1) = m.val.testBit k.val := by decide +kernel
  exact this ⟨m, hm⟩ ⟨k, hk⟩
end Go.Proofs.Ytdelelpfombfbaa
