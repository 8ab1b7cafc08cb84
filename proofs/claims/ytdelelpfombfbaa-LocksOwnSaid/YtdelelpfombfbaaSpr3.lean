/- More contracts of package spread that only read: best, low, time, value. Conditions: at most 1000 tasks, each as it may be. -/
import Derived.Test.YtdelelpfombfbaaSpr2
namespace Go.Proofs.Ytdelelpfombfbaa
open Go.ChangeShapes Go.WideShapes Go.ChangeAt Go.RowKit
set_option linter.unusedVariables false
set_option maxHeartbeats 1000000 in
theorem sbest_ok (w : World) (F : Nat → Prop) (p : Nat) (s : SR) (g off : Nat) (a : Option Addr) (c : Nat) (G : Option Nat) (h : RA w F p s g off a c G) (hl : s.ts.length ≤ 1000) (hp : ∀ x ∈ s.ts, x.pin < 16) (cpu : Nat) (hcpu : cpu < 4) :
    Calls Try.prog 72 #[.pointer (some ⟨p, 0, none⟩), .int .i64 cpu] w fun e w' => e = .returned (elV g off (bestI s.ts cpu)) ∧ ∃ q, w' = w.drewN q := by
  have c3 := h.c3
  have H := hid h
  have HP := hid hp
  clear h hp
  go_enter Try.func72, Try.ntmps72
  go_wp2
  go_loopw [5, 13] (fun s5 s13 wr => ∃ k : Nat, k ≤ s.ts.length ∧ s13 = .int .i64 k ∧ s5 = elV g off (bestK s.ts cpu k) ∧ Hid (∃ q, wr = w.drewN q)) (fun _ s13 _ => s.ts.length - (intOf s13).toNat)
  case atStart => exact ⟨0, by omega, rfl, rfl, 0, rfl⟩
  case round =>
    obtain ⟨k, hk, rfl, rfl, hW⟩ := hrel
    by_cases hlt : k < s.ts.length
    · have hx := List.getElem?_eq_getElem hlt
      generalize s.ts[k] = x at hx
      have HR : Hid (RA wr F p s g off a c G) := hid (by obtain ⟨q, rfl⟩ := hW.out; exact H.out.drewN q)
      obtain ⟨rfl, rfl⟩ := H.out.eq hx
      have c3 := HR.out.c3
      have x11 := HR.out.cell hx 11 (by omega)
      simp only [stCells, List.getElem?_cons_succ, List.getElem?_cons_zero] at x11
      have WT := hid (swaits_ok wr F p s g off _ c _ HR.out k x hx)
      have MB := hid (mask_bit x.pin cpu (HP.out x (List.mem_of_getElem? hx)) hcpu)
      have BK := hid (@bestK_at s.ts cpu k x hx)
      have hx' := hid hx
      clear hx
      obtain ⟨b, hb⟩ : ∃ b, b = bestK s.ts cpu k := ⟨_, rfl⟩
      rw [← hb] at BK ⊢
      have HB := hid hb
      clear hb
      cases hwt : waitB x with
      | false =>
        rw [hwt] at WT BK
        have BK' : Hid (bestK s.ts cpu (k + 1) = b) := hid (by rw [BK.out]; simp)
        clear hwt BK
        go_wp2_with fail
        refine WT.out.mono ?_
        rintro e w1 ⟨rfl, hw⟩
        subst hw
        go_wp2
        go_roundw
        case rel => exact ⟨k + 1, by omega, by go_num, by rw [BK'.out], hW⟩
        case measure => simp [intOf]; omega
      | true =>
        rw [hwt] at WT BK
        clear hwt
        cases hpb : pinB x cpu with
        | false =>
          have BK' : Hid (bestK s.ts cpu (k + 1) = b) := hid (by rw [BK.out, hpb]; simp)
          have MB' : (bits .and .i64 ((x.pin : Int) / 2 ^ cpu) 1 == 1) = false := by rw [MB.out]; exact hpb
          clear BK MB hpb
          go_wp2_with fail
          refine WT.out.mono ?_
          rintro e w1 ⟨rfl, hw⟩
          subst hw
          go_wp2
          go_roundw
          case rel => exact ⟨k + 1, by omega, by go_num, by rw [BK'.out], hW⟩
          case measure => simp [intOf]; omega
        | true =>
          have MB' : (bits .and .i64 ((x.pin : Int) / 2 ^ cpu) 1 == 1) = true := by rw [MB.out]; exact hpb
          rw [hpb] at BK
          clear MB hpb
          cases b with
          | none =>
            have BK' : Hid (bestK s.ts cpu (k + 1) = some k) := hid (by rw [BK.out]; first | done | rfl)
            clear BK
            unfold elV
            go_wp2_with fail
            refine WT.out.mono ?_
            rintro e w1 ⟨rfl, hw⟩
            subst hw
            go_wp2
            go_roundw
            case rel => exact ⟨k + 1, by omega, by go_num, by rw [BK'.out]; first | done | rfl, hW⟩
            case measure => simp [intOf]; omega
          | some j =>
            obtain ⟨_, y, hy, _⟩ := bestK_lt HB.out.symm
            have BT := hid (sbetter_ok wr F p s g off _ c _ HR.out k j x y hx'.out hy)
            have BK2 : Hid (bestK s.ts cpu (k + 1) = if betB x y = true then some k else some j) := hid (by
              rw [BK.out]
              have h3 : takB s.ts (some j) x = betB x y := by show (match s.ts[j]? with | none => true | some y => betB x y) = _; rw [hy]
              rw [h3]
              rfl)
            clear BK hy
            unfold elV
            go_wp2_with fail
            refine WT.out.mono ?_
            rintro e w1 ⟨rfl, hw⟩
            subst hw
            go_wp2_with fail
            refine BT.out.mono ?_
            rintro e w2 ⟨rfl, q, rfl⟩
            have hW3 : Hid (∃ r, w1.drewN q = w.drewN r) := hid (by obtain ⟨q0, rfl⟩ := hW.out; exact ⟨_, World.drewN_drewN _ _ _⟩)
            cases hbt : betB x y with
            | true =>
              rw [hbt] at BK2
              clear hbt BT
              go_wp2
              go_roundw
              case rel => exact ⟨k + 1, by omega, by go_num, by rw [BK2.out]; first | done | rfl, hW3⟩
              case measure => simp [intOf]; omega
            | false =>
              rw [hbt] at BK2
              clear hbt BT
              go_wp2
              go_roundw
              case rel => exact ⟨k + 1, by omega, by go_num, by rw [BK2.out]; first | done | rfl, hW3⟩
              case measure => simp [intOf]; omega
    · obtain rfl : k = s.ts.length := by omega
      go_wp2
      go_ret
      exact ⟨rfl, hW.out⟩
/-- What low tells. -/
def lowV : Option Int → Value
  | none => .int .i64 0
  | some m => .int .i64 m
set_option maxHeartbeats 1000000 in
theorem slow_ok (w : World) (F : Nat → Prop) (p : Nat) (s : SR) (g off : Nat) (a : Option Addr) (c : Nat) (G : Option Nat) (h : RA w F p s g off a c G) (hl : s.ts.length ≤ 1000) :
    Calls Try.prog 64 #[.pointer (some ⟨p, 0, none⟩)] w fun e w' => e = .returned (.tuple #[lowV (lowI s.ts), .bool (lowI s.ts).isSome]) ∧ Chg Nil w w' := by
  have c3 := h.c3
  have H := hid h
  clear h
  go_enter Try.func64, Try.ntmps64
  go_wp2
  go_loopw [4, 5, 13] (fun s4 s5 s13 wr => ∃ k : Nat, k ≤ s.ts.length ∧ s13 = .int .i64 k ∧ s4 = lowV (lowK s.ts k) ∧ s5 = .bool (lowK s.ts k).isSome ∧ Hid (Chg Nil w wr)) (fun _ _ s13 _ => s.ts.length - (intOf s13).toNat)
  case atStart => exact ⟨0, by omega, rfl, rfl, rfl, Chg.refl _ _⟩
  case round =>
    obtain ⟨k, hk, rfl, rfl, rfl, hC⟩ := hrel
    by_cases hlt : k < s.ts.length
    · have hx := List.getElem?_eq_getElem hlt
      generalize s.ts[k] = x at hx
      have HR : Hid (RA wr F p s g off a c G) := hid (H.out.nil hC.out)
      obtain ⟨rfl, rfl⟩ := H.out.eq hx
      have hgl : g < wr.heap.size := by have := HR.out.lt g (HR.out.fg g rfl); exact this
      have x0 := HR.out.cell hx 0 (by omega)
      have x1 := HR.out.cell hx 1 (by omega)
      have x2 := HR.out.cell hx 2 (by omega)
      have x3 := HR.out.cell hx 3 (by omega)
      have x4 := HR.out.cell hx 4 (by omega)
      have x5 := HR.out.cell hx 5 (by omega)
      have x6 := HR.out.cell hx 6 (by omega)
      have x7 := HR.out.cell hx 7 (by omega)
      have x8 := HR.out.cell hx 8 (by omega)
      have x9 := HR.out.cell hx 9 (by omega)
      have x10 := HR.out.cell hx 10 (by omega)
      have x11 := HR.out.cell hx 11 (by omega)
      have x12 := HR.out.cell hx 12 (by omega)
      have x13 := HR.out.cell hx 13 (by omega)
      have x14 := HR.out.cell hx 14 (by omega)
      simp only [stCells, List.getElem?_cons_succ, List.getElem?_cons_zero, Nat.add_zero] at x0 x1 x2 x3 x4 x5 x6 x7 x8 x9 x10 x11 x12 x13 x14
      have LK := hid (@lowK_at s.ts k x hx)
      clear hx
      obtain ⟨o, ho⟩ : ∃ o, o = lowK s.ts k := ⟨_, rfl⟩
      rw [← ho] at LK ⊢
      clear ho
      by_cases hcl : x.cl = 1
      · have hb : (x.cl == 1) = true := by rw [beq_iff_eq]; exact hcl
        cases hr : x.r with
        | false =>
          rw [hr] at x12 LK
          have LK' : Hid (lowK s.ts (k + 1) = o) := hid (by rw [LK.out]; simp)
          replace hcl := hid hcl
          clear hr LK
          go_wp2
          go_roundw
          case rel => exact ⟨k + 1, by omega, by go_num, by rw [LK'.out], by rw [LK'.out], hC.out.alloc _⟩
          case measure => simp [intOf]; omega
        | true =>
          rw [hr] at x12 LK
          clear hr
          cases o with
          | none =>
            have LK' : Hid (lowK s.ts (k + 1) = some x.v) := hid (by rw [LK.out]; simp [hcl, lowB])
            replace hcl := hid hcl
            clear LK
            simp only [Option.isSome_none]
            go_wp2
            go_roundw
            case rel => exact ⟨k + 1, by omega, by go_num, by rw [LK'.out]; first | done | rfl, by rw [LK'.out]; first | done | rfl, hC.out.alloc _⟩
            case measure => simp [intOf]; omega
          | some m =>
            simp only [Option.isSome_some, lowV]
            by_cases hvm : x.v < m
            · have LK' : Hid (lowK s.ts (k + 1) = some x.v) := hid (by rw [LK.out]; simp [hcl, lowB, hvm])
              replace hcl := hid hcl
              clear LK
              go_wp2
              go_roundw
              case rel => exact ⟨k + 1, by omega, by go_num, by rw [LK'.out]; first | done | rfl, by rw [LK'.out]; first | done | rfl, hC.out.alloc _⟩
              case measure => simp [intOf]; omega
            · have LK' : Hid (lowK s.ts (k + 1) = some m) := hid (by rw [LK.out]; simp [lowB, hvm])
              replace hcl := hid hcl
              clear LK
              go_wp2
              go_roundw
              case rel => exact ⟨k + 1, by omega, by go_num, by rw [LK'.out]; first | done | rfl, by rw [LK'.out]; first | done | rfl, hC.out.alloc _⟩
              case measure => simp [intOf]; omega
      · have hb : (x.cl == 1) = false := by rw [beq_eq_false_iff_ne]; exact hcl
        have LK' : Hid (lowK s.ts (k + 1) = o) := hid (by rw [LK.out]; simp [hcl])
        replace hcl := hid hcl
        clear LK
        go_wp2
        go_roundw
        case rel => exact ⟨k + 1, by omega, by go_num, by rw [LK'.out], by rw [LK'.out], hC.out.alloc _⟩
        case measure => simp [intOf]; omega
    · obtain rfl : k = s.ts.length := by omega
      go_wp2
      go_ret2
      exact ⟨rfl, hC.out⟩
/-- May a class have this value? -/
def valB (cl v : Int) : Bool := if cl = 1 then decide (1 ≤ v ∧ v ≤ 100) else if cl = 2 then decide (0 ≤ v ∧ v < 8) else false
theorem svalue_ok (w : World) (cl v : Int) : Calls Try.prog 47 #[.int .i64 cl, .int .i64 v] w fun e w' => e = .returned (.bool (valB cl v)) ∧ w = w' := by
  by_cases h1 : cl = 1
  · subst h1
    have e : valB 1 v = decide (1 ≤ v ∧ v ≤ 100) := rfl
    rw [e]
    by_cases ha : 1 ≤ v
    · by_cases hb : v ≤ 100
      · have hE : Hid (decide (1 ≤ v ∧ v ≤ 100) = true) := hid (by simp [ha, hb])
        rw [hE.out]
        clear e
        go_enter Try.func47, Try.ntmps47
        go_wp2
        go_ret
        exact ⟨by simp, rfl⟩
      · have hE : Hid (decide (1 ≤ v ∧ v ≤ 100) = false) := hid (by simp [hb])
        rw [hE.out]
        clear e
        go_enter Try.func47, Try.ntmps47
        go_wp2
        go_ret
        exact ⟨by simp, rfl⟩
    · have hE : Hid (decide (1 ≤ v ∧ v ≤ 100) = false) := hid (by simp [ha])
      rw [hE.out]
      clear e
      go_enter Try.func47, Try.ntmps47
      go_wp2
      go_ret
      exact ⟨by simp, rfl⟩
  · have hb1 : (cl == 1) = false := by rw [beq_eq_false_iff_ne]; exact h1
    by_cases h2 : cl = 2
    · subst h2
      have e : valB 2 v = decide (0 ≤ v ∧ v < 8) := rfl
      rw [e]
      clear hb1 h1 e
      by_cases ha : 0 ≤ v
      · by_cases hb : v < 8
        · have hE : Hid (decide (0 ≤ v ∧ v < 8) = true) := hid (by simp [ha, hb])
          rw [hE.out]
          go_enter Try.func47, Try.ntmps47
          go_wp2
          go_ret
          exact ⟨by simp, rfl⟩
        · have hE : Hid (decide (0 ≤ v ∧ v < 8) = false) := hid (by simp [hb])
          rw [hE.out]
          go_enter Try.func47, Try.ntmps47
          go_wp2
          go_ret
          exact ⟨by simp, rfl⟩
      · have hE : Hid (decide (0 ≤ v ∧ v < 8) = false) := hid (by simp [ha])
        rw [hE.out]
        go_enter Try.func47, Try.ntmps47
        go_wp2
        go_ret
        exact ⟨by simp, rfl⟩
    · have hb2 : (cl == 2) = false := by rw [beq_eq_false_iff_ne]; exact h2
      have e : valB cl v = false := by unfold valB; rw [if_neg h1, if_neg h2]
      rw [e]
      clear e h1 h2
      go_enter Try.func47, Try.ntmps47
      go_wp2
      go_ret
      exact ⟨by simp, rfl⟩
end Go.Proofs.Ytdelelpfombfbaa
