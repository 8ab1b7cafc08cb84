/- The walk of the law SleepUrgent: it returns true and changes nothing that was there. No condition. -/
import Derived.Test.YthbkmjigplolgaaLocked
import Derived.Deep.DeepCutAuto
namespace Go.Proofs.Ythbkmjigplolgaa
open Go.ChangeShapes Go.WideShapes Go.ChangeAt Go.RowKit
set_option linter.unusedVariables false
/-- The greatest of the first i priorities. -/
def mostP (z : List Int) : Nat → Int
  | 0 => 0
  | i + 1 => max (mostP z i) (rest (z.getD i 0) 8)
theorem mostP_ge (z : List Int) (n : Nat) : ∀ t : Int, 1 ≤ t → t ≤ n → prZ z t ≤ mostP z n := by
  induction n with
  | zero => intro t h1 h2; omega
  | succ n ih =>
    intro t h1 h2
    unfold mostP
    by_cases e : t = ((n + 1 : Nat) : Int)
    · have : (t - 1).toNat = n := by omega
      unfold prZ
      rw [this]; omega
    · have := ih t h1 (by omega)
      omega
set_option maxRecDepth 100000 in
set_option maxHeartbeats 1000000 in
theorem sleepUrgent_walk (a0 : Option Addr) (len0 cap0 : Nat) (z0 : List Int) (a1 : Option Addr) (len1 cap1 : Nat) (z1 : List (List Int)) (w : World) (w0 : IsRow .i64 w a0 len0 cap0 z0) (w1 : IsRows .i64 w a1 len1 cap1 z1) :
    Calls Try.prog 4 #[.slice a0 len0 cap0, .slice a1 len1 cap1] w fun e w' => e = .returned (.bool true) ∧ Below w.heap.size w w' := by
  have hl1 := w0.1.1
  have hl2 := w0.1.2.1
  unfold maxLen at hl2
  have hzl := w0.1.ilen
  have W0 := hid w0.1
  have W1 := hid w1
  clear w0 w1
  go_enter Try.func4, Try.ntmps4
  go_wp2_with fail
  refine (sleepBegun_ok _).mono ?_
  rintro e w2 ⟨rfl, c2⟩
  have C2 := hid c2
  clear c2
  go_upto_region 3 with fail
  go_cut [0] (fun s0 wx => wx = w2 ∧ ∃ N : Nat, N ≤ 16 ∧ N ≤ len0 ∧ s0 = .slice a0 N cap0)
  case first =>
    go_wp2
    · go_meet
      exact ⟨rfl, 16, by omega, by omega, rfl⟩
    · go_meet
      exact ⟨rfl, len0, by omega, by omega, by simp⟩
  case rest =>
  obtain ⟨rfl, N, hN1, hN2, rfl⟩ := hcut
  have hR := W0.out.take_n (k := N) hN2
  rw [Nat.mul_one, show (ints .i64 z0).take N = ints .i64 (z0.take N) by unfold ints; rw [List.map_take]] at hR
  obtain ⟨z, hz⟩ : ∃ z, z = z0.take N := ⟨_, rfl⟩
  rw [← hz] at hR
  have hzl2 : z.length = N := by rw [hz, List.length_take]; omega
  have HZ := hid hR
  clear hR hz
  go_wp2_with fail
  refine (locked_ok w _ (Upto w.heap.size) a0 N cap0 z a1 len1 cap1 z1 (below_nil (Below.refl _ w) C2.out) HZ.out hN1 W1.out).mono ?_
  rintro e w3 ⟨p, rfl, hI⟩
  obtain ⟨F, o, q, L, gF, bF⟩ := hI
  replace L := hid L
  replace gF := hid gF
  replace bF := hid bF
  obtain ⟨gf, hg⟩ := L.out.s.eff (prZ z)
  have HG := hid hg
  have hgle := hid (hg.le L.out.s (mostP_ge z N))
  clear hg
  go_wp2
  go_loopw [7, 37] (fun s7 s37 wr => wr = w3 ∧ ∃ i : Nat, i ≤ N ∧ s37 = .int .i64 i ∧ s7 = .int .i64 (mostP z i)) (fun _ s37 _ => N - (intOf s37).toNat)
  case atStart => exact ⟨rfl, 0, by omega, rfl, rfl⟩
  case round =>
    obtain ⟨rfl, i, hi, rfl, rfl⟩ := hrel
    by_cases hlt : i < N
    · obtain ⟨g, off, rfl, _, _, hc⟩ := (HZ.out.chg (Chg.of_below bF.out Nil) (fun _ _ _ h => h)).at (i := i) (by omega)
      have hc1 := hc i (by omega)
      have hgd : z.getD i 0 = z[i] := by simp [List.getD, List.getElem?_eq_getElem (show i < z.length by omega)]
      have hm : mostP z (i + 1) = max (mostP z i) (rest z[i] 8) := by rw [← hgd]; rfl
      have HR := hid (rest_any z[i] 8 wr (by omega) (by omega))
      replace hm := hid hm
      clear hc hgd
      go_wp2_with (go_at_call 16; refine HR.out.mono ?_; rintro e w' ⟨rfl, rfl⟩)
      refine ⟨⟨trivial, i + 1, by omega, by go_num, ?_⟩, by simp [intOf]; omega⟩
      rw [hm.out]
      congr 1
      split <;> omega
    · obtain rfl : i = N := by omega
      obtain ⟨ws, hws⟩ : ∃ ws : World, ws = wr := ⟨_, rfl⟩
      have L0 : Hid (LkAt ws F p i (prZ z) o q) := hid (by rw [hws]; exact L.out)
      have b0 : Hid (Below w.heap.size w ws) := hid (by rw [hws]; exact bF.out)
      rw [← hws]
      clear hws hlt
      obtain ⟨M, hM⟩ : ∃ M, M = mostP z i := ⟨_, rfl⟩
      rw [← hM]
      replace hM := hid hM
      obtain ⟨wv, rfl⟩ : ∃ wv : World, wv = wr := ⟨_, rfl⟩
      go_wp2
      go_loopw [46] (fun s46 wr => ∃ k : Nat, k ≤ 16 ∧ s46 = .int .i64 k ∧ Hid (Chg Nil ws wr)) (fun s46 _ => 16 - (intOf s46).toNat)
      case atStart => exact ⟨0, by omega, rfl, Chg.refl _ _⟩
      case round =>
        obtain ⟨k, hk, rfl, hC⟩ := hrel
        by_cases hk16 : k < 16
        · have hk2 : (k : Int) < 16 := by omega
          have L1 := hid (L0.out.nil hC.out)
          have HO := hid (lowner_ok wr F p i (prZ z) o q k L1.out hk16)
          have HRW := hid (lrow_ok wr F p i (prZ z) o q k L1.out hk16)
          have hob := L1.out.s.own k hk16
          have hln := lrow_len wr F p i (prZ z) o q k L1.out hk16
          by_cases hz : o k = 0
          · have hq := L1.out.s.free k hk16 hz
            rw [hz] at HO
            rw [hq] at HRW
            simp only [List.length_nil] at HRW
            clear hq hz hob hln
            go_wp2_with (first | (go_at_call 15; refine HO.out.mono ?_; rintro e w' ⟨rfl, rfl⟩) | (go_at_call 17; refine HRW.out.mono ?_; rintro e wb ⟨a, c, G, rfl, y1, y2, y3⟩; replace y1 := hid y1; replace y2 := hid y2; replace y3 := hid y3))
            go_roundw
            case rel => exact ⟨k + 1, by omega, by go_num, hC.out.trans y2.out (fun _ _ h => h)⟩
            case measure => simp [intOf]; omega
          · obtain ⟨m, hm⟩ : ∃ m : Nat, o k = (m : Int) + 1 := ⟨(o k - 1).toNat, by omega⟩
            rw [hm] at HO hob
            have hoz : ((m : Int) + 1 == 0) = false := by rw [beq_eq_false_iff_ne]; omega
            have hti : m < z.length := by omega
            have hmi : m < i := by omega
            have hge := HG.out.own (t := (m : Int) + 1) (by omega) hob.2
            have hpr : prZ z ((m : Int) + 1) = rest z[m] 8 := by unfold prZ; rw [show ((m : Int) + 1 - 1).toNat = m by omega, List.getD_eq_getElem?_getD, List.getElem?_eq_getElem hti]; rfl
            have hle := hgle.out ((m : Int) + 1) (by omega) hob.2
            rw [← hM.out] at hle
            obtain ⟨v, hv⟩ : ∃ v, v = rest z[m] 8 := ⟨_, rfl⟩
            rw [hpr, ← hv] at hge
            have HRS := hid (fun (wx : World) => show Calls Try.prog 16 #[.int .i64 z[m], .int .i64 8] wx fun e w' => e = .returned (.int .i64 v) ∧ wx = w' by rw [hv]; exact rest_any _ 8 wx (by omega) (by omega))
            obtain ⟨gg, goff, ha, _, _, hcz⟩ := HZ.out.at hti
            have HCZ : Hid (∀ wx, Below w.heap.size w wx → wx.cell? ⟨gg, goff + m, none⟩ = some (.int .i64 z[m])) := hid (fun wx hb => by
              obtain ⟨g2, o2, e2, _, _, hc2⟩ := (HZ.out.chg (Chg.of_below hb Nil) (fun _ _ _ h => h)).at hti
              rw [ha] at e2
              injection e2 with e2
              injection e2 with e2 e3
              subst e2; subst e3
              exact hc2 _ hti)
            have HQG : Hid (∀ x ∈ q k, gf x ≤ gf ((m : Int) + 1) ∧ (1 ≤ x ∧ x ≤ (i : Int)) ∧ x ≠ (m : Int) + 1) := hid (fun x hx => by
              refine ⟨HG.out.row (by omega) hob.2 hk16 hm hx, L1.out.s.row k hk16 x hx, fun hh => ?_⟩
              obtain ⟨r, hr⟩ := L1.out.s.acyc
              have := hr k hk16 x hx
              rw [hh, hm] at this
              omega)
            subst ha
            have hm1 : (1 : Int) ≤ (m : Int) + 1 := by omega
            have hmi2 : (m : Int) < (i : Int) := by omega
            clear hz hpr hcz hv hm
            go_wp2_with (first | (go_at_call 15; refine HO.out.mono ?_; rintro e w' ⟨rfl, rfl⟩) | (go_at_call 17; refine HRW.out.mono ?_; rintro e wb ⟨a, c, G, rfl, y1, y2, y3⟩; have HE := hid (leff_ok wb F p i (prZ z) o q (L1.out.nil y2) gf HG.out ((m : Int) + 1) hm1 hob.2); have hcell := HCZ.out wb (below_nil (below_nil b0.out hC.out) y2); replace y1 := hid y1; replace y2 := hid y2; replace y3 := hid y3) | (go_at_call 18; refine HE.out.mono ?_; rintro e w' ⟨rfl, rfl⟩) | (go_at_call 16; refine (HRS.out _).mono ?_; rintro e w' ⟨rfl, rfl⟩))
            have L2 := hid (L1.out.nil y2.out)
            clear hcell HO HRW HRS HCZ
            go_loop [113] (fun s113 => ∃ j : Nat, j ≤ (q k).length ∧ s113 = .int .i64 j) (fun s113 => (q k).length - (intOf s113).toNat)
            case atStart => exact ⟨0, by omega, rfl⟩
            case round =>
              obtain ⟨j, hj, rfl⟩ := hrel
              by_cases hjl : j < (q k).length
              · obtain ⟨gq, oq, rfl, _, _, hcq⟩ := y1.out.rd.at hjl
                have hcj := hcq j hjl
                obtain ⟨x1, x2, x3⟩ := HQG.out _ (List.getElem_mem hjl)
                obtain ⟨x, hx⟩ : ∃ x, x = (q k)[j] := ⟨_, rfl⟩
                rw [← hx] at hcj x1 x2 x3
                have hxe : (x == (m : Int) + 1) = false := by rw [beq_eq_false_iff_ne]; exact x3
                have HE2 := hid (leff_ok wb F p i (prZ z) o q L2.out gf HG.out x x2.1 x2.2)
                clear hcq hx x3
                go_wp2_with (go_at_call 18; refine HE2.out.mono ?_; rintro e w' ⟨rfl, rfl⟩)
                go_round
                case rel => exact ⟨j + 1, by omega, by go_num⟩
                case measure => simp [intOf]; omega
              · go_wp2
                go_roundw
                case rel => exact ⟨k + 1, by omega, by go_num, hC.out.trans y2.out (fun _ _ h => h)⟩
                case measure => simp [intOf]; omega
        · go_wp2
          go_ret
          exact ⟨rfl, below_nil b0.out hC.out⟩
end Go.Proofs.Ythbkmjigplolgaa
