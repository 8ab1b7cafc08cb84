/- The walk of the law WrapOwn: it returns true and changes nothing that was there. No condition. -/
import Derived.Test.YtbkcjfeahaphgaaRingGet
import Derived.Deep.DeepCutAuto
namespace Go.Proofs.Ytbkcjfeahaphgaa
open Go.ChangeShapes Go.WideShapes Go.ChangeAt Go.RowKit
set_option linter.unusedVariables false
/-- The first k rows, each cut off behind its 32nd byte. -/
def cuts (zs : List (List Int)) (k : Nat) : List (List Int) := (zs.take k).map (fun l => l.take 32)
theorem cuts_length (zs : List (List Int)) (k : Nat) (h : k ≤ zs.length) : (cuts zs k).length = k := by simp [cuts]; omega
theorem cuts_succ (zs : List (List Int)) (k : Nat) (h : k < zs.length) : cuts zs (k + 1) = cuts zs k ++ [zs[k].take 32] := by
  unfold cuts
  rw [List.take_succ_eq_append_getElem h, List.map_append]
  simp
theorem cuts_last (zs : List (List Int)) (k : Nat) (h : k < zs.length) : (cuts zs (k + 1))[k]? = some (zs[k].take 32) := by
  have := cuts_length zs k (by omega)
  rw [cuts_succ zs k h, List.getElem?_append_right (by omega)]
  simp [this]
theorem Rd.upto {w : World} {R : Nat → Prop} {a : Option Addr} {n c m : Nat} {l : List Int} (h : Rd w R 1 a n c (ints .u8 l)) (hm : m = min n 32) : Rd w R 1 a m c (ints .u8 (l.take 32)) := by
  have hl := h.ilen
  obtain ⟨h1, h2, h3, h4⟩ := h
  have hmn : m ≤ n := by omega
  have hm3 : m ≤ 32 := by omega
  refine ⟨by omega, h2, by rw [ints_length, List.length_take, hl, Nat.min_comm, ← hm]; omega, fun hn => ?_⟩
  obtain ⟨g, off, r1, r2, r3, r4⟩ := h4 (by omega)
  refine ⟨g, off, r1, r2, r3, fun j hj => ?_⟩
  rw [r4 j (by omega)]
  unfold ints
  rw [List.map_take, List.getElem?_take_of_lt (by omega)]
theorem IsRows.row {w : World} {a : Option Addr} {len cap : Nat} {zs : List (List Int)} (h : IsRows .u8 w a len cap zs) {k : Nat} (hk : k < zs.length) :
    ∃ g off a' n' c', a = some ⟨g, off, none⟩ ∧ w.cell? ⟨g, off + k, none⟩ = some (.slice a' n' c') ∧ g < w.heap.size ∧ Rd w (Upto w.heap.size) 1 a' n' c' (ints .u8 zs[k]) := by
  obtain ⟨xs, h1, h2, h3⟩ := h
  obtain ⟨a', n', c', h4, h5⟩ := h3 k hk
  obtain ⟨g, off, rfl, h6, _, hc⟩ := h1.cellAt (by omega)
  exact ⟨g, off, a', n', c', rfl, by rw [hc k (by omega), h4], h6, h5.1⟩
theorem first_cuts (zs : List (List Int)) (first : Int) (k : Nat) (hk : k ≤ zs.length) (h0 : 0 ≤ first) (h1 : first < 4294967296) : firstOf ((first + k) % 4294967296) (cuts zs k) = first := by
  unfold firstOf
  rw [cuts_length zs k hk]
  omega
theorem far_k (first : Int) (k : Nat) (hk : k < 1000) : far first ((first + k) % 4294967296) = k := by
  rw [far_eq]; omega
theorem RingAt.lt_all {w : World} {F : Nat → Prop} {p : Nat} {size next : Int} {rows : List (List Int)} (h : RingAt w F p size next rows) : ∀ k, F k → k < w.heap.size := by
  obtain ⟨_, _, _, _, _, _, _, _, _, _, _, h7⟩ := h
  exact h7
def WOInv (w0 : World) (zs : List (List Int)) (first : Int) (p k : Nat) (w : World) : Prop :=
  ∃ F, RingAt w F p 8 ((first + k) % 4294967296) (cuts zs k) ∧ Below w0.heap.size w0 w ∧ ∀ g, F g → w0.heap.size ≤ g
def SpInv (w0 : World) (F : Nat → Prop) (p : Nat) (next : Int) (rows : List (List Int)) (N : Nat) (a : Option Addr) (c : Nat) (G : Option Nat) (vs : List Value) (H : Nat → Option Nat) (w : World) (i : Nat) : Prop :=
  RingAt w F p 8 next rows ∧ Below w0.heap.size w0 w ∧ Sl w 46 1 a N c vs G ∧ ∀ j, i ≤ j → j < N → ∃ a n c xs, vs[j]? = some (.slice a n c) ∧ Sl w 5 1 a n c xs (H j)
set_option maxRecDepth 100000 in
set_option maxHeartbeats 2000000 in
theorem wrapOwn_walk (a0 : Option Addr) (len0 cap0 : Nat) (z0 : List (List Int)) (a1 : Int) (w : World) (w0 : IsRows .u8 w a0 len0 cap0 z0) (w1 : (Lit.int .u32 a1).wf = true) :
    Calls Try.prog 8 #[.slice a0 len0 cap0, .int .u32 a1] w fun e w' => e = .returned (.bool true) ∧ Below w.heap.size w w' := by
  have b1 := bounds_u32 w1
  have hz : z0.length = len0 := by obtain ⟨_, _, h, _⟩ := w0; exact h
  have hcap : len0 ≤ cap0 ∧ cap0 ≤ maxLen := by obtain ⟨_, h, _⟩ := w0; exact ⟨h.1, h.2.1⟩
  obtain ⟨hl1, hl2⟩ := hcap
  unfold maxLen at hl2
  have W0 := hid w0
  have Z0 := hid hz
  clear w0 hz
  go_enter Try.func8, Try.ntmps8
  go_wp2_with fail
  refine (new_ok 8 a1 w (by omega) (by omega)).mono ?_
  rintro e w1 ⟨rfl, q1, q2⟩
  have ea : (a1 + ((0 : Nat) : Int)) % 4294967296 = a1 := by omega
  have hI : Hid (WOInv w z0 a1 w.heap.size 0 w1) := ⟨One w.heap.size, (by rw [ea]; exact q1), q2.below (fun _ _ h => h) (Nat.le_refl _), fun g hg => by rw [hg]; exact Nat.le_refl _⟩
  clear ea
  clear q1 q2
  generalize hp : w.heap.size = p at hI ⊢
  replace hp := hid hp
  go_upto_region 4 with fail
  go_cut [34, 35, 36] (fun s34 s35 s36 wx => wx = w1 ∧ ∃ N : Nat, N ≤ 8 ∧ N ≤ len0 ∧ s34 = .slice a0 N cap0 ∧ s35 = .int .i64 N ∧ s36 = .int .i64 0)
  case first =>
    go_wp2
    go_meet
    exact ⟨rfl, (min (len0 : Int) 8).toNat, by omega, by omega, rfl, by rw [show max (min (len0 : Int) 8) 0 = (((min (len0 : Int) 8).toNat : Nat) : Int) by omega], rfl⟩
  case rest =>
    obtain ⟨rfl, N, hN1, hN2, rfl, rfl, rfl⟩ := hcut
    go_wp2
    go_loopw [36] (fun s36 wr => ∃ k : Nat, k ≤ N ∧ s36 = .int .i64 k ∧ Hid (WOInv w z0 a1 p k wr)) (fun s36 _ => N - (intOf s36).toNat)
    case atStart => exact ⟨0, by omega, rfl, hI⟩
    case round =>
      obtain ⟨k, hk, rfl, hJ⟩ := hrel
      clear hI
      by_cases hlt : k < N
      · have hz : k < z0.length := by have := Z0.out; omega
        obtain ⟨F, j1, j2, j3⟩ := hJ.out
        obtain ⟨g, off, ab, nb, cb, rfl, hc1, hg, hrow⟩ := W0.out.row hz
        rw [← j2.cell (p := ⟨g, off + k, none⟩) hg] at hc1
        have hrow2 := hrow.chg (Chg.of_below j2 Nil) (fun _ _ _ h => h)
        have hnb := hrow.1
        have hcb := hrow.2.1
        unfold maxLen at hcb
        obtain ⟨lb, hlb⟩ : ∃ lb, z0[k].take 32 = lb := ⟨_, rfl⟩
        go_upto_region 7 with fail
        go_cut [8] (fun s8 wx => wx = wr ∧ ∃ M : Nat, M = min nb 32 ∧ s8 = .slice ab M cb)
        case first =>
          go_wp2
          go_meet
          exact ⟨rfl, (min (nb : Int) 32).toNat, by omega, rfl⟩
        case rest =>
          obtain ⟨rfl, M, hM, rfl⟩ := hcut
          have hrow3 := hrow2.upto hM
          have hrow0 := hrow.upto hM
          rw [hlb] at hrow3 hrow0
          have hlb32 : lb.length = M := by rw [← hlb, List.length_take, hrow2.ilen, hM, Nat.min_comm]
          have hM32 : M ≤ 32 := by omega
          replace hM := hid hM
          subst hlb32
          have hM63 : lb.length ≤ 4294967296 := by omega
          have R3 := hid hrow3
          have HB : Hid (∀ w', Below w.heap.size w w' → Rd w' (Upto w.heap.size) 1 ab lb.length cb (ints .u8 lb)) := fun w' h => hrow0.chg (Chg.of_below h Nil) (fun _ _ _ h => h)
          have J1 := hid j1
          have J3 := hid j3
          have hcl := hid (cuts_length z0 k (by omega))
          replace hlb := hid hlb
          clear hrow hrow2 hrow3 hrow0 j1 j3
          go_wp2_with fail
          refine (clone_u8 _ _ _ _ _ _ R3.out (ints_one _ _) hM63).mono ?_
          rintro e w2 ⟨ai, ci, Gi, rfl, x1, x2, x3⟩
          have k1 := J1.out.chg x2 (fun _ _ h => h)
          go_wp2_with fail
          refine (put_room _ _ _ _ _ _ _ _ _ _ _ k1 x1.rd hM32 (by rw [hcl.out]; omega) (by omega) (by omega) (by omega)).mono ?_
          rintro e w3 ⟨F', rfl, y1, y2, y3⟩
          -- in, b and the ring behind Put
          have in1 := x1.chg y2 (fun g hg hF => by have h1 := x3 g hg; have h2 := J1.out.lt_all g hF; omega)
          have hx3 : ∀ g, Gi = some g → ¬ F' g := fun g hg hF => by
            rcases y3 g hF with h | h
            · have h1 := x3 g hg; have h2 := J1.out.lt_all g h; omega
            · have := x1.lt g hg; omega
          have hge : ∀ g, F' g → w.heap.size ≤ g := grew_ge y3 J3.out (by have := x2.size; have := j2.size; omega)
          have hgi : ∀ g, Gi = some g → w.heap.size ≤ g := fun g hg => by have := x3 g hg; have := j2.size; omega
          have B3 : Below w.heap.size w w3 := below_chg (below_nil j2 x2) y2 J3.out
          have Y1 : RingAt w3 F' p 8 ((a1 + ((k + 1 : Nat) : Int)) % 4294967296) (cuts z0 (k + 1)) := by
            rw [cuts_succ z0 k hz, hlb.out]
            have : ((a1 + (k : Int)) % 4294967296 + 1) % 4294967296 = (a1 + ((k + 1 : Nat) : Int)) % 4294967296 := by omega
            rw [← this]; exact y1
          have hfc := first_cuts z0 a1 (k + 1) (by omega) (by omega) (by omega)
          have hfk := far_k a1 k (by omega)
          have hcl1 := cuts_length z0 (k + 1) (by omega)
          have hcl2 := cuts_last z0 k hz
          rw [hlb.out] at hcl2
          replace hfc := hid hfc
          replace hfk := hid hfk
          replace hcl1 := hid hcl1
          replace hcl2 := hid hcl2
          replace hx3 := hid hx3
          replace hge := hid hge
          replace hgi := hid hgi
          replace x3 := hid x3
          replace y3 := hid y3
          clear y1 k1
          go_wp2_with fail
          refine (bytes_same _ _ _ _ _ _ _ _ lb _ in1.rd (HB.out w3 B3)).mono ?_
          rintro e w' ⟨rfl, rfl⟩
          go_wp2_with fail
          refine (spoil_any _ _ _ _ _ _ _ in1).mono ?_
          rintro e w4 ⟨rfl, c4⟩
          have Y4 := Y1.chg c4 (fun g hF hG => hx3.out g hG hF)
          have B4 := below_chg B3 c4 hgi.out
          go_wp2_with fail
          refine (get_ok _ _ _ _ _ _ _ Y4 (by rw [hcl1.out]; omega) k lb hcl2.out (by rw [hfc.out]; exact hfk.out)).mono ?_
          rintro e w5 ⟨ax, cx, Gx, rfl, t1, t2, t3⟩
          have Y5 := Y4.chg t2 (fun _ _ h => h)
          have B5 := below_nil B4 t2
          have hgx : ∀ g, Gx = some g → w.heap.size ≤ g := fun g hg => by have := t3 g hg; have := B4.size; omega
          replace hgx := hid hgx
          have hgy : ∀ g, Gx = some g → ¬ F' g := fun g hg hF => by have := t3 g hg; have := Y4.lt_all g hF; omega
          replace hgy := hid hgy
          replace t3 := hid t3
          go_wp2_with fail
          refine (bytes_same _ _ _ _ _ _ _ _ lb _ t1.rd (HB.out w5 B5)).mono ?_
          rintro e w' ⟨rfl, rfl⟩
          go_wp2_with fail
          refine (spoil_any _ _ _ _ _ _ _ t1).mono ?_
          rintro e w6 ⟨rfl, c6⟩
          have Y6 := Y5.chg c6 (fun g hF hG => hgy.out g hG hF)
          have B6 := below_chg B5 c6 hgx.out
          have hfrom := from_ok _ _ _ _ _ _ Y6 (by rw [hcl1.out]; omega) (by omega) (by omega)
          rw [hfc.out, hcl1.out] at hfrom
          replace hfrom := hid hfrom
          go_wp2_with fail
          refine hfrom.out.mono ?_
          rintro e w7 ⟨aa, ca, rfl, u1⟩
          obtain ⟨G, vs, H, s1, s2, s3, s4, s5⟩ := u1
          rw [List.take_of_length_le (by rw [hcl1.out]; exact Nat.le_refl _)] at s2
          obtain ⟨ga, offa, rfl, _, _, hvc⟩ := s1.rd.cellAt (by omega)
          obtain ⟨hkl, hke⟩ := List.getElem?_eq_some_iff.1 hcl2.out
          obtain ⟨hk32, ak, ck, v1, v2⟩ := s2.2.1 k hkl
          clear hk32
          rw [hke] at v1 v2
          have hv1 := hvc k (by omega)
          rw [v1] at hv1
          have Y7 := Y6.chg s3 (fun _ _ h => h)
          have B7 := below_nil B6 s3
          have hca1 := s1.1
          have hca2 := s1.2.1
          unfold maxLen at hca2
          have hI0 : SpInv w F' p ((a1 + ((k + 1 : Nat) : Int)) % 4294967296) (cuts z0 (k + 1)) (k + 1) (some ⟨ga, offa, none⟩) ca G vs H w7 0 := by
            refine ⟨Y7, B7, s1, fun j _ hj => ?_⟩
            obtain ⟨_, a, c, h2, h3⟩ := s2.2.1 j (by rw [hcl1.out]; exact hj)
            exact ⟨a, _, c, _, h2, h3⟩
          have hst : ∀ (w8 w9 : World) (i : Nat), i < k + 1 → SpInv w F' p ((a1 + ((k + 1 : Nat) : Int)) % 4294967296) (cuts z0 (k + 1)) (k + 1) (some ⟨ga, offa, none⟩) ca G vs H w8 i → Chg (Opt (H i)) w8 w9 → SpInv w F' p ((a1 + ((k + 1 : Nat) : Int)) % 4294967296) (cuts z0 (k + 1)) (k + 1) (some ⟨ga, offa, none⟩) ca G vs H w9 (i + 1) := by
            intro w8 w9 i hi ⟨p1, p2, p3, p4⟩ hc
            refine ⟨p1.chg hc (fun g hF hH => ?_), below_chg p2 hc (fun g hH => ?_), p3.chg hc (fun g hg hH => ?_), fun j h1 h2 => ?_⟩
            · have := s5 i g hi hH; have := Y6.lt_all g hF; omega
            · have := s5 i g hi hH; have := B6.size; omega
            · obtain ⟨a, n, c, xs, _, q⟩ := p4 i (Nat.le_refl _) hi
              exact sl_ne p3 q (by decide) g hg hH
            · obtain ⟨a, n, c, xs, q', q⟩ := p4 j (by omega) h2
              refine ⟨a, n, c, xs, q', q.chg hc (fun g hg hH => ?_)⟩
              have := s2.2.2 j i g (by rw [hcl1.out]; exact h2) (by rw [hcl1.out]; exact hi) hg hH
              omega
          replace hI0 := hid hI0
          replace hst := hid hst
          have V2 := hid v2.rd
          clear hvc s2 s3 s4 s5 s1 v1 v2 hkl hke
          go_wp2_with (go_at_call 22; refine (bytes_same _ _ _ _ _ _ _ _ lb _ V2.out (HB.out w7 B7)).mono ?_; rintro e w' ⟨rfl, rfl⟩)
          obtain ⟨wo, hwo⟩ : ∃ wo : World, wo = wc := ⟨_, rfl⟩
          go_loopw [109] (fun s109 wr => ∃ i : Nat, i ≤ k + 1 ∧ s109 = .int .i64 i ∧ Hid (SpInv w F' p ((a1 + ((k + 1 : Nat) : Int)) % 4294967296) (cuts z0 (k + 1)) (k + 1) (some ⟨ga, offa, none⟩) ca G vs H wr i)) (fun s109 _ => k + 1 - (intOf s109).toNat)
          case atStart => exact ⟨0, by omega, rfl, hI0⟩
          case round =>
            obtain ⟨i, hi, rfl, hK⟩ := hrel
            clear hI0
            by_cases hil : i < k + 1
            · obtain ⟨p1, p2, p3, p4⟩ := id hK.out
              obtain ⟨ay, ny, cy, xy, r1, r2⟩ := p4 i (Nat.le_refl _) hil
              obtain ⟨_, _, he, _, _, hvc⟩ := p3.rd.cellAt (by omega)
              cases he
              have hv2 := hvc i hil
              rw [r1] at hv2
              clear hvc p4 r1
              go_wp2_with (go_at_call 23; refine (spoil_any _ _ _ _ _ _ _ r2).mono ?_; rintro e w9 ⟨rfl, c9⟩)
              go_roundw
              case rel => exact ⟨i + 1, by omega, by simp, hst.out _ _ _ hil hK.out c9⟩
              case measure => simp [intOf]; omega
            · obtain ⟨p1, p2, p3, p4⟩ := id hK.out
              clear p4
              go_wp2_with fail
              refine (get_ok _ _ _ _ _ _ _ p1 (by rw [hcl1.out]; omega) k lb hcl2.out (by rw [hfc.out]; exact hfk.out)).mono ?_
              rintro e w10 ⟨az, cz, Gz, rfl, t1, t2, t3⟩
              have Y10 := hid (p1.chg t2 (fun _ _ h => h))
              have B10 := below_nil p2 t2
              replace t3 := hid t3
              go_wp2_with (go_at_call 22; refine (bytes_same _ _ _ _ _ _ _ _ lb _ t1.rd (HB.out _ B10)).mono ?_; rintro e w' ⟨rfl, rfl⟩)
              go_roundw
              case rel => exact ⟨k + 1, by omega, by simp, F', Y10.out, B10, hge.out⟩
              case measure => simp [intOf]; omega
      · go_wp2
        go_ret
        obtain ⟨F, j1, j2, j3⟩ := hJ.out
        have j2' := j2
        rw [hp.out] at j2'
        exact ⟨rfl, by first | exact j2 | exact j2'⟩
end Go.Proofs.Ytbkcjfeahaphgaa
