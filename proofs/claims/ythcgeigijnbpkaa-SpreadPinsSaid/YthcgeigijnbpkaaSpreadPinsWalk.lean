/- The walk of the law SpreadPins: it returns true and changes nothing that was there. No condition. -/
import Derived.Test.YthcgeigijnbpkaaSpreadFullWalk
namespace Go.Proofs.Ythcgeigijnbpkaa
open Go.ChangeShapes Go.WideShapes Go.ChangeAt Go.RowKit
set_option linter.unusedVariables false
/-- The processor of the i-th task. -/
def posP (c tn i : Nat) : Nat := if i + 1 + tn < c then i + 1 + tn else i + 1 + tn - c
theorem pos_lt {c tn i : Nat} (h1 : i < c) (h2 : tn < c) : posP c tn i < c := by unfold posP; split <;> omega
theorem pos_inj {c tn i j : Nat} (hi : i < c) (hj : j < c) (h2 : tn < c) (h : posP c tn i = posP c tn j) : i = j := by unfold posP at h; split at h <;> split at h <;> omega
theorem pos_mod {c tn i : Nat} (h1 : i < c) (h2 : tn < c) : ((i : Int) + 1 + (tn : Int)) % (c : Int) = (posP c tn i : Int) := by
  have h : (i + 1 + tn) % c = posP c tn i := by
    unfold posP
    split
    · exact Nat.mod_eq_of_lt ‹_›
    · rw [Nat.mod_eq_sub_mod (by omega), Nat.mod_eq_of_lt (by omega)]
  rw [← h]
  push_cast
  rfl
/-- Each task may run on a processor of its own alone. -/
structure PiS (c tn k : Nat) (s : SR) : Prop where
  inv : InvS s
  nn : s.n = c
  len : s.vs.length = k
  each : ∀ (i : Nat) (v : VW), s.vs[i]? = some v → v.t = (i : Int) + 1 ∧ v.pin = 2 ^ posP c tn i ∧ v.cl ≠ 3 ∧ v.r = true
theorem pi_new (c tn : Nat) : PiS c tn 0 ⟨c, 0, 0, []⟩ := ⟨inv_new c, rfl, rfl, fun i v h => by simp [SR.vs] at h⟩
theorem PiS.tick {c tn k : Nat} {s : SR} (h : PiS c tn k s) (q : Int) : PiS c tn k (s.tick q) :=
  ⟨h.inv.toInvP.tick q, by rw [n_tick, h.nn], by rw [vs_tick, h.len], fun i v hv => by rw [vs_tick] at hv; exact h.each i v hv⟩
theorem PiS.add {c tn k : Nat} {s : SR} (h : PiS c tn k s) (hk : k < c) {va : Int} :
    (s.doAdd ((k : Int) + 1) 1 va).2 = 0 ∧ ((s.doAdd ((k : Int) + 1) 1 va).1.doPin ((k : Int) + 1) (2 ^ posP c tn k)).2 = 0 ∧ PiS c tn (k + 1) ((s.doAdd ((k : Int) + 1) 1 va).1.doPin ((k : Int) + 1) (2 ^ posP c tn k)).1 ∧ (s.doAdd ((k : Int) + 1) 1 va).1.n = c ∧ (s.doAdd ((k : Int) + 1) 1 va).1.ts.length = k + 1 := by
  have hno : ∀ y ∈ s.ts, y.t ≠ (k : Int) + 1 := by
    intro y hy he
    obtain ⟨j, hj⟩ := List.mem_iff_getElem?.1 hy
    have h1 := (h.each j _ (vs_get hj)).1
    have h2 := (List.getElem?_eq_some_iff.1 (vs_get hj)).1
    have h3 := h.len
    have h4 : (vw y).t = y.t := rfl
    omega
  have hw : s.who ((k : Int) + 1) = none := who_none (fnd_no (fun j y hy => hno y (List.mem_of_getElem? hy)))
  have e : s.doAdd ((k : Int) + 1) 1 va = (s.enter (newS ((k : Int) + 1) 1 va), 0) := by unfold SR.doAdd; rw [hw]
  rw [e]
  have ev := vs_enter s (newS ((k : Int) + 1) 1 va)
  have hI := h.inv.toInvP.enter (x := newS ((k : Int) + 1) 1 va) hno
  have hn : (s.enter (newS ((k : Int) + 1) 1 va)).n = c := h.nn
  obtain ⟨s1, hs1⟩ : ∃ s1, s1 = s.enter (newS ((k : Int) + 1) 1 va) := ⟨_, rfl⟩
  rw [← hs1] at ev hI hn ⊢
  have hl : s1.vs.length = k + 1 := by rw [ev, List.length_append, h.len]; rfl
  have hv : s1.vs[k]? = some ⟨(k : Int) + 1, 2 ^ s.n - 1, 1, 0, true⟩ := by rw [ev, List.getElem?_append_right (by rw [h.len]; exact Nat.le_refl _), h.len, Nat.sub_self]; rfl
  obtain ⟨x, hx, hxv⟩ := vs_of hv
  have hxt : x.t = (k : Int) + 1 := by rw [show x.t = (vw x).t from rfl, hxv]
  have e2 : s1.doPin ((k : Int) + 1) (2 ^ posP c tn k) = (s1.pinTo k (2 ^ posP c tn k), 0) := by unfold SR.doPin; rw [who_is hI.toInvP hx hxt]
  rw [e2]
  have ep := vs_pin s1 hx (2 ^ posP c tn k)
  refine ⟨rfl, rfl, ⟨hI.pinTo k _, by show (s1.pinTo _ _).n = c; rw [n_pin]; exact hn, ?_, fun i v hv2 => ?_⟩, hn, by rw [← vs_len]; exact hl⟩
  · show (s1.pinTo _ _).vs.length = _
    rw [ep, List.length_modify, hl]
  · have hv3 : (s1.pinTo k (2 ^ posP c tn k)).vs[i]? = some v := hv2
    rw [ep, List.getElem?_modify] at hv3
    by_cases hik : k = i
    · subst hik
      rw [hv] at hv3
      simp at hv3
      subst hv3
      exact ⟨rfl, rfl, by show (1 : Int) ≠ 3; omega, rfl⟩
    · have hi : i < k := by
        cases hz : s1.vs[i]? with
        | none => rw [hz] at hv3; cases hv3
        | some z => have := (List.getElem?_eq_some_iff.1 hz).1; omega
      rw [ev, List.getElem?_append_left (by rw [h.len]; exact hi)] at hv3
      cases hz : s.vs[i]? with
      | none => rw [hz] at hv3; cases hv3
      | some z =>
        rw [hz] at hv3
        simp [hik] at hv3
        subst hv3
        exact h.each i z hz
theorem PiS.pick {c tn : Nat} {s : SR} {M : Int} (h : PiS c tn c s) (hok : SOk M s) (ht : tn < c) {i : Nat} (hi : i < c) : pickV s (posP c tn i : Nat) = .tuple #[.int .i64 ((i : Int) + 1), .int .i64 0] := by
  have hl : s.ts.length = c := by rw [← vs_len, h.len]
  have hrun : ∀ (j : Nat) (y : ST), s.ts[j]? = some y → y.cpu = -1 ∨ y.cpu = (posP c tn j : Int) := by
    intro j y hy
    obtain ⟨a1, a2, a3, a4⟩ := h.each j _ (vs_get hy)
    rcases h.inv.each j y hy with h1 | ⟨h1, h2, h3, h4⟩
    · exact .inl h1
    · refine .inr ?_
      unfold pinB at h4
      rw [show y.pin = (vw y).pin from rfl, a2, Nat.testBit_two_pow] at h4
      have := of_decide_eq_true h4
      omega
  obtain ⟨x, hx⟩ : ∃ x, s.ts[i]? = some x := ⟨_, List.getElem?_eq_getElem (by rw [hl]; exact hi)⟩
  obtain ⟨a1, a2, a3, a4⟩ := h.each i _ (vs_get hx)
  have hxt : x.t = (i : Int) + 1 := a1
  have hcpu : x.cpu = (posP c tn i : Int) := by
    rcases hrun i x hx with h1 | h1
    · exfalso
      have hxo : x.o = false := (hok.each x (List.mem_of_getElem? hx)).o1 a3
      have hw : waitB x = true := one_wait a4 hxo h1
      have hp : pinB x (posP c tn i) = true := by
        unfold pinB
        rw [show x.pin = (vw x).pin from rfl, a2, Nat.testBit_two_pow]
        simp
      cases hon : onI s.ts ((posP c tn i : Nat) : Int) with
      | none => exact h.inv.full (posP c tn i) (by rw [h.nn]; exact pos_lt hi ht) hon i x hx ⟨hw, hp⟩
      | some j =>
        obtain ⟨y, hy, hyc⟩ := on_get hon
        have hjl : j < c := by have := (List.getElem?_eq_some_iff.1 hy).1; omega
        rcases hrun j y hy with h2 | h2
        · omega
        · have := pos_inj hi hjl ht (by omega)
          subst this
          rw [hx] at hy
          injection hy with hy
          subst hy
          omega
    · exact h1
  have hon : onI s.ts ((posP c tn i : Nat) : Int) = some i := on_is hx hcpu (fun j y hy hc => h.inv.cpu j i y x hy hx (by omega) (by omega))
  rw [pick_some hon hx, hxt]
set_option maxRecDepth 100000 in
set_option maxHeartbeats 2000000 in
theorem spreadPins_walk (a0 a1 : Int) (a2 : Option Addr) (len2 cap2 : Nat) (z2 : List Int) (w : World) (w0 : (Lit.int .i64 a0).wf = true) (w1 : (Lit.int .i64 a1).wf = true) (w2 : IsRow .i64 w a2 len2 cap2 z2) :
    Calls Try.prog 3 #[.int .i64 a0, .int .i64 a1, .slice a2 len2 cap2] w fun e w' => e = .returned (.bool true) ∧ Below w.heap.size w w' := by
  have hl1 := w2.1.1
  have hl2 := w2.1.2.1
  unfold maxLen at hl2
  have W2 := hid w2.1
  clear w0 w1 w2
  go_enter Try.func3, Try.ntmps3
  go_wp2_with fail
  refine (sbegun_ok _).mono ?_
  rintro e w1 ⟨rfl, c1⟩
  have B1 := hid (below_nil (Below.refl _ w) c1)
  clear c1
  go_wp2_with fail
  refine (rest_nat a0 4 _ (by omega) (by omega)).mono ?_
  rintro e w2 ⟨q, hq, rfl, rfl⟩
  go_upto_region 4 with fail
  obtain ⟨c, hc⟩ : ∃ c : Nat, c = q + 1 := ⟨_, rfl⟩
  have hcq : 1 + (q : Int) = (c : Int) := by omega
  have hc1 : 1 ≤ c := by omega
  have hc4 : c ≤ 4 := by omega
  rw [hcq]
  clear hcq hc hq
  go_wp2_with fail
  refine (rest_nat a1 (c : Int) _ (by omega) (by omega)).mono ?_
  rintro e w2 ⟨tn, htn, rfl, rfl⟩
  have ht : tn < c := by omega
  clear htn
  go_wp2_with fail
  refine (rx_new B1.out c hc1 hc4).mono ?_
  rintro e w3 ⟨p, rfl, h1, _⟩
  have I0 : Hid (∃ s, RunX w [] p s w3 ∧ PiS c tn 0 s ∧ SOk 0 s) := hid ⟨_, h1, pi_new c tn, new_ok c hc1 hc4⟩
  clear h1 B1
  go_wp2
  go_loopw [9] (fun s9 wr => ∃ k : Nat, k ≤ c ∧ s9 = .int .i64 ((k : Int) + 1) ∧ Hid (∃ s, RunX w [] p s wr ∧ PiS c tn k s ∧ SOk (2 * (k : Int)) s)) (fun s9 _ => c + 1 - (intOf s9).toNat)
  case atStart => exact ⟨0, by omega, rfl, I0⟩
  case round =>
    obtain ⟨k, hk, rfl, hJ⟩ := hrel
    clear I0
    by_cases hlt : k < c
    · obtain ⟨s, j1, j2, j3⟩ := id hJ.out
      obtain ⟨e1, e2, e3, e4, e5⟩ := j2.add hlt (va := (k : Int) + 1)
      have hlen : s.ts.length < 1000 := by rw [← vs_len, j2.len]; omega
      have hv : valB 1 ((k : Int) + 1) = true := by unfold valB; simp; omega
      have A := rx_add j1 j3 (by omega) hlen ((k : Int) + 1) 1 ((k : Int) + 1) (by omega) (by omega) hv
      have OK := j3.add hlen (t := (k : Int) + 1) (cl := 1) (va := (k : Int) + 1) (by omega) (by omega) hv
      rw [e1] at A
      obtain ⟨s1, hs1⟩ : ∃ s1, s1 = (s.doAdd ((k : Int) + 1) 1 ((k : Int) + 1)).1 := ⟨_, rfl⟩
      rw [← hs1] at A OK e2 e3 e4 e5
      have hpl := pos_lt hlt ht
      have hpm := pos_mod hlt ht
      obtain ⟨po, hpo⟩ : ∃ po, po = posP c tn k := ⟨_, rfl⟩
      rw [← hpo] at e2 e3 hpl hpm
      have hp16 : 2 ^ po < 16 := Nat.pow_lt_pow_right (a := 2) (n := 4) (by omega) (by omega)
      have P : Hid (∀ w', RunX w [] p s1 w' → Calls Try.prog 15 #[.pointer (some ⟨p, 0, none⟩), .int .i64 ((k : Int) + 1), .int .i64 ((2 : Int) ^ po)] w' (PX w [] p (s1.doPin ((k : Int) + 1) (2 ^ po)).1 0 w')) := hid (fun w' h => by
        have := rx_pin h OK (by omega) ((k : Int) + 1) (2 ^ po) Nat.one_le_two_pow (by rw [e4]; exact Nat.pow_lt_pow_right (by omega) hpl)
        rw [e2] at this
        have e6 : (((2 ^ po : Nat)) : Int) = (2 : Int) ^ po := by push_cast; rfl
        rw [e6] at this
        exact this)
      have OK2 : Hid (SOk (2 * (k : Int) + 1 + 1) (s1.doPin ((k : Int) + 1) (2 ^ po)).1) := hid (by
        unfold SR.doPin
        split
        · exact OK.more (by omega)
        · exact OK.pinTo _ hp16)
      have P2 : (2 : Int) ^ po ≤ 8 := by
        have : 2 ^ po ≤ 2 ^ 3 := Nat.pow_le_pow_right (by omega) (by omega)
        exact_mod_cast this
      have P1 : (1 : Int) ≤ (2 : Int) ^ po := by
        have : 1 ≤ 2 ^ po := Nat.one_le_two_pow
        exact_mod_cast this
      replace A := hid A
      have E3 := hid e3
      clear j1 j2 j3 e1 e2 e3 e4 e5 hs1 hpo hJ hv hp16 OK
      have i1 : (k : Int) + 1 ≤ (c : Int) := by omega
      go_wp2_with fail
      refine A.out.mono ?_
      rintro e w5 ⟨rfl, h1, _⟩
      have PP := hid (P.out w5 h1)
      clear h1 A P
      have hmin : min po 64 = po := by omega
      go_wp2_with fail
      refine PP.out.mono ?_
      rintro e w6 ⟨rfl, h2, _⟩
      replace h2 := hid h2
      go_wp2
      go_roundw
      case rel => exact ⟨k + 1, by omega, by go_num, _, h2.out, E3.out, OK2.out.more (by omega)⟩
      case measure => simp [intOf]; omega
    · obtain hkc : k = c := by omega
      have I1 : Hid (∃ s, RunX w [] p s wr ∧ PiS c tn c s ∧ SOk 8 s) := hid (by
        obtain ⟨s, j1, j2, j3⟩ := hJ.out
        exact ⟨s, j1, by rw [← hkc]; rw [← hkc] at j2; exact j2, j3.more (by omega)⟩)
      clear hJ
      subst hkc
      go_upto_region 13 with fail
      go_cut [56, 57, 58] (fun s56 s57 s58 wx => wx = wr ∧ ∃ N : Nat, N ≤ 60 ∧ N ≤ len2 ∧ s56 = .slice a2 N cap2 ∧ s57 = .int .i64 N ∧ s58 = .int .i64 0)
      case first =>
        go_wp2
        · go_meet
          exact ⟨rfl, 60, by omega, by omega, rfl, rfl, rfl⟩
        · go_meet
          exact ⟨rfl, len2, by omega, by omega, by simp, by simp, rfl⟩
      case rest =>
        obtain ⟨rfl, N, hN1, hN2, rfl, rfl, rfl⟩ := hcut
        obtain ⟨c, hck⟩ : ∃ c, c = k := ⟨_, rfl⟩
        rw [← hck] at I1 hc1 hc4 ht ⊢
        clear hck hk hlt
        obtain ⟨Z, hZ⟩ : ∃ Z, Z = z2.take N := ⟨_, rfl⟩
        have RZ : Hid (Rd w (Upto w.heap.size) 1 a2 N cap2 (ints .i64 Z)) := hid (by rw [hZ]; exact rd_take W2.out hN2)
        have ZL := hid RZ.out.ilen
        clear hZ W2
        go_wp2
        go_loopw [58] (fun s58 wr => ∃ k : Nat, k ≤ N ∧ s58 = .int .i64 k ∧ Hid (∃ s, RunX w [] p s wr ∧ PiS c tn c s ∧ SOk (8 + (k : Int)) s)) (fun s58 _ => N - (intOf s58).toNat)
        case atStart => exact ⟨0, by omega, rfl, by simpa using I1⟩
        case round =>
          obtain ⟨k, hk, rfl, hJ⟩ := hrel
          clear I1
          by_cases hlt : k < N
          · obtain ⟨s, j1, j2, j3⟩ := id hJ.out
            have hz : k < Z.length := by rw [ZL.out]; exact hlt
            obtain ⟨g, off, rfl, _, _, hc⟩ := (rd_rest RZ.out j1.bel).at hz
            have hc1' := hc k hz
            clear hc
            generalize Z[k] = v at hc1'
            have TK : Hid (∀ q, q < c → Calls Try.prog 16 #[.pointer (some ⟨p, 0, none⟩), .int .i64 (q : Nat)] wr (PX w [] p (s.tick q) 0 wr)) := hid (fun q hq => rx_tick j1 j3 (by omega) q (by rw [j2.nn]; exact hq))
            have F2 : Hid (∀ q : Nat, PiS c tn c (s.tick q)) := hid (fun q => j2.tick q)
            have OK2 : Hid (∀ q : Nat, SOk (8 + ((k : Int) + 1)) (s.tick q)) := hid (fun q => (j3.tick q).more (by omega))
            clear j1 j2 j3 hJ
            go_wp2_with fail
            refine (rest_nat _ (c : Int) _ (by omega) (by omega)).mono ?_
            rintro e w6 ⟨q, hq, rfl, rfl⟩
            have TK2 := hid (TK.out q (by omega))
            clear TK
            go_wp2_with fail
            refine TK2.out.mono ?_
            rintro e w7 ⟨rfl, h1, _⟩
            have F3 := hid (F2.out q)
            have OK3 := hid (OK2.out q)
            obtain ⟨s2, hs2⟩ : ∃ s2, s2 = s.tick q := ⟨_, rfl⟩
            rw [← hs2] at h1 F3 OK3
            replace h1 := hid h1
            clear F2 OK2 TK2 hs2 hq
            go_wp2
            go_loop [12] (fun s12 => ∃ i : Nat, i ≤ c ∧ s12 = .int .i64 ((i : Int) + 1)) (fun s12 => c + 1 - (intOf s12).toNat)
            case atStart => exact ⟨0, by omega, rfl⟩
            case round =>
              obtain ⟨i, hi, rfl⟩ := hrel
              by_cases hli : i < c
              · have hpl := pos_lt hli ht
                have hpm := pos_mod hli ht
                have PK := rx_pick h1.out OK3.out (posP c tn i) (by rw [F3.out.nn]; exact hpl)
                rw [F3.out.pick OK3.out ht hli] at PK
                obtain ⟨po, hpo⟩ : ∃ po, po = posP c tn i := ⟨_, rfl⟩
                rw [← hpo] at PK hpl hpm
                replace PK := hid PK
                clear hpo
                have i1 : (i : Int) + 1 ≤ (c : Int) := by omega
                go_wp2_with fail
                refine PK.out.mono ?_
                rintro e w8 ⟨rfl, hw⟩
                subst hw
                go_wp2
                go_round
                case rel => exact ⟨i + 1, by omega, by go_num⟩
                case measure => simp [intOf]; omega
              · go_wp2
                go_roundw
                case rel => exact ⟨k + 1, by omega, by go_num, s2, h1.out, F3.out, by push_cast; exact OK3.out⟩
                case measure => simp [intOf]; omega
          · go_wp2
            go_ret
            obtain ⟨s, j1, _⟩ := hJ.out
            exact ⟨rfl, j1.bel⟩
end Go.Proofs.Ythcgeigijnbpkaa
