/- The walk of the law SleepRings: it returns true and changes nothing that was there. No condition. -/
import Derived.Test.YthbkmjigplolgaaLocked
import Derived.Deep.DeepCutAuto
namespace Go.Proofs.Ythbkmjigplolgaa
open Go.ChangeShapes Go.WideShapes Go.ChangeAt Go.RowKit
set_option linter.unusedVariables false
theorem ranks_bound {n : Nat} {vis : List Int} (h1 : vis.Nodup) (h2 : ∀ y ∈ vis, 1 ≤ y ∧ y ≤ (n : Int)) : vis.length ≤ n := by
  have := nodup_bound n (vis.map (fun x => (x - 1).toNat)) (by
    rw [List.Nodup, List.pairwise_map]
    refine h1.imp_of_mem (fun {a b} ha hb hne => ?_)
    have := h2 a ha
    have := h2 b hb
    omega) (fun x hx => by
    obtain ⟨a, ha, rfl⟩ := List.mem_map.1 hx
    have := h2 a ha
    omega)
  rw [List.length_map] at this
  exact this
set_option maxRecDepth 100000 in
set_option maxHeartbeats 1000000 in
theorem sleepRings_walk (a0 : Option Addr) (len0 cap0 : Nat) (z0 : List Int) (a1 : Option Addr) (len1 cap1 : Nat) (z1 : List (List Int)) (w : World) (w0 : IsRow .i64 w a0 len0 cap0 z0) (w1 : IsRows .i64 w a1 len1 cap1 z1) :
    Calls Try.prog 3 #[.slice a0 len0 cap0, .slice a1 len1 cap1] w fun e w' => e = .returned (.bool true) ∧ Below w.heap.size w w' := by
  have hl1 := w0.1.1
  have hl2 := w0.1.2.1
  unfold maxLen at hl2
  have hzl := w0.1.ilen
  have W0 := hid w0.1
  have W1 := hid w1
  clear w0 w1
  go_enter Try.func3, Try.ntmps3
  go_wp2_with fail
  refine (sleepBegun_ok _).mono ?_
  rintro e w2 ⟨rfl, c2⟩
  have C2 := hid c2
  clear c2
  go_upto_region 3 with fail
  go_cut [0] (fun s0 wx => wx = w2 ∧ ∃ N : Nat, N ≤ 16 ∧ N ≤ len0 ∧ s0 = .slice a0 N cap0)
  case first =>
    go_wp2
    · go_meet
      exact ⟨rfl, 16, by omega, by omega, rfl⟩
    · go_meet
      exact ⟨rfl, len0, by omega, by omega, by simp⟩
  case rest =>
  obtain ⟨rfl, N, hN1, hN2, rfl⟩ := hcut
  have hR := W0.out.take_n (k := N) hN2
  rw [Nat.mul_one, show (ints .i64 z0).take N = ints .i64 (z0.take N) by unfold ints; rw [List.map_take]] at hR
  obtain ⟨z, hz⟩ : ∃ z, z = z0.take N := ⟨_, rfl⟩
  rw [← hz] at hR
  have hzl2 : z.length = N := by rw [hz, List.length_take]; omega
  have HZ := hid hR
  clear hR hz
  go_wp2_with fail
  refine (locked_ok w _ (Upto w.heap.size) a0 N cap0 z a1 len1 cap1 z1 (below_nil (Below.refl _ w) C2.out) HZ.out hN1 W1.out).mono ?_
  rintro e w3 ⟨p, rfl, hI⟩
  obtain ⟨F, o, q, L, gF, bF⟩ := hI
  replace L := hid L
  replace gF := hid gF
  replace bF := hid bF
  obtain ⟨r, hr⟩ := L.out.s.acyc
  replace hr := hid hr
  go_wp2
  go_loop [7] (fun s7 => ∃ t : Nat, 1 ≤ t ∧ t ≤ N + 1 ∧ s7 = .int .i64 t) (fun s7 => N + 1 - (intOf s7).toNat)
  case atStart => exact ⟨1, by omega, by omega, rfl⟩
  case round =>
    obtain ⟨t, ht1, ht2, rfl⟩ := hrel
    by_cases htN : t ≤ N
    · have htN2 : (t : Int) ≤ (N : Int) := by omega
      go_wp2
      go_loop [8, 9] (fun s8 s9 => ∃ (x : Int) (st : Nat) (vis : List Int), 1 ≤ x ∧ x ≤ N ∧ st ≤ 16 ∧ s8 = .int .i64 x ∧ s9 = .int .i64 st ∧ Hid (vis.length = st ∧ vis.Nodup ∧ (∀ y ∈ vis, (1 ≤ y ∧ y ≤ (N : Int)) ∧ r x < r y) ∧ (x = t ∨ r x < r t))) (fun s8 _ => r (intOf s8))
      case atStart => exact ⟨t, 0, [], by omega, by omega, by omega, rfl, rfl, rfl, List.nodup_nil, by simp, .inl rfl⟩
      case round =>
        obtain ⟨x, st, vis, hx1, hx2, hst, rfl, rfl, hV⟩ := hrel
        cases hw : waitK q x with
        | none =>
          have HC := hid (lfor_none w3 F p N (prZ z) o q x L.out hx1 hx2 hw)
          clear hw
          go_wp2_with (go_at_call 14; refine HC.out.mono ?_; rintro e w' ⟨rfl, rfl⟩)
          go_round
          case rel => exact ⟨t + 1, by omega, by omega, by go_num⟩
          case measure => simp [intOf]; omega
        | some k =>
          obtain ⟨hk, hxk⟩ := (waitK_some L.out.s).1 hw
          have HC := hid (lfor_some w3 F p N (prZ z) o q x k L.out hx1 hx2 hw)
          have HO := hid (lowner_ok w3 F p N (prZ z) o q k L.out hk)
          have hrx := hr.out k hk x hxk
          have hob := L.out.s.own k hk
          have hoz : o k ≠ 0 := fun h0 => by rw [L.out.s.free k hk h0] at hxk; cases hxk
          obtain ⟨v1, v2, v3, v4⟩ := hV.out
          have hlen : (x :: vis).length ≤ N := ranks_bound (List.nodup_cons.2 ⟨fun hh => by have := (v3 x hh).2; omega, v2⟩) (fun y hy => by
            rcases List.mem_cons.1 hy with rfl | hy
            · exact ⟨hx1, hx2⟩
            · exact (v3 y hy).1)
          have hst2 : (st : Int) ≤ (N : Int) := by simp at hlen; omega
          have hst3 : st < 16 := by simp at hlen; omega
          have hne : (o k == (t : Int)) = false := by
            rw [beq_eq_false_iff_ne]
            intro hh
            rw [hh] at hrx
            rcases v4 with h | h
            · rw [h] at hrx; omega
            · omega
          have ho1 : 1 ≤ o k := by omega
          have ho2 : o k ≤ (N : Int) := hob.2
          have hnew : Hid ((x :: vis).length = st + 1 ∧ (x :: vis).Nodup ∧ (∀ y ∈ x :: vis, (1 ≤ y ∧ y ≤ (N : Int)) ∧ r (o k) < r y) ∧ (o k = t ∨ r (o k) < r t)) := by
            refine hid ⟨by simp [v1], List.nodup_cons.2 ⟨fun hh => by have := (v3 x hh).2; omega, v2⟩, fun y hy => ?_, ?_⟩
            · rcases List.mem_cons.1 hy with rfl | hy
              · exact ⟨⟨hx1, hx2⟩, hrx⟩
              · have := v3 y hy; exact ⟨this.1, by omega⟩
            · rcases v4 with h | h
              · rw [h] at hrx; exact .inr hrx
              · exact .inr (by omega)
          clear hw hxk v1 v2 v3 v4 hV hob hoz hlen
          go_wp2_with (first | (go_at_call 14; refine HC.out.mono ?_; rintro e w' ⟨rfl, rfl⟩) | (go_at_call 15; refine HO.out.mono ?_; rintro e w' ⟨rfl, rfl⟩))
          go_round
          case rel => exact ⟨o k, st + 1, x :: vis, ho1, ho2, by omega, rfl, by go_num, hnew⟩
          case measure => simp only [intOf]; exact hrx
    · have htN2 : (N : Int) < (t : Int) := by omega
      go_wp2
      go_ret
      exact ⟨rfl, bF.out⟩
end Go.Proofs.Ythbkmjigplolgaa
