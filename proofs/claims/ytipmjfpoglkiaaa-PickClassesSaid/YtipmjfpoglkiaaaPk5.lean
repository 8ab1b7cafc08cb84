/- The beginning of the laws of package pick, and turns of tasks of one priority. Conditions: at most sixteen tasks. -/
import Derived.Test.YtipmjfpoglkiaaaPk3F
import Derived.Test.YtipmjfpoglkiaaaPk4
namespace Go.Proofs.Ytipmjfpoglkiaaa
open Go.ChangeShapes Go.WideShapes Go.ChangeAt Go.RowKit
set_option linter.unusedVariables false
theorem pkPrio_ok {w0 : Env} {w : World} {p n : Nat} {s : PKS} (h : PkM w0 p n s w) (hn : n ≤ 900) (t v : Nat) (t1 : 1 ≤ t) (t2 : t ≤ 16) (hv : v < 8) (hc : s.cl (t : Int) = none) (ha : s.va (t : Int) = none) (hl : ∀ i, i < 8 → (s.q i).length ≤ 999) (hb : s.b < 256) (hq : prOf s.q (t : Int) 8 = -1) :
    Calls Try.prog 9 #[.pointer (some ⟨p, 0, none⟩), .int .i64 (t : Int), .int .i64 (v : Int)] w fun e w' => e = .returned (.int .i64 0) ∧ PkM w0 p (n + 1) { s with b := s.b ||| 2 ^ v, q := upF s.q v (s.q v ++ [(t : Int)]), cl := updM s.cl (t : Int) (some (.int .i64 2)), va := updM s.va (t : Int) (some (.int .i64 (v : Int))) } w' := by
  have A := hid (pkprio_ok h hn t v t1 t2 hv hc ha hl hb hq)
  clear h hc ha hl hb hq
  go_enter Try.func9, Try.ntmps9
  go_wp2_with fail
  refine A.out.mono ?_
  rintro e w1 ⟨rfl, k⟩
  replace k := hid k
  go_wp2
  go_ret
  exact ⟨rfl, k.out⟩
theorem pkFair_ok {w0 : Env} {w : World} {p n : Nat} {s : PKS} (h : PkM w0 p n s w) (hn : n ≤ 900) (t v : Nat) (t1 : 1 ≤ t) (t2 : t ≤ 16) (v1 : 1 ≤ v) (v2 : v ≤ 100) (hc : s.cl (t : Int) = none) (ha : s.va (t : Int) = none) (hl : s.ts.length < 1000) (hg : ∀ y ∈ s.ts, y.g = 0) (hq : ∀ x ∈ s.ts, x.t ≠ t) :
    Calls Try.prog 13 #[.pointer (some ⟨p, 0, none⟩), .int .i64 (t : Int), .int .i64 (v : Int)] w fun e w' => ∃ o, e = .returned (.int .i64 0) ∧ FLeast s.ts s.ts.length o ∧ PkM w0 p (n + 1) { s with ts := s.ts ++ [wokenF o (newF t v)], cl := updM s.cl (t : Int) (some (.int .i64 1)), va := updM s.va (t : Int) (some (.int .i64 (v : Int))) } w' := by
  have A := hid (pkfair_ok h hn t v t1 t2 v1 v2 hc ha hl hg hq)
  clear h hc ha hl hg hq
  go_enter Try.func13, Try.ntmps13
  go_wp2_with fail
  refine A.out.mono ?_
  rintro e w1 ⟨o, rfl, ho, k⟩
  replace k := hid k
  replace ho := hid ho
  go_wp2
  go_ret
  exact ⟨o, rfl, ho.out, k.out⟩
theorem top_pow {v : Nat} (hv : v < 8) : topB (2 ^ v) = v := by
  have : ∀ v : Fin 8, topB (2 ^ v.val) = v.val := by decide +kernel
  exact this ⟨v, hv⟩
theorem pickBegun_ok (w : World) : Calls Try.prog 6 #[] w fun e w' => e = .returned (.bool true) ∧ Below w.heap.size w w' := by
  have NW := hid (pknew_ok (w0 := Env.of w) (Chg.refl _ w))
  go_enter Try.func6, Try.ntmps6
  go_wp2_with fail
  refine NW.out.mono ?_
  rintro e w1 ⟨p, rfl, h1⟩
  have A1 := hid (pkFair_ok h1 (by omega) 1 5 (by omega) (by omega) (by omega) (by omega) rfl rfl (by simp [pkNew]) (by intro y hy; cases hy) (by intro y hy; cases hy))
  clear h1 NW
  go_wp2_with fail
  refine A1.out.mono ?_
  rintro e w2 ⟨o, rfl, _, h2⟩
  have A2 := hid (pkPrio_ok h2 (by omega) 2 0 (by omega) (by omega) (by omega) rfl rfl (fun i hi => by simp [pkNew]) (by simp [pkNew]) (prOf_none _ _ (fun i hi => by simp [pkNew]) 8 (by omega)))
  clear h2 A1
  go_wp2_with fail
  refine A2.out.mono ?_
  rintro e w3 ⟨rfl, h3⟩
  have A3 := hid (pktick_prio h3 rfl (by simp [pkNew]) (by simp [pkNew]) 2 (by omega) (by omega) 0 (by omega) (by show topB (0 ||| 2 ^ 0) = 0; decide) [] (by simp [pkNew, upF]) (by simp [pkNew, upF]) rfl rfl (by simp [pkNew]) (by simp [pkNew]) (by simp [pkNew]))
  clear h3 A2
  go_wp2_with fail
  refine A3.out.mono ?_
  rintro e w4 ⟨rfl, h4⟩
  have hb := hid h4.belw
  clear h4 A3
  go_wp2
  go_ret
  exact ⟨rfl, hb.out⟩
/-- Round and round. -/
def rotL (N j : Nat) : List Int := (List.range N).map (fun m => (((m + j) % N : Nat) : Int) + 1)
theorem rotL_len (N j : Nat) : (rotL N j).length = N := by unfold rotL; rw [List.length_map, List.length_range]
theorem rotL_get (N j : Nat) {m : Nat} (h : m < N) : (rotL N j)[m]? = some ((((m + j) % N : Nat) : Int) + 1) := by
  unfold rotL
  rw [List.getElem?_map, List.getElem?_range h]
  rfl
theorem rotL_cons {N : Nat} (hN : 0 < N) (j : Nat) : ∃ r, rotL N j = (((j % N : Nat) : Int) + 1) :: r ∧ r ++ [((j % N : Nat) : Int) + 1] = rotL N (j + 1) := by
  cases hr : rotL N j with
  | nil => have := rotL_len N j; rw [hr] at this; simp at this; omega
  | cons x r =>
    have h0 := rotL_get N j hN
    rw [hr, List.getElem?_cons_zero, Nat.zero_add] at h0
    injection h0 with h0
    subst h0
    have hl : r.length + 1 = N := by have := rotL_len N j; rw [hr] at this; simpa using this
    refine ⟨r, rfl, ?_⟩
    refine List.ext_getElem? (fun m => ?_)
    by_cases hm : m < r.length
    · rw [List.getElem?_append_left hm, rotL_get N (j + 1) (by omega)]
      have h1 := rotL_get N j (m := m + 1) (by omega)
      rw [hr, List.getElem?_cons_succ] at h1
      rw [h1, show m + (j + 1) = m + 1 + j by omega]
    · by_cases hm2 : m = r.length
      · subst hm2
        rw [List.getElem?_append_right (Nat.le_refl _), Nat.sub_self, List.getElem?_cons_zero, rotL_get N (j + 1) (by omega), show r.length + (j + 1) = j + N by omega, Nat.add_mod_right]
      · rw [List.getElem?_eq_none (by rw [List.length_append]; simp; omega), List.getElem?_eq_none (by rw [rotL_len]; omega)]
/-- Tasks of one priority, i ticks on. -/
structure SlS (N v i : Nat) (s : PKS) : Prop where
  ds : s.ds = []
  b : s.b = 2 ^ v
  q : s.q v = rotL N (i / 3)
  cl : ∀ t : Nat, 1 ≤ t → t ≤ N → s.cl (t : Int) = some (.int .i64 2) ∧ s.va (t : Int) = some (.int .i64 (v : Int))
  nw : s.nw = i
  u : s.used % 3 = (i : Int) % 3 ∧ 0 ≤ s.used ∧ s.used ≤ i
  now : i % 3 ≠ 0 → s.now = ((i / 3 % N : Nat) : Int) + 1
theorem SlS.tick {N v i : Nat} {s : PKS} (h : SlS N v i s) (hN : 0 < N) : ∃ r, s.q v = (((i / 3 % N : Nat) : Int) + 1) :: r ∧ SlS N v (i + 1) (pkTick s (((i / 3 % N : Nat) : Int) + 1) v r) := by
  obtain ⟨r, h1, h2⟩ := rotL_cons hN (i / 3)
  obtain ⟨u1, u2, u3⟩ := h.u
  have hu : pkU s (((i / 3 % N : Nat) : Int) + 1) % 3 = ((i + 1 : Nat) : Int) % 3 ∧ 0 ≤ pkU s (((i / 3 % N : Nat) : Int) + 1) ∧ pkU s (((i / 3 % N : Nat) : Int) + 1) ≤ ((i + 1 : Nat) : Int) := by
    unfold pkU
    by_cases h3 : i % 3 = 0
    · split <;> omega
    · rw [if_pos (h.now h3).symm]
      omega
  refine ⟨r, h.q.trans h1, ⟨rfl, h.b, ?_, h.cl, by show s.nw + 1 = i + 1; rw [h.nw], hu, fun h3 => ?_⟩⟩
  · show pkQ s _ v r v = _
    unfold pkQ
    by_cases h3 : pkU s (((i / 3 % N : Nat) : Int) + 1) % 3 = 0
    · rw [if_pos h3, upF_same, h2]
      congr 1
      omega
    · rw [if_neg h3, h.q]
      congr 1
      omega
  · show ((i / 3 % N : Nat) : Int) + 1 = _
    rw [show (i + 1) / 3 = i / 3 by omega]
/-- Tasks of one priority, k of them. -/
structure SlA (v k : Nat) (s : PKS) : Prop where
  ds : s.ds = []
  b : s.b = if k = 0 then 0 else 2 ^ v
  q : s.q v = (List.range k).map (fun (m : Nat) => (m : Int) + 1)
  qo : ∀ i, i ≠ v → s.q i = []
  cl : ∀ t : Nat, 1 ≤ t → t ≤ k → s.cl (t : Int) = some (.int .i64 2) ∧ s.va (t : Int) = some (.int .i64 (v : Int))
  co : ∀ t : Nat, k < t → s.cl (t : Int) = none ∧ s.va (t : Int) = none
  nw : s.nw = 0
  u : s.used = 0
theorem sla_new (v : Nat) : SlA v 0 pkNew := ⟨rfl, rfl, rfl, fun _ _ => rfl, fun t h1 h2 => by omega, fun t h => ⟨rfl, rfl⟩, rfl, rfl⟩
theorem SlA.add {v k : Nat} {s : PKS} (h : SlA v k s) : SlA v (k + 1) { s with b := s.b ||| 2 ^ v, q := upF s.q v (s.q v ++ [((k + 1 : Nat) : Int)]), cl := updM s.cl ((k + 1 : Nat) : Int) (some (.int .i64 2)), va := updM s.va ((k + 1 : Nat) : Int) (some (.int .i64 (v : Int))) } := by
  refine ⟨h.ds, ?_, ?_, fun i hi => ?_, fun t h1 h2 => ?_, fun t h1 => ?_, h.nw, h.u⟩
  · show s.b ||| 2 ^ v = if k + 1 = 0 then 0 else 2 ^ v
    have hb := h.b
    rw [if_neg (show ¬ k + 1 = 0 by omega)]
    by_cases hk : k = 0
    · rw [if_pos hk] at hb; rw [hb]; exact Nat.zero_or _
    · rw [if_neg hk] at hb; rw [hb]; exact Nat.or_self _
  · show upF s.q v _ v = _
    rw [upF_same, h.q, List.range_succ, List.map_append]
    simp
  · show upF s.q v _ i = []
    rw [upF_ne _ _ hi]; exact h.qo i hi
  · show updM s.cl _ _ (t : Int) = _ ∧ updM s.va _ _ (t : Int) = _
    unfold updM
    by_cases ht : t = k + 1
    · subst ht; rw [if_pos rfl, if_pos rfl]; exact ⟨rfl, rfl⟩
    · rw [if_neg (by omega), if_neg (by omega)]; exact h.cl t h1 (by omega)
  · show updM s.cl _ _ (t : Int) = _ ∧ updM s.va _ _ (t : Int) = _
    unfold updM
    rw [if_neg (by omega), if_neg (by omega)]
    exact h.co t (by omega)
theorem SlA.done {v N : Nat} {s : PKS} (h : SlA v N s) (hN : 0 < N) : SlS N v 0 s := by
  refine ⟨h.ds, by rw [h.b, if_neg (by omega)], ?_, h.cl, h.nw, by rw [h.u]; simp, fun h0 => absurd rfl h0⟩
  rw [h.q]
  unfold rotL
  refine List.map_congr_left (fun m hm => ?_)
  rw [List.mem_range] at hm
  rw [show m + 0 / 3 = m by omega, Nat.mod_eq_of_lt hm]
end Go.Proofs.Ytipmjfpoglkiaaa
