/- The walk of the law SpreadFull: it returns true and changes nothing that was there. No condition. -/
import Derived.Test.YthcgeigijnbpkaaSprV
import Derived.Deep.DeepCutAuto
import Derived.Deep.CutBlock
namespace Go.Proofs.Ythcgeigijnbpkaa
open Go.ChangeShapes Go.WideShapes Go.ChangeAt Go.RowKit
set_option linter.unusedVariables false
theorem rd_take {w : World} {R : Nat → Prop} {a : Option Addr} {n c k : Nat} {l : List Int} (h : Rd w R 1 a n c (ints .i64 l)) (hk : k ≤ n) : Rd w R 1 a k c (ints .i64 (l.take k)) := by
  have h1 := h.take_n hk
  rwa [Nat.mul_one, show (ints .i64 l).take k = ints .i64 (l.take k) from (List.map_take ..).symm] at h1
theorem rd_rest {w0 w : World} {a : Option Addr} {n c : Nat} {l : List Int} (h : Rd w0 (Upto w0.heap.size) 1 a n c (ints .i64 l)) (hb : Below w0.heap.size w0 w) : Rd w (Upto w0.heap.size) 1 a n c (ints .i64 l) :=
  h.chg (F := Nil) (Chg.of_below hb _) (fun _ _ _ h => h)
/-- All may run everywhere, and none has a deadline; and the row of who is ready. -/
structure FuS (c k n : Nat) (s : SR) (rb : List Bool) : Prop where
  inv : InvS s
  nn : s.n = c
  len : s.vs.length = k
  each : ∀ (i : Nat) (v : VW), s.vs[i]? = some v → v.t = (i : Int) + 1 ∧ v.pin = 2 ^ c - 1 ∧ v.cl ≠ 3
  row : rb = false :: (s.vs.map VW.r ++ List.replicate (n - k) false)
theorem FuS.blen {c k n : Nat} {s : SR} {rb : List Bool} (h : FuS c k n s rb) (hk : k ≤ n) : rb.length = n + 1 := by
  rw [h.row]
  simp [h.len]
  omega
theorem fu_new (c n : Nat) : FuS c 0 n ⟨c, 0, 0, []⟩ (List.replicate (n + 1) false) := ⟨inv_new c, rfl, rfl, fun i v h => by simp [SR.vs] at h, by simp [SR.vs, List.replicate_succ]⟩
theorem FuS.who {c k n : Nat} {s : SR} {rb : List Bool} (h : FuS c k n s rb) {i : Nat} (hi : i < k) : ∃ x, s.ts[i]? = some x ∧ s.who ((i : Int) + 1) = some (i, x) := by
  obtain ⟨x, hx⟩ : ∃ x, s.ts[i]? = some x := ⟨_, List.getElem?_eq_getElem (by rw [← vs_len, h.len]; exact hi)⟩
  exact ⟨x, hx, who_is h.inv.toInvP hx (h.each i _ (vs_get hx)).1⟩
theorem FuS.add {c k n : Nat} {s : SR} {rb : List Bool} (h : FuS c k n s rb) (hk : k < n) {cl va : Int} (hcl : cl ≠ 3) :
    (s.doAdd ((k : Int) + 1) cl va).2 = 0 ∧ FuS c (k + 1) n (s.doAdd ((k : Int) + 1) cl va).1 (rb.set (k + 1) true) := by
  have hno : ∀ y ∈ s.ts, y.t ≠ (k : Int) + 1 := by
    intro y hy he
    obtain ⟨j, hj⟩ := List.mem_iff_getElem?.1 hy
    have h1 := (h.each j _ (vs_get hj)).1
    have h2 := (List.getElem?_eq_some_iff.1 (vs_get hj)).1
    have h3 := h.len
    have h4 : (vw y).t = y.t := rfl
    omega
  have hw : s.who ((k : Int) + 1) = none := who_none (fnd_no (fun j y hy => hno y (List.mem_of_getElem? hy)))
  have e : s.doAdd ((k : Int) + 1) cl va = (s.enter (newS ((k : Int) + 1) cl va), 0) := by unfold SR.doAdd; rw [hw]
  rw [e]
  have ev := vs_enter s (newS ((k : Int) + 1) cl va)
  refine ⟨rfl, h.inv.toInvP.enter (x := newS ((k : Int) + 1) cl va) hno, h.nn, ?_, ?_, ?_⟩
  · show (s.enter _).vs.length = _
    rw [ev, List.length_append, h.len]; rfl
  · intro i v hv
    have hv' : (s.enter (newS ((k : Int) + 1) cl va)).vs[i]? = some v := hv
    rw [ev] at hv'
    by_cases hi : i < k
    · rw [List.getElem?_append_left (by rw [h.len]; exact hi)] at hv'
      exact h.each i v hv'
    · rw [List.getElem?_append_right (by rw [h.len]; omega), h.len] at hv'
      have hik : i - k = 0 := by
        have := (List.getElem?_eq_some_iff.1 hv').1
        simp at this
        omega
      rw [hik] at hv'
      simp at hv'
      subst hv'
      have : i = k := by omega
      subst this
      exact ⟨rfl, by show 2 ^ s.n - 1 = _; rw [h.nn], hcl⟩
  · show _ = false :: ((s.enter (newS ((k : Int) + 1) cl va)).vs.map VW.r ++ _)
    rw [ev, h.row, List.set_cons_succ, List.map_append]
    congr 1
    rw [List.set_append_right _ _ (by rw [List.length_map, h.len]; exact Nat.le_refl _), List.length_map, h.len, Nat.sub_self, show n - k = (n - (k + 1)) + 1 by omega, List.replicate_succ]
    simp
theorem FuS.get {c n : Nat} {s : SR} {rb : List Bool} (h : FuS c n n s rb) {i : Nat} {x : ST} (hx : s.ts[i]? = some x) : rb[i + 1]? = some x.r := by
  have hi := (List.getElem?_eq_some_iff.1 (vs_get hx)).1
  rw [h.row, List.getElem?_cons_succ, List.getElem?_append_left (by rw [List.length_map]; exact hi), List.getElem?_map, vs_get hx]
  rfl
theorem FuS.mod {c n : Nat} {s s' : SR} {rb : List Bool} (h : FuS c n n s rb) {i : Nat} {b : Bool} (hi : InvS s') (hn : s'.n = s.n) (hv : s'.vs = s.vs.modify i (fun v => { v with r := b })) (hl : i < n) : FuS c n n s' (rb.set (i + 1) b) := by
  refine ⟨hi, by rw [hn, h.nn], by rw [hv, List.length_modify, h.len], fun j v hj => ?_, ?_⟩
  · rw [hv, List.getElem?_modify] at hj
    cases hz : s.vs[j]? with
    | none => rw [hz] at hj; cases hj
    | some z =>
      rw [hz] at hj
      have h1 := h.each j z hz
      simp at hj
      subst hj
      split
      · exact h1
      · exact h1
  · rw [h.row, hv, List.set_cons_succ]
    congr 1
    rw [List.set_append_left _ _ (by rw [List.length_map, h.len]; exact hl)]
    congr 1
    refine List.ext_getElem? (fun j => ?_)
    rw [List.getElem?_set, List.getElem?_map, List.getElem?_map, List.getElem?_modify, List.length_map, h.len]
    by_cases hij : i = j
    · subst hij
      rw [if_pos rfl, if_pos hl, List.getElem?_eq_getElem (by rw [h.len]; exact hl)]
      simp
    · rw [if_neg hij]
      cases s.vs[j]? with
      | none => simp
      | some x => simp [hij]
theorem FuS.tick {c n : Nat} {s : SR} {rb : List Bool} (h : FuS c n n s rb) (q : Int) : FuS c n n (s.tick q) rb := by
  refine ⟨h.inv.toInvP.tick q, by rw [n_tick, h.nn], by rw [vs_tick, h.len], fun j v hj => ?_, by rw [vs_tick]; exact h.row⟩
  rw [vs_tick] at hj
  exact h.each j v hj
/-- How many of the first k are so; how many of the first processors are busy. -/
def cntB (l : List Bool) (k : Nat) : Nat := ((l.take k).filter (fun b => b)).length
theorem cntB_succ {l : List Bool} {k : Nat} (h : k < l.length) : cntB l (k + 1) = cntB l k + if l[k] then 1 else 0 := by
  unfold cntB
  rw [List.take_succ_eq_append_getElem h, List.filter_append, List.length_append]
  cases l[k] <;> simp
theorem cntB_le (l : List Bool) (k : Nat) : cntB l k ≤ l.length := by
  unfold cntB
  have h1 := List.length_filter_le (fun b : Bool => b) (l.take k)
  have h2 := List.length_take_le k l
  have h3 : (l.take k).length ≤ l.length := by rw [List.length_take]; omega
  omega
def busyK (s : SR) (k : Nat) : Nat := ((List.range k).filter (fun (j : Nat) => (onI s.ts (j : Int)).isSome)).length
theorem busyK_succ (s : SR) (k : Nat) : busyK s (k + 1) = busyK s k + if (onI s.ts (k : Int)).isSome then 1 else 0 := by
  unfold busyK
  rw [List.range_succ, List.filter_append, List.length_append]
  cases hon : onI s.ts (k : Int) with
  | none => simp [hon]
  | some i => simp [hon]
theorem busyK_le (s : SR) (k : Nat) : busyK s k ≤ k := by
  unfold busyK
  refine Nat.le_trans (List.length_filter_le _ _) (by rw [List.length_range]; exact Nat.le_refl _)
theorem FuS.fin {c n : Nat} {s : SR} {rb : List Bool} {M : Int} (h : FuS c n n s rb) (hok : SOk M s) : busyK s c = min c (cntB rb (n + 1)) := by
  have h1 := busy_all h.inv (fun x hx k hk => by
    obtain ⟨i, hi⟩ := List.mem_iff_getElem?.1 hx
    have h2 := (h.each i _ (vs_get hi)).2.1
    have h3 : (vw x).pin = x.pin := rfl
    unfold pinB
    rw [← h3, h2, Nat.testBit_two_pow_sub_one]
    have := h.nn
    simp
    omega) (fun x hx => by
    obtain ⟨i, hi⟩ := List.mem_iff_getElem?.1 hx
    exact (hok.each x hx).o1 (h.each i _ (vs_get hi)).2.2)
  have e1 : busyK s c = busyN s := by unfold busyK busyN; rw [h.nn]
  have e2 : cntB rb (n + 1) = (s.ts.filter (fun x => x.r)).length := by
    unfold cntB
    rw [List.take_of_length_le (by rw [h.blen (Nat.le_refl _)]; exact Nat.le_refl _), h.row, Nat.sub_self]
    unfold SR.vs
    simp only [List.replicate_zero, List.append_nil, List.filter_cons, List.map_map, Bool.false_eq_true, if_false]
    rw [List.filter_map, List.length_map]
    rfl
  rw [e1, e2, h1, h.nn]
theorem bools_set (l : List Bool) (i : Nat) (b : Bool) : (bools l).set i (.bool b) = bools (l.set i b) := by unfold bools; rw [List.map_set]
theorem bools_get {l : List Bool} {i : Nat} {b : Bool} (h : l[i]? = some b) : (bools l)[i]? = some (.bool b) := by unfold bools; rw [List.getElem?_map, h]; rfl
/-- The run and the row, in memory. -/
def FuM (w0 : World) (c k n p b : Nat) (M : Int) (w : World) : Prop := ∃ s rb, RunX w0 [b] p s w ∧ Blk w b 4 (bools rb) ∧ FuS c k n s rb ∧ SOk M s
set_option maxRecDepth 100000 in
set_option maxHeartbeats 2000000 in
theorem spreadFull_walk (a0 a1 : Int) (a2 : Option Addr) (len2 cap2 : Nat) (z2 : List Int) (w : World) (w0 : (Lit.int .i64 a0).wf = true) (w1 : (Lit.int .i64 a1).wf = true) (w2 : IsRow .i64 w a2 len2 cap2 z2) :
    Calls Try.prog 7 #[.int .i64 a0, .int .i64 a1, .slice a2 len2 cap2] w fun e w' => e = .returned (.bool true) ∧ Below w.heap.size w w' := by
  have hl1 := w2.1.1
  have hl2 := w2.1.2.1
  unfold maxLen at hl2
  have W2 := hid w2.1
  clear w0 w1 w2
  have ebool : ∀ (n : Nat) (hn : n ≤ 100) (w : World), (Instr.makeSlice 39 (.int .i64 ((n : Int) + 1)) (.int .i64 ((n : Int) + 1))).run Try.prog w = .ok (.slice (some ⟨w.heap.size, 0, none⟩) (n + 1) (n + 1)) (w.alloc (.cells (List.replicate (n + 1) (.bool false)).toArray 4)) := fun n hn w => by
    have := run_make1 (P := Try.prog) (t := 39) (e := 4) (z := .bool false) (bytes := 1) Try.underlying39 (by kernel_rfl) rfl (by omega) (n + 1) (by omega) w
    exact this
  replace ebool := hid ebool
  go_enter Try.func7, Try.ntmps7
  go_wp2_with fail
  refine (sbegun_ok _).mono ?_
  rintro e w1 ⟨rfl, c1⟩
  have B1 := hid (below_nil (Below.refl _ w) c1)
  clear c1
  go_wp2_with fail
  refine (rest_nat a0 4 _ (by omega) (by omega)).mono ?_
  rintro e w2 ⟨q, hq, rfl, rfl⟩
  go_wp2_with fail
  refine (rest_nat a1 17 _ (by omega) (by omega)).mono ?_
  rintro e w2 ⟨n, hn, rfl, rfl⟩
  obtain ⟨c, hc⟩ : ∃ c : Nat, c = q + 1 := ⟨_, rfl⟩
  have hcq : 1 + (q : Int) = (c : Int) := by omega
  rw [hcq]
  have hc1 : 1 ≤ c := by omega
  have hc4 : c ≤ 4 := by omega
  have hn16 : n ≤ 16 := by omega
  clear hcq hc hq hn
  go_wp2_with fail
  refine (rx_new B1.out c hc1 hc4).mono ?_
  rintro e w3 ⟨p, rfl, h1, _⟩
  have hmk := ebool.out n (by omega)
  obtain ⟨b, hb⟩ : ∃ b, b = w3.heap.size := ⟨_, rfl⟩
  have I0 : Hid (FuM w c 0 n p b 0 (w3.alloc (.cells (List.replicate (n + 1) (.bool false)).toArray 4))) := hid ⟨_, _, by rw [hb]; exact h1.alloc _, by
    have := Blk.new w3 4 (List.replicate (n + 1) (.bool false))
    rw [← hb] at this
    have e : bools (List.replicate (n + 1) false) = List.replicate (n + 1) (.bool false) := by unfold bools; rw [List.map_replicate]
    rw [e]
    exact this, fu_new c n, new_ok c hc1 hc4⟩
  rw [show (List.replicate (n + 1) (Value.bool false)).toArray = Array.replicate (n + 1) (.bool false) by simp] at I0
  replace hb := hid hb
  clear h1 B1
  go_upto_region 8 with fail
  clear hmk
  rw [← hb.out]
  generalize World.alloc w3 _ = w4 at I0 ⊢
  clear hb ebool
  go_wp2
  go_loopw [10] (fun s10 wr => ∃ k : Nat, k ≤ n ∧ s10 = .int .i64 ((k : Int) + 1) ∧ Hid (FuM w c k n p b k wr)) (fun s10 _ => n + 1 - (intOf s10).toNat)
  case atStart => exact ⟨0, by omega, rfl, I0⟩
  case round =>
    obtain ⟨k, hk, rfl, hJ⟩ := hrel
    clear I0
    by_cases hlt : k < n
    · obtain ⟨s, rb, j1, j2, j3, j4⟩ := id hJ.out
      obtain ⟨va, hva⟩ : ∃ va : Int, va = 1 + ((k : Int) + 1) % 7 := ⟨_, rfl⟩
      obtain ⟨cl, hcl⟩ : ∃ cl : Int, cl = 1 + ((k : Int) + 1) % 2 := ⟨_, rfl⟩
      have hcl3 : cl ≠ 3 := by omega
      have hv : valB cl va = true := by
        unfold valB
        split
        · simp; omega
        · rw [if_pos (by omega)]; simp; omega
      obtain ⟨e1, e2⟩ := j3.add hlt (cl := cl) (va := va) hcl3
      have hlen : s.ts.length < 1000 := by rw [← vs_len, j3.len]; omega
      have A := rx_add j1 j4 (by omega) hlen ((k : Int) + 1) cl va (by omega) (by omega) hv
      rw [e1] at A
      have OK := j4.add hlen (t := (k : Int) + 1) (cl := cl) (va := va) (by omega) (by omega) hv
      have hrl := j3.blen (by omega)
      have hgk : k + 1 < rb.length := by omega
      replace A := hid A
      replace e2 := hid e2
      replace OK := hid OK
      have J2 := hid j2
      rw [hcl, hva] at A
      clear j1 j2 j3 j4 e1 hJ hv hcl3
      have i1 : (k : Int) + 1 ≤ (n : Int) := by omega
      have i2 : (k : Int) + 1 < (n : Int) + 1 := by omega
      have hto : ((k : Int) + 1).toNat = k + 1 := by omega
      have HVA := hid hva
      have HCL := hid hcl
      clear hva hcl
      go_wp2_with fail
      refine A.out.mono ?_
      rintro e w5 ⟨rfl, h1, h2⟩
      rw [← HCL.out, ← HVA.out] at h1
      have Bk := h2 b (by simp) _ _ J2.out
      have bk := Bk.cell (k + 1)
      have fk := Bk.frozen (k + 1)
      have hgb : (bools rb)[k + 1]? = some (.bool rb[k + 1]) := bools_get (List.getElem?_eq_getElem hgk)
      rw [hgb] at bk
      have HB := hid (Bk.set (k + 1) (.bool true))
      have HX := hid (h1.put (g := b) (i := k + 1) (by simp) (.bool true))
      clear h1 h2 Bk hgb A
      go_wp2
      go_roundw
      case rel => exact ⟨k + 1, by omega, by go_num, _, _, HX.out, by have := HB.out; rw [bools_set] at this; exact this, e2.out, OK.out⟩
      case measure => simp [intOf]; omega
    · obtain rfl : k = n := by omega
      obtain ⟨n, hnk⟩ : ∃ n, n = k := ⟨_, rfl⟩
      have I1 : Hid (FuM w c n n p b n wr) := hid (by rw [hnk]; exact hJ.out)
      rw [← hnk] at hn16 hk hlt ⊢
      clear hnk hJ hk hlt
      go_upto_region 14 with fail
      go_cut [60, 61, 62] (fun s60 s61 s62 wx => wx = wr ∧ ∃ N : Nat, N ≤ 150 ∧ N ≤ len2 ∧ s60 = .slice a2 N cap2 ∧ s61 = .int .i64 N ∧ s62 = .int .i64 0)
      case first =>
        go_wp2
        · go_meet
          exact ⟨rfl, 150, by omega, by omega, rfl, rfl, rfl⟩
        · go_meet
          exact ⟨rfl, len2, by omega, by omega, by simp, by simp, rfl⟩
      case rest =>
        obtain ⟨rfl, N, hN1, hN2, rfl, rfl, rfl⟩ := hcut
        obtain ⟨Z, hZ⟩ : ∃ Z, Z = z2.take N := ⟨_, rfl⟩
        have RZ : Hid (Rd w (Upto w.heap.size) 1 a2 N cap2 (ints .i64 Z)) := hid (by rw [hZ]; exact rd_take W2.out hN2)
        have ZL := hid RZ.out.ilen
        clear hZ W2
        go_wp2
        go_loopw [62] (fun s62 wr => ∃ k : Nat, k ≤ N ∧ s62 = .int .i64 k ∧ Hid (FuM w c n n p b ((n : Int) + (k : Int)) wr)) (fun s62 _ => N - (intOf s62).toNat)
        case atStart => exact ⟨0, by omega, rfl, by simpa using I1⟩
        case round =>
          obtain ⟨k, hk, rfl, hJ⟩ := hrel
          clear I1
          by_cases hlt : k < N
          · have hz : k < Z.length := by rw [ZL.out]; exact hlt
            have hbel : Below w.heap.size w wr := by obtain ⟨s, rb, j1, _⟩ := hJ.out; exact j1.bel
            obtain ⟨g, off, rfl, _, _, hc⟩ := (rd_rest RZ.out hbel).at hz
            have hc1 := hc k hz
            clear hc hbel
            generalize Z[k] = v at hc1
            by_cases hn0 : n = 0
            · have hb0 : ((n : Int) == 0) = true := by rw [beq_iff_eq]; omega
              have HN0 := hid hn0
              clear hn0
              go_wp2
              go_ret
              obtain ⟨s, rb, j1, _⟩ := hJ.out
              exact ⟨rfl, j1.bel⟩
            · have hb0 : ((n : Int) == 0) = false := by rw [beq_eq_false_iff_ne]; omega
              have hn1 : 1 ≤ n := by omega
              clear hn0
              go_wp2_with fail
              refine (rest_nat _ (n : Int) _ (by omega) (by omega)).mono ?_
              rintro e w5 ⟨i, hi, rfl, rfl⟩
              have hin : i < n := by omega
              obtain ⟨wo, hwo⟩ : ∃ wo : World, wo = wr := ⟨_, rfl⟩
              subst hwo
              go_upto_block 4 with (go_at_call 12; refine (rest_nat _ 3 _ (by omega) (by omega)).mono ?_; rintro e w6 ⟨m, hm, rfl, rfl⟩)
              go_cut [13] (fun _ wx => Hid (FuM w c n n p b ((n : Int) + ((k : Int) + 1)) wx))
              case first =>
                have hs3 : m = 0 ∨ m = 1 ∨ m = 2 := by omega
                obtain ⟨s, rb, j1, j2, j3, j4⟩ := id hJ.out
                have hM : (n : Int) + (k : Int) ≤ 1000000 := by omega
                obtain ⟨x, hx, hwho⟩ := j3.who hin
                rcases hs3 with rfl | rfl | rfl
                · have A := rx_block j1 j4 ((i : Int) + 1)
                  cases hr : x.r with
                  | true =>
                    have e : s.doBlock ((i : Int) + 1) = (s.block i, 0) := by unfold SR.doBlock; rw [hwho]; simp [hr]
                    rw [e] at A
                    have F2 : FuS c n n (s.block i) (rb.set (i + 1) false) := j3.mod (j3.inv.toInvP.block i) rfl (vs_block s i) hin
                    have OK2 := (j4.block i).more (show (n : Int) + (k : Int) ≤ (n : Int) + ((k : Int) + 1) by omega)
                    have bgk : i + 1 < rb.length := by rw [j3.blen (Nat.le_refl _)]; omega
                    replace A := hid A
                    replace F2 := hid F2
                    replace OK2 := hid OK2
                    have J2 := hid j2
                    rw [show (1 : Int) + (i : Int) = (i : Int) + 1 by omega]
                    clear j1 j2 j3 j4 hx hwho e hr hJ
                    have i2 : (i : Int) + 1 < (n : Int) + 1 := by omega
                    have hto : ((i : Int) + 1).toNat = i + 1 := by omega
                    go_wp2_with fail
                    refine A.out.mono ?_
                    rintro e w5 ⟨rfl, h1, h2⟩
                    have Bk := h2 b (by simp) _ _ J2.out
                    have bk := Bk.cell (i + 1)
                    have fk := Bk.frozen (i + 1)
                    have hgb : (bools rb)[i + 1]? = some (.bool rb[i + 1]) := bools_get (List.getElem?_eq_getElem bgk)
                    rw [hgb] at bk
                    have HB := hid (Bk.set (i + 1) (.bool false))
                    have HX := hid (h1.put (g := b) (i := i + 1) (by simp) (.bool false))
                    clear h1 h2 Bk hgb A
                    go_wp2
                    go_meet
                    exact ⟨_, _, HX.out, by have := HB.out; rw [bools_set] at this; exact this, F2.out, OK2.out⟩
                  | false =>
                    have e : s.doBlock ((i : Int) + 1) = (s, 8) := by unfold SR.doBlock; rw [hwho]; simp [hr]
                    rw [e] at A
                    have OK2 := j4.more (show (n : Int) + (k : Int) ≤ (n : Int) + ((k : Int) + 1) by omega)
                    replace A := hid A
                    have J3 := hid j3
                    replace OK2 := hid OK2
                    have J2 := hid j2
                    rw [show (1 : Int) + (i : Int) = (i : Int) + 1 by omega]
                    clear j1 j2 j3 j4 hx hwho e hr hJ
                    go_wp2_with fail
                    refine A.out.mono ?_
                    rintro e w5 ⟨rfl, h1, h2⟩
                    have Bk := hid (h2 b (by simp) _ _ J2.out)
                    replace h1 := hid h1
                    clear h2 A
                    go_wp2
                    go_meet
                    exact ⟨_, _, h1.out, Bk.out, J3.out, OK2.out⟩
                · have A := rx_wake j1 j4 hM ((i : Int) + 1)
                  cases hr : x.r with
                  | false =>
                    have e : s.doWake ((i : Int) + 1) = (s.wake i, 0) := by unfold SR.doWake; rw [hwho]; simp [hr]
                    rw [e] at A
                    have F2 : FuS c n n (s.wake i) (rb.set (i + 1) true) := j3.mod (j3.inv.toInvP.wake i) rfl (vs_wake s i) hin
                    have OK2 := (j4.wake i).more (show (n : Int) + (k : Int) + 1 ≤ (n : Int) + ((k : Int) + 1) by omega)
                    have bgk : i + 1 < rb.length := by rw [j3.blen (Nat.le_refl _)]; omega
                    replace A := hid A
                    replace F2 := hid F2
                    replace OK2 := hid OK2
                    have J2 := hid j2
                    rw [show (1 : Int) + (i : Int) = (i : Int) + 1 by omega]
                    clear j1 j2 j3 j4 hx hwho e hr hJ
                    have i2 : (i : Int) + 1 < (n : Int) + 1 := by omega
                    have hto : ((i : Int) + 1).toNat = i + 1 := by omega
                    go_wp2_with fail
                    refine A.out.mono ?_
                    rintro e w5 ⟨rfl, h1, h2⟩
                    have Bk := h2 b (by simp) _ _ J2.out
                    have bk := Bk.cell (i + 1)
                    have fk := Bk.frozen (i + 1)
                    have hgb : (bools rb)[i + 1]? = some (.bool rb[i + 1]) := bools_get (List.getElem?_eq_getElem bgk)
                    rw [hgb] at bk
                    have HB := hid (Bk.set (i + 1) (.bool true))
                    have HX := hid (h1.put (g := b) (i := i + 1) (by simp) (.bool true))
                    clear h1 h2 Bk hgb A
                    go_wp2
                    go_meet
                    exact ⟨_, _, HX.out, by have := HB.out; rw [bools_set] at this; exact this, F2.out, OK2.out⟩
                  | true =>
                    have e : s.doWake ((i : Int) + 1) = (s, 8) := by unfold SR.doWake; rw [hwho]; simp [hr]
                    rw [e] at A
                    have OK2 := j4.more (show (n : Int) + (k : Int) ≤ (n : Int) + ((k : Int) + 1) by omega)
                    replace A := hid A
                    have J3 := hid j3
                    replace OK2 := hid OK2
                    have J2 := hid j2
                    rw [show (1 : Int) + (i : Int) = (i : Int) + 1 by omega]
                    clear j1 j2 j3 j4 hx hwho e hr hJ
                    go_wp2_with fail
                    refine A.out.mono ?_
                    rintro e w5 ⟨rfl, h1, h2⟩
                    have Bk := hid (h2 b (by simp) _ _ J2.out)
                    replace h1 := hid h1
                    clear h2 A
                    go_wp2
                    go_meet
                    exact ⟨_, _, h1.out, Bk.out, J3.out, OK2.out⟩
                · have TK : Hid (∀ q, q < c → Calls Try.prog 16 #[.pointer (some ⟨p, 0, none⟩), .int .i64 (q : Nat)] wo (PX w [b] p (s.tick q) 0 wo)) := hid (fun q hq => rx_tick j1 j4 hM q (by rw [j3.nn]; exact hq))
                  have F2 : Hid (∀ q : Nat, FuS c n n (s.tick q) rb) := hid (fun q => j3.tick q)
                  have OK2 : Hid (∀ q : Nat, SOk ((n : Int) + ((k : Int) + 1)) (s.tick q)) := hid (fun q => (j4.tick q).more (by omega))
                  have J2 := hid j2
                  clear j1 j2 j3 j4 hx hwho hJ
                  go_wp2_with fail
                  refine (rest_nat _ (c : Int) _ (by omega) (by omega)).mono ?_
                  rintro e w6 ⟨q, hq, rfl, rfl⟩
                  have TK2 := hid (TK.out q (by omega))
                  clear TK
                  go_wp2_with fail
                  refine TK2.out.mono ?_
                  rintro e w7 ⟨rfl, h1, h2⟩
                  have Bk := hid (h2 b (by simp) _ _ J2.out)
                  replace h1 := hid h1
                  clear h2 TK2
                  go_wp2
                  go_meet
                  exact ⟨_, _, h1.out, Bk.out, F2.out q, OK2.out q⟩
              case rest =>
                obtain ⟨s, rb, j1, j2, j3, j4⟩ := id hcut.out
                have hbl := j3.blen (Nat.le_refl _)
                have J1 := hid j1
                have J2 := hid j2
                have J4 := hid j4
                have FIN := hid (j3.fin j4)
                have NN := hid j3.nn
                have HRES := hid hcut.out
                clear j1 j2 j3 j4 hcut hJ
                go_wp2
                go_loop [14, 102] (fun s14 s102 => ∃ j : Nat, j ≤ n + 1 ∧ s102 = .int .i64 j ∧ s14 = .int .i64 (cntB rb j)) (fun _ s102 => n + 1 - (intOf s102).toNat)
                case atStart => exact ⟨0, by omega, rfl, rfl⟩
                case round =>
                  obtain ⟨j, hj, rfl, rfl⟩ := hrel
                  by_cases hlj : j < n + 1
                  · have hgj : j < rb.length := by omega
                    have CS := hid (cntB_succ hgj)
                    have cle := cntB_le rb j
                    have bk := J2.out.cell j
                    rw [bools_get (List.getElem?_eq_getElem hgj)] at bk
                    have i2 : (j : Int) < (n : Int) + 1 := by omega
                    cases hbj : rb[j] with
                    | true =>
                      rw [hbj] at bk
                      have CS2 : Hid (cntB rb (j + 1) = cntB rb j + 1) := hid (by rw [CS.out, hbj]; rfl)
                      clear hbj CS
                      go_wp2
                      go_round
                      case rel => exact ⟨j + 1, by omega, by go_num, by rw [CS2.out]; go_num⟩
                      case measure => simp [intOf]; omega
                    | false =>
                      rw [hbj] at bk
                      have CS2 : Hid (cntB rb (j + 1) = cntB rb j) := hid (by rw [CS.out, hbj]; rfl)
                      clear hbj CS
                      go_wp2
                      go_round
                      case rel => exact ⟨j + 1, by omega, by go_num, by rw [CS2.out]⟩
                      case measure => simp [intOf]; omega
                  · obtain rfl : j = n + 1 := by omega
                    obtain ⟨want, hwant⟩ : ∃ want, want = cntB rb (n + 1) := ⟨_, rfl⟩
                    have wle := cntB_le rb (n + 1)
                    rw [← hwant] at FIN wle ⊢
                    clear hwant
                    go_wp2
                    go_loop [15, 111] (fun s15 s111 => ∃ j : Nat, j ≤ c ∧ s111 = .int .i64 j ∧ s15 = .int .i64 (busyK s j)) (fun _ s111 => c - (intOf s111).toNat)
                    case atStart => exact ⟨0, by omega, rfl, rfl⟩
                    case round =>
                      obtain ⟨j, hj, rfl, rfl⟩ := hrel
                      by_cases hlj : j < c
                      · have PK := rx_pick J1.out J4.out j (by rw [NN.out]; exact hlj)
                        have BS := hid (busyK_succ s j)
                        have ble := busyK_le s j
                        cases hon : onI s.ts (j : Int) with
                        | none =>
                          rw [pick_none hon] at PK
                          have BS2 : Hid (busyK s (j + 1) = busyK s j) := hid (by rw [BS.out, hon]; rfl)
                          replace PK := hid PK
                          clear hon BS
                          go_wp2_with fail
                          refine PK.out.mono ?_
                          rintro e w8 ⟨rfl, hw⟩
                          subst hw
                          go_wp2
                          go_round
                          case rel => exact ⟨j + 1, by omega, by go_num, by rw [BS2.out]⟩
                          case measure => simp [intOf]; omega
                        | some y =>
                          obtain ⟨z, hz2, _⟩ := on_get hon
                          rw [pick_some hon hz2] at PK
                          have BS2 : Hid (busyK s (j + 1) = busyK s j + 1) := hid (by rw [BS.out, hon]; rfl)
                          replace PK := hid PK
                          clear hon BS hz2
                          go_wp2_with fail
                          refine PK.out.mono ?_
                          rintro e w8 ⟨rfl, hw⟩
                          subst hw
                          go_wp2
                          go_round
                          case rel => exact ⟨j + 1, by omega, by go_num, by rw [BS2.out]; go_num⟩
                          case measure => simp [intOf]; omega
                      · obtain rfl : j = c := by omega
                        obtain ⟨busy, hbusy⟩ : ∃ busy, busy = busyK s j := ⟨_, rfl⟩
                        rw [← hbusy] at FIN ⊢
                        clear hbusy
                        have F2 := FIN.out
                        have hmin : (busy : Int) = min (j : Int) (want : Int) := by omega
                        have hneq : ((busy : Int) != min (j : Int) (want : Int)) = false := by rw [bne_eq_false_iff_eq]; exact hmin
                        have hne1 : j ≤ want → ((busy : Int) != (j : Int)) = false := fun h => by rw [bne_eq_false_iff_eq]; omega
                        have hne2 : ¬ j ≤ want → ((busy : Int) != (want : Int)) = false := fun h => by rw [bne_eq_false_iff_eq]; omega
                        replace hne1 := hid hne1
                        replace hne2 := hid hne2
                        clear F2 hmin
                        by_cases hjw : j ≤ want
                        · have h5 := hne1.out hjw
                          clear hne1 hne2 hneq
                          go_wp2
                          all_goals
                            go_roundw
                            case rel => exact ⟨k + 1, by omega, by go_num, by push_cast; exact HRES⟩
                            case measure => simp [intOf]; omega
                        · have h5 := hne2.out hjw
                          clear hne1 hne2 hneq
                          go_wp2
                          all_goals
                            go_roundw
                            case rel => exact ⟨k + 1, by omega, by go_num, by push_cast; exact HRES⟩
                            case measure => simp [intOf]; omega
          · go_wp2
            go_ret
            obtain ⟨s, rb, j1, _⟩ := hJ.out
            exact ⟨rfl, j1.bel⟩
end Go.Proofs.Ythcgeigijnbpkaa
