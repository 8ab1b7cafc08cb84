/- Contracts of package sleep, where any tasks are there: New, Task, Row. Conditions: tasks from 1 to 16. -/
import Derived.Test.YtdelelpfombfbaaSlices
import Derived.Test.YtdelelpfombfbaaMem2
import Derived.Test.YtdelelpfombfbaaMapEnt
import Derived.Test.YtdelelpfombfbaaLockP
import Derived.RegionTactic
import Derived.BigRegion
import Derived.Deep.RegionLaw
import Derived.Deep.RegionHeld3
import Derived.Deep.QuietTactic
import Derived.BigQuiet
namespace Go.Proofs.Ytdelelpfombfbaa
open Go.ChangeShapes Go.WideShapes Go.ChangeAt Go.RowKit
set_option linter.unusedVariables false
theorem zeroIntL (w : World) : (zeroValue 3).run Try.prog w = .ok (.int .i64 0) w := by kernel_rfl
theorem eIntL : ETy Try.prog 22 3 1 8 := ⟨Try.underlying22, info_of (z := .int .i64 0) (by kernel_rfl) rfl, by decide⟩
/-- For which lock each waits; how urgent each is, of himself. -/
def forF (q : Nat → List Int) : Int → Option Value := fun t => (waitK q t).map (fun (k : Nat) => .int .i64 (k : Int))
/-- The cells of the locks. -/
def lkCells (pm : Nat) (o : Nat → Int) (A : Nat → Option Addr) (C : Nat → Nat) (q : Nat → List Int) (fm : Nat) : List Value :=
  .map (some pm) :: ((List.range 16).map (fun i => .int .i64 (o i)) ++ ((List.range 16).map (fun i => .slice (A i) (q i).length (C i)) ++ [.map (some fm)]))
section
variable (pm : Nat) (o : Nat → Int) (A : Nat → Option Addr) (C : Nat → Nat) (q : Nat → List Int) (fm : Nat)
theorem lk_len : (lkCells pm o A C q fm).length = 34 := by simp [lkCells]
theorem lk_own (i : Nat) (h : i < 16) : (lkCells pm o A C q fm)[1 + i]? = some (.int .i64 (o i)) := by
  rw [Nat.add_comm]
  unfold lkCells
  rw [List.getElem?_cons_succ, List.getElem?_append_left (by simpa using h)]
  simp [List.getElem?_range h]
theorem lk_row (i : Nat) (h : i < 16) : (lkCells pm o A C q fm)[17 + i]? = some (.slice (A i) (q i).length (C i)) := by
  rw [show 17 + i = (16 + i) + 1 by omega]
  unfold lkCells
  rw [List.getElem?_cons_succ, List.getElem?_append_right (by simp), List.length_map, List.length_range, show 16 + i - 16 = i by omega, List.getElem?_append_left (by simpa using h)]
  simp [List.getElem?_range h]
theorem lk_for : (lkCells pm o A C q fm)[33]? = some (.map (some fm)) := rfl
theorem lk_ext {l m : List Value} (hl : l.length = 34) (hm : m.length = 34) (h0 : l[0]? = m[0]?) (h1 : ∀ i, i < 16 → l[1 + i]? = m[1 + i]?) (h2 : ∀ i, i < 16 → l[17 + i]? = m[17 + i]?) (h3 : l[33]? = m[33]?) : l = m := by
  apply List.ext_getElem?
  intro j
  by_cases e0 : j = 0
  · subst e0; exact h0
  · by_cases e1 : j < 17
    · have := h1 (j - 1) (by omega)
      rwa [show 1 + (j - 1) = j by omega] at this
    · by_cases e2 : j < 33
      · have := h2 (j - 17) (by omega)
        rwa [show 17 + (j - 17) = j by omega] at this
      · by_cases e3 : j = 33
        · subst e3; exact h3
        · rw [List.getElem?_eq_none (by omega), List.getElem?_eq_none (by omega)]
theorem lk_set_own (i : Nat) (h : i < 16) (v : Int) : (lkCells pm o A C q fm).set (1 + i) (.int .i64 v) = lkCells pm (upN o i v) A C q fm := by
  refine lk_ext (by rw [List.length_set, lk_len]) (lk_len _ _ _ _ _ _) (by rw [List.getElem?_set_ne (by omega)]; rfl) (fun j hj => ?_) (fun j hj => ?_) (by rw [List.getElem?_set_ne (by omega), lk_for, lk_for])
  · rw [lk_own _ _ _ _ _ _ j hj]
    by_cases e : i = j
    · subst e; rw [List.getElem?_set_self (by rw [lk_len]; omega), upN_same]
    · rw [List.getElem?_set_ne (by omega), lk_own _ _ _ _ _ _ j hj, upN_ne _ _ (fun h => e h.symm)]
  · rw [List.getElem?_set_ne (by omega), lk_row _ _ _ _ _ _ j hj, lk_row _ _ _ _ _ _ j hj]
theorem lk_set_row (i : Nat) (h : i < 16) (a : Option Addr) (c : Nat) (l : List Int) : (lkCells pm o A C q fm).set (17 + i) (.slice a l.length c) = lkCells pm o (upN A i a) (upN C i c) (upN q i l) fm := by
  refine lk_ext (by rw [List.length_set, lk_len]) (lk_len _ _ _ _ _ _) (by rw [List.getElem?_set_ne (by omega)]; rfl) (fun j hj => ?_) (fun j hj => ?_) (by rw [List.getElem?_set_ne (by omega), lk_for, lk_for])
  · rw [List.getElem?_set_ne (by omega), lk_own _ _ _ _ _ _ j hj, lk_own _ _ _ _ _ _ j hj]
  · rw [lk_row _ _ _ _ _ _ j hj]
    by_cases e : i = j
    · subst e; rw [List.getElem?_set_self (by rw [lk_len]; omega), upN_same, upN_same, upN_same]
    · have e' : j ≠ i := fun h => e h.symm
      rw [List.getElem?_set_ne (by omega), lk_row _ _ _ _ _ _ j hj, upN_ne _ _ e', upN_ne _ _ e', upN_ne _ _ e']
end
/-- In block p lie the locks, with n tasks. -/
structure LkA (w : World) (F : Nat → Prop) (p n : Nat) (P : Int → Option Value) (o : Nat → Int) (q : Nat → List Int) (A : Nat → Option Addr) (C : Nat → Nat) (G : Nat → Option Nat) (pm fm : Nat) : Prop where
  blk : Blk w p 79 (lkCells pm o A C q fm)
  sl : ∀ i, i < 16 → Sl w 3 1 (A i) (q i).length (C i) (ints .i64 (q i)) (G i)
  mp : MpAt w Try.prog 3 pm 16 (P)
  mf : MpAt w Try.prog 3 fm 16 (forF q)
  fp : F p
  fpm : F pm
  ffm : F fm
  fg : ∀ i g, i < 16 → G i = some g → F g
  dj : ∀ i j g, i < 16 → j < 16 → i ≠ j → G i = some g → G j ≠ some g
  gp : ∀ i, i < 16 → G i ≠ some pm
  gf : ∀ i, i < 16 → G i ≠ some fm
  pp : pm ≠ p
  pf : fm ≠ p
  ne : pm ≠ fm
  lt : ∀ k, F k → k < w.heap.size
  s : LkS n o q
  n16 : n ≤ 16
  pk : ∀ t, (P t).isSome = true → 1 ≤ t ∧ t ≤ 16
def LkAt (w : World) (F : Nat → Prop) (p n : Nat) (P : Int → Option Value) (o : Nat → Int) (q : Nat → List Int) : Prop := ∃ A C G pm fm, LkA w F p n P o q A C G pm fm
section
variable {w w' : World} {F H : Nat → Prop} {p n : Nat} {P : Int → Option Value} {o : Nat → Int} {q : Nat → List Int} {A : Nat → Option Addr} {C : Nat → Nat} {G : Nat → Option Nat} {pm fm : Nat}
theorem LkA.chg (h : LkA w F p n P o q A C G pm fm) (hc : Chg H w w') (hd : Dj F H) : LkA w' F p n P o q A C G pm fm :=
  ⟨h.blk.chg hc (hd p h.fp), fun i hi => (h.sl i hi).chg hc (fun g hg => hd g (h.fg i g hi hg)), h.mp.chg hc (hd pm h.fpm), h.mf.chg hc (hd fm h.ffm), h.fp, h.fpm, h.ffm, h.fg, h.dj, h.gp, h.gf, h.pp, h.pf, h.ne, fun k hk => Nat.lt_of_lt_of_le (h.lt k hk) hc.size, h.s, h.n16, h.pk⟩
theorem LkA.nil (h : LkA w F p n P o q A C G pm fm) (hc : Chg Nil w w') : LkA w' F p n P o q A C G pm fm := h.chg hc (fun _ _ h => h)
theorem LkAt.chg (h : LkAt w F p n P o q) (hc : Chg H w w') (hd : Dj F H) : LkAt w' F p n P o q := by
  obtain ⟨A, C, G, pm, fm, h⟩ := h
  exact ⟨A, C, G, pm, fm, h.chg hc hd⟩
theorem LkAt.nil (h : LkAt w F p n P o q) (hc : Chg Nil w w') : LkAt w' F p n P o q := h.chg hc (fun _ _ h => h)
theorem LkAt.lt (h : LkAt w F p n P o q) : ∀ k, F k → k < w.heap.size := by
  obtain ⟨A, C, G, pm, fm, h⟩ := h
  exact h.lt
theorem LkAt.s (h : LkAt w F p n P o q) : LkS n o q := by
  obtain ⟨A, C, G, pm, fm, h⟩ := h
  exact h.s
theorem LkAt.n16 (h : LkAt w F p n P o q) : n ≤ 16 := by
  obtain ⟨A, C, G, pm, fm, h⟩ := h
  exact h.n16
theorem LkA.cp (h : LkA w F p n P o q A C G pm fm) : w.cell? ⟨p, 0, none⟩ = some (.map (some pm)) := h.blk.cell 0
theorem LkA.co (h : LkA w F p n P o q A C G pm fm) (i : Nat) (hi : i < 16) : w.cell? ⟨p, 1 + i, none⟩ = some (.int .i64 (o i)) := by rw [h.blk.cell, lk_own _ _ _ _ _ _ i hi]
theorem LkA.cq (h : LkA w F p n P o q A C G pm fm) (i : Nat) (hi : i < 16) : w.cell? ⟨p, 17 + i, none⟩ = some (.slice (A i) (q i).length (C i)) := by rw [h.blk.cell, lk_row _ _ _ _ _ _ i hi]
theorem LkA.cf (h : LkA w F p n P o q A C G pm fm) : w.cell? ⟨p, 33, none⟩ = some (.map (some fm)) := by rw [h.blk.cell, lk_for]
theorem LkA.gn (h : LkA w F p n P o q A C G pm fm) (i : Nat) (hi : i < 16) : G i ≠ some p := (h.sl i hi).ne_blk h.blk (by decide)
/-- How many wait: no more than there are tasks. -/
theorem for_keys {n : Nat} {o : Nat → Int} {q : Nat → List Int} (h : LkS n o q) (hn : n ≤ 16) : ∃ K : List Int, K.Nodup ∧ (∀ i, i ∈ K ↔ (forF q i).isSome = true) ∧ K.length ≤ 16 := by
  refine ⟨((List.range n).map (fun i : Nat => (i : Int) + 1)).filter (fun t => (waitK q t).isSome), ?_, fun i => ?_, ?_⟩
  · refine List.Nodup.sublist List.filter_sublist ?_
    rw [List.Nodup, List.pairwise_map]
    exact List.nodup_range.imp (fun {a b} h => by omega)
  · rw [List.mem_filter, List.mem_map]
    unfold forF
    rw [Option.isSome_map]
    constructor
    · exact fun h => h.2
    · intro hs
      refine ⟨?_, hs⟩
      obtain ⟨k, hk⟩ := Option.isSome_iff_exists.1 hs
      obtain ⟨h1, h2⟩ := (waitK_some h).1 hk
      have h3 := h.row k h1 i h2
      exact ⟨(i - 1).toNat, List.mem_range.2 (by omega), by omega⟩
  · refine Nat.le_trans (List.length_filter_le _ _) ?_
    simp; omega
theorem MpAt.forT {w : World} {k' : Nat} (h : MpAt w Try.prog 3 fm k' (forF q)) (hs : LkS n o q) (hn : n ≤ 16) : MpAt w Try.prog 3 fm 16 (forF q) := by
  obtain ⟨K, k1, k2, k3⟩ := for_keys hs hn
  exact (h.tight Try.underlying3 Try.underlying68 K k1 k2).mono k3
theorem LkA.wfT (h : LkA w F p n P o q A C G pm fm) {t : Int} (h1 : 1 ≤ t) (h2 : t ≤ n) : (Lit.int .i64 t).wf = true := wf_key (by omega) (by have := h.n16; omega)
/-- Who holds a lock is another. -/
theorem LkA.own (h : LkA w F p n P o q A C G pm fm) {i : Nat} (hi : i < 16) (v : Int) (hs : LkS n (upN o i v) q) : LkA (w.setCell ⟨p, 1 + i, none⟩ (.int .i64 v)) F p n P (upN o i v) q A C G pm fm := by
  have hb := h.blk.set (1 + i) (.int .i64 v)
  rw [lk_set_own _ _ _ _ _ _ i hi] at hb
  have hc : Chg (One p) w (w.setCell ⟨p, 1 + i, none⟩ (.int .i64 v)) := (Chg.refl (One p) w).setCell (p := ⟨p, 1 + i, none⟩) (.inl (show One p p from rfl)) _
  exact ⟨hb, fun j hj => (h.sl j hj).set_far (p := ⟨p, 1 + i, none⟩) (h.gn j hj) _, h.mp.chg hc (fun hh => h.pp hh), h.mf.chg hc (fun hh => h.pf hh), h.fp, h.fpm, h.ffm, h.fg, h.dj, h.gp, h.gf, h.pp, h.pf, h.ne, fun k hk => Nat.lt_of_lt_of_le (h.lt k hk) hc.size, hs, h.n16, h.pk⟩
end
theorem lnew_ok (w : World) : Calls Try.prog 12 #[] w fun e w' => ∃ F p, e = .returned (.pointer (some ⟨p, 0, none⟩)) ∧ LkAt w' F p 16 (fun _ => none) (fun _ => 0) (fun _ => []) ∧ Chg Nil w w' ∧ Grew w.heap.size Nil F := by
  have hmm := @run_makeMap Try.prog
  go_enter Try.func12, Try.ntmps12
  go_wp2
  go_ret
  have e2 : forF (fun _ => []) = fun _ => none := by
    funext t
    unfold forF
    rw [waitK_none.2 (fun k _ => by simp)]; rfl
  refine ⟨Or2 (One (w.heap.size + 1 + 1)) (Or2 (One w.heap.size) (One (w.heap.size + 1))), w.heap.size + 1 + 1, rfl, ⟨fun _ => none, fun _ => 0, fun _ => none, w.heap.size, w.heap.size + 1, ?_, fun i _ => Sl.empty _ _ _ _, ?_, ?_, .inl rfl, .inr (.inl rfl), .inr (.inr rfl), (fun i g _ h => by cases h), (fun i j g _ _ _ h => by cases h), (fun i _ h => by cases h), (fun i _ h => by cases h), (by omega), (by omega), (by omega), ?_, LkS.start 16, (by omega), (fun t h => by cases h)⟩, (((Chg.refl _ _).alloc _).alloc _).alloc _, ?_⟩
  · have := Blk.new ((w.alloc (.map #[] 0)).alloc (.map #[] 0)) 79 (lkCells w.heap.size (fun _ => 0) (fun _ => none) (fun _ => 0) (fun _ => []) (w.heap.size + 1))
    rw [show ((w.alloc (.map #[] 0)).alloc (.map #[] 0)).heap.size = w.heap.size + 1 + 1 by simp] at this
    exact this
  · exact ((((MpAt.made w Try.prog 3).alloc _).alloc _).mono (by omega))
  · rw [e2]
    have := MpAt.made (w.alloc (.map #[] 0)) Try.prog 3
    rw [show (w.alloc (.map #[] 0)).heap.size = w.heap.size + 1 by simp] at this
    exact (this.alloc _).mono (by omega)
  · rintro k (hk | hk | hk)
    · rw [show k = w.heap.size + 1 + 1 from hk]; simp
    · rw [show k = w.heap.size from hk]; simp; omega
    · rw [show k = w.heap.size + 1 from hk]; simp
  · rintro k (hk | hk | hk)
    · exact .inr (by rw [show k = w.heap.size + 1 + 1 from hk]; omega)
    · exact .inr (Nat.le_of_eq (show k = w.heap.size from hk).symm)
    · exact .inr (by rw [show k = w.heap.size + 1 from hk]; omega)
theorem ltask_ok (w : World) (F : Nat → Prop) (p n : Nat) (P : Int → Option Value) (o : Nat → Int) (q : Nat → List Int) (t v : Int) (h : LkAt w F p n P o q) (t1 : 1 ≤ t) (t2 : t ≤ 16) (v1 : 0 ≤ v) (v2 : v < 8) :
    Calls Try.prog 20 #[.pointer (some ⟨p, 0, none⟩), .int .i64 t, .int .i64 v] w fun e w' => e = .returned (.int .i64 0) ∧ LkAt w' F p n (updM P t (some (.int .i64 v))) o q ∧ Chg F w w' := by
  obtain ⟨A, C, G, pm, fm, h⟩ := h
  have d0 := h.cp
  have H := hid h
  clear h
  go_enter Try.func20, Try.ntmps20
  go_wp2_with (at_mapUpdate; refine wpList_store _ rfl _ _ _ 68 rfl Try.underlying3 Try.underlying68 pm 16 _ rfl H.out.mp (by omega) t (.int .i64 v) rfl rfl (wf_key (by omega) (by omega)) ?_; intro w1 q1 q2; replace q1 := hid q1; replace q2 := hid q2)
  go_ret
  have hm := q1.out
  have hpk : ∀ s, (updM P t (some (.int .i64 v)) s).isSome = true → 1 ≤ s ∧ s ≤ 16 := fun s hs => by
    unfold updM at hs
    by_cases hst : s = t
    · rw [hst]; exact ⟨t1, t2⟩
    · rw [if_neg hst] at hs; exact H.out.pk s hs
  have hm2 : MpAt w1 Try.prog 3 pm 16 (updM P t (some (.int .i64 v))) := by
    refine (hm.tight Try.underlying3 Try.underlying68 (((List.range 16).map (fun i : Nat => (i : Int) + 1)).filter (fun s => (updM P t (some (.int .i64 v)) s).isSome)) ?_ (fun i => ?_)).mono (Nat.le_trans (List.length_filter_le _ _) (by simp))
    · refine List.Nodup.sublist List.filter_sublist ?_
      rw [List.Nodup, List.pairwise_map]
      exact List.nodup_range.imp (fun {a b} h => by omega)
    · rw [List.mem_filter, List.mem_map]
      constructor
      · exact fun h => h.2
      · intro hs
        have := hpk i hs
        exact ⟨⟨(i - 1).toNat, List.mem_range.2 (by omega), by omega⟩, hs⟩
  have n1 : ¬ One pm p := fun hh => H.out.pp (show p = pm from hh).symm
  exact ⟨rfl, ⟨A, C, G, pm, fm, H.out.blk.chg q2.out n1, fun i hi => (H.out.sl i hi).chg q2.out (fun g hg hh => H.out.gp i hi (by rw [hg, show g = pm from hh])), hm2, H.out.mf.chg q2.out (fun hh => H.out.ne (show fm = pm from hh).symm), H.out.fp, H.out.fpm, H.out.ffm, H.out.fg, H.out.dj, H.out.gp, H.out.gf, H.out.pp, H.out.pf, H.out.ne, fun k hk => Nat.lt_of_lt_of_le (H.out.lt k hk) q2.out.size, H.out.s, H.out.n16, hpk⟩, q2.out.mono (fun k _ hk => by rw [show k = pm from hk]; exact H.out.fpm)⟩
section
variable (w : World) (F : Nat → Prop) (p n : Nat) (P : Int → Option Value) (o : Nat → Int) (q : Nat → List Int) (t : Int) (k : Nat) (h : LkAt w F p n P o q) (hk : k < 16) (h1 : 1 ≤ t) (h2 : t ≤ n)
include h
set_option maxRecDepth 100000 in
theorem lis_ok (hk : k < 16) (h1 : 1 ≤ t) (h2 : t ≤ n) (hP : (P t).isSome = true) : Calls Try.prog 43 #[.pointer (some ⟨p, 0, none⟩), .int .i64 t, .int .i64 k] w fun e w' => e = .returned (.int .i64 0) ∧ w = w' := by
  obtain ⟨A, C, G, pm, fm, h⟩ := h
  have d0 := h.cp
  have lk := h.mp.look_ok (t := 68) Try.underlying3 Try.underlying68 (zeroIntL _) t (h.wfT h1 h2)
  rw [hP] at lk
  generalize (P t).getD (.int .i64 0) = v at lk
  have hk2 : (k : Int) < 16 := by omega
  clear h
  go_enter Try.func43, Try.ntmps43
  go_wp2
  go_ret
  exact ⟨rfl, rfl⟩
theorem lrow_len (hk : k < 16) : (q k).length ≤ 16 := by
  have h3 := h.s
  have h4 := h.n16
  have := nodup_bound 17 ((q k).map Int.toNat) (by
    rw [List.Nodup, List.pairwise_map]
    refine (h3.nd k hk).imp_of_mem (fun {a b} ha hb hne => ?_)
    have := h3.row k hk a ha
    have := h3.row k hk b hb
    omega) (fun x hx => by
    obtain ⟨a, ha, rfl⟩ := List.mem_map.1 hx
    have := h3.row k hk a ha
    omega)
  rw [List.length_map] at this
  have := nodup_bound 16 ((q k).map (fun x => (x - 1).toNat)) (by
    rw [List.Nodup, List.pairwise_map]
    refine (h3.nd k hk).imp_of_mem (fun {a b} ha hb hne => ?_)
    have := h3.row k hk a ha
    have := h3.row k hk b hb
    omega) (fun x hx => by
    obtain ⟨a, ha, rfl⟩ := List.mem_map.1 hx
    have := h3.row k hk a ha
    omega)
  rw [List.length_map] at this
  exact this
theorem lrow_ok (hk : k < 16) : Calls Try.prog 28 #[.pointer (some ⟨p, 0, none⟩), .int .i64 k] w fun e w' => ∃ a c G, e = .returned (.tuple #[.slice a (q k).length c, .int .i64 0]) ∧ Sl w' 3 1 a (q k).length c (ints .i64 (q k)) G ∧ Chg Nil w w' ∧ ∀ g, G = some g → w.heap.size ≤ g := by
  have hln := lrow_len w F p n P o q k h hk
  obtain ⟨A, C, G, pm, fm, h⟩ := h
  have d0 := h.cq k hk
  have hk2 : (k : Int) < 16 := by omega
  have HC := hid (clone_int _ _ _ _ _ w (h.sl k hk).rd (ints_one _ _) (by omega))
  clear h
  go_enter Try.func28, Try.ntmps28
  go_wp2_with (go_at_call 50; refine HC.out.mono ?_; rintro e w1 ⟨a1, d1, G1, rfl, q1, q2, q3⟩; replace q3 := hid q3)
  go_ret2
  exact ⟨a1, d1, G1, rfl, q1, q2, q3.out⟩
end
end Go.Proofs.Ytdelelpfombfbaa
