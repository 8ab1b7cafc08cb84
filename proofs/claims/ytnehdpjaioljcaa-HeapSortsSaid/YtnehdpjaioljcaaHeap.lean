/- Contracts of package heap at integers: what each call returns, and what becomes of the heap. Conditions: at most 1000 ids. -/
import Derived.Test.YtnehdpjaioljcaaSlices
import Derived.Test.YtnehdpjaioljcaaMem2
import Derived.Test.YtnehdpjaioljcaaMapEnt
import Derived.Test.YtnehdpjaioljcaaHeapP
import Derived.RegionTactic
import Derived.BigRegion
import Derived.Deep.RegionLaw
import Derived.Deep.RegionHeld3
import Derived.Deep.QuietTactic
import Derived.BigQuiet
namespace Go.Proofs.Ytnehdpjaioljcaa
open Go.ChangeShapes Go.WideShapes Go.ChangeAt Go.RowKit
set_option linter.unusedVariables false
theorem ints_put (k : IntKind) (l : List Int) (i : Nat) (v : Int) : (ints k l).set i (.int k v) = ints k (l.set i v) := by unfold ints; rw [List.map_set]
/-- Where an id stands. -/
def posF (l : List HE) : Int → Option Value := fun t => (l.findIdx? (fun x => x.id == t)).map (fun (k : Nat) => .int .i64 (k : Int))
theorem posF_some {l : List HE} (hn : (l.map HE.id).Nodup) {t : Int} {v : Value} : posF l t = some v ↔ ∃ k, ∃ hk : k < l.length, l[k].id = t ∧ v = .int .i64 (k : Int) := by
  unfold posF
  rw [Option.map_eq_some_iff]
  constructor
  · rintro ⟨k, h1, rfl⟩
    obtain ⟨hk, h2, _⟩ := List.findIdx?_eq_some_iff_getElem.1 h1
    exact ⟨k, hk, by simpa using h2, rfl⟩
  · rintro ⟨k, hk, h1, rfl⟩
    refine ⟨k, List.findIdx?_eq_some_iff_getElem.2 ⟨hk, by simpa using h1, fun j hj => ?_⟩, rfl⟩
    intro h2
    have h3 : l[j].id = t := by simpa using h2
    have : j = k := by
      have := (List.getElem_inj (xs := l.map HE.id) (i := j) (j := k) (h₀ := by simpa using Nat.lt_trans hj hk) (h₁ := by simpa using hk) hn).1 (by simp [h1, h3])
      exact this
    omega
theorem posF_at {l : List HE} (hn : (l.map HE.id).Nodup) {k : Nat} (hk : k < l.length) : posF l l[k].id = some (.int .i64 (k : Int)) := (posF_some hn).2 ⟨k, hk, rfl, rfl⟩
theorem posF_dom {l : List HE} {t : Int} : t ∈ l.map HE.id ↔ (posF l t).isSome = true := by
  unfold posF
  rw [Option.isSome_map, List.findIdx?_isSome, List.any_eq_true, List.mem_map]
  constructor
  · rintro ⟨x, hx, h⟩; exact ⟨x, hx, by simpa using h⟩
  · rintro ⟨x, hx, h⟩; exact ⟨x, hx, by simpa using h⟩
theorem posF_none {l : List HE} {t : Int} (h : t ∉ l.map HE.id) : posF l t = none := by
  cases hp : posF l t with
  | none => rfl
  | some v => exact absurd (posF_dom.2 (by rw [hp]; rfl)) h
theorem swp_ids (l : List HE) {i j : Nat} (hi : i < l.length) (hj : j < l.length) : ((swp l i j).map HE.id).Nodup ↔ (l.map HE.id).Nodup := ((swp_perm hi hj).map HE.id).nodup_iff
theorem posF_swp {l : List HE} (hn : (l.map HE.id).Nodup) {i j : Nat} (hi : i < l.length) (hj : j < l.length) (hij : i ≠ j) : updM (updM (posF l) l[j].id (some (.int .i64 (i : Int)))) l[i].id (some (.int .i64 (j : Int))) = posF (swp l i j) := by
  have hn2 := (swp_ids l hi hj).2 hn
  have hne : l[i].id ≠ l[j].id := fun h => hij ((List.getElem_inj (xs := l.map HE.id) (i := i) (j := j) (h₀ := by simpa using hi) (h₁ := by simpa using hj) hn).1 (by simpa using h))
  funext t
  unfold updM
  symm
  by_cases h1 : t = l[i].id
  · rw [if_pos h1]
    refine (posF_some hn2).2 ⟨j, by rw [swp_len]; exact hj, ?_, rfl⟩
    rw [swp_get hi hj, if_pos rfl, h1]
  · rw [if_neg h1]
    by_cases h2 : t = l[j].id
    · rw [if_pos h2]
      refine (posF_some hn2).2 ⟨i, by rw [swp_len]; exact hi, ?_, rfl⟩
      rw [swp_get hi hj, if_neg hij, if_pos rfl, h2]
    · rw [if_neg h2]
      apply Option.ext
      intro v
      show posF (swp l i j) t = some v ↔ posF l t = some v
      rw [posF_some hn2, posF_some hn]
      constructor
      · rintro ⟨k, hk, h3, rfl⟩
        rw [swp_get hi hj] at h3
        split at h3
        · exact absurd h3.symm h1
        · split at h3
          · exact absurd h3.symm h2
          · exact ⟨k, by rw [swp_len] at hk; exact hk, h3, rfl⟩
      · rintro ⟨k, hk, h3, rfl⟩
        refine ⟨k, by rw [swp_len]; exact hk, ?_, rfl⟩
        rw [swp_get hi hj, if_neg, if_neg]
        · exact h3
        · rintro rfl; exact h1 h3.symm
        · rintro rfl; exact h2 h3.symm
theorem swp_map {β : Type} (f : HE → β) {l : List HE} {i j : Nat} (hi : i < l.length) (hj : j < l.length) : (swp l i j).map f = ((l.map f).set i (f l[j])).set j (f l[i]) := by rw [swp_eq hi hj, List.map_set, List.map_set]
/-- In block p lies a heap: its ids, its keys, and where each id stands. -/
structure HpA (w : World) (F : Nat → Prop) (p : Nat) (l : List HE) (a1 : Option Addr) (c1 : Nat) (G1 : Option Nat) (a2 : Option Addr) (c2 : Nat) (G2 : Option Nat) (m : Nat) : Prop where
  blk : Blk w p 36 [.slice a1 l.length c1, .slice a2 l.length c2, .map (some m)]
  si : Sl w 3 1 a1 l.length c1 (ints .i64 (l.map HE.id)) G1
  sk : Sl w 3 1 a2 l.length c2 (ints .i64 (l.map HE.key)) G2
  mp : MpAt w Try.prog 3 m l.length (posF l)
  fp : F p
  fm : F m
  fi : ∀ g, G1 = some g → F g
  fk : ∀ g, G2 = some g → F g
  nik : ∀ g, G1 = some g → G2 ≠ some g
  nim : G1 ≠ some m
  nkm : G2 ≠ some m
  pm : m ≠ p
  nd : (l.map HE.id).Nodup
  wf : ∀ x ∈ l, -9223372036854775808 ≤ x.id ∧ x.id ≤ 9223372036854775807
  lt : ∀ k, F k → k < w.heap.size
section
variable {w w' : World} {F H : Nat → Prop} {p : Nat} {l : List HE} {a1 a2 : Option Addr} {c1 c2 : Nat} {G1 G2 : Option Nat} {m : Nat}
theorem HpA.chg (h : HpA w F p l a1 c1 G1 a2 c2 G2 m) (hc : Chg H w w') (hd : Dj F H) : HpA w' F p l a1 c1 G1 a2 c2 G2 m :=
  ⟨h.blk.chg hc (hd p h.fp), h.si.chg hc (fun g hg => hd g (h.fi g hg)), h.sk.chg hc (fun g hg => hd g (h.fk g hg)), h.mp.chg hc (hd m h.fm), h.fp, h.fm, h.fi, h.fk, h.nik, h.nim, h.nkm, h.pm, h.nd, h.wf, fun k hk => Nat.lt_of_lt_of_le (h.lt k hk) hc.size⟩
theorem HpA.nil (h : HpA w F p l a1 c1 G1 a2 c2 G2 m) (hc : Chg Nil w w') : HpA w' F p l a1 c1 G1 a2 c2 G2 m := h.chg hc (fun _ _ h => h)
theorem HpA.e0 (h : HpA w F p l a1 c1 G1 a2 c2 G2 m) : w.cell? ⟨p, 0, none⟩ = some (.slice a1 l.length c1) := h.blk.cell 0
theorem HpA.e1 (h : HpA w F p l a1 c1 G1 a2 c2 G2 m) : w.cell? ⟨p, 1, none⟩ = some (.slice a2 l.length c2) := h.blk.cell 1
theorem HpA.e2 (h : HpA w F p l a1 c1 G1 a2 c2 G2 m) : w.cell? ⟨p, 2, none⟩ = some (.map (some m)) := h.blk.cell 2
theorem HpA.ne1 (h : HpA w F p l a1 c1 G1 a2 c2 G2 m) : G1 ≠ some p := h.si.ne_blk h.blk (by decide)
theorem HpA.ne2 (h : HpA w F p l a1 c1 G1 a2 c2 G2 m) : G2 ≠ some p := h.sk.ne_blk h.blk (by decide)
end
def HpAt (w : World) (F : Nat → Prop) (p : Nat) (l : List HE) : Prop := ∃ a1 c1 G1 a2 c2 G2 m, HpA w F p l a1 c1 G1 a2 c2 G2 m
theorem HpAt.chg {w w' : World} {F H : Nat → Prop} {p : Nat} {l : List HE} (h : HpAt w F p l) (hc : Chg H w w') (hd : Dj F H) : HpAt w' F p l := by
  obtain ⟨a1, c1, G1, a2, c2, G2, m, h⟩ := h
  exact ⟨a1, c1, G1, a2, c2, G2, m, h.chg hc hd⟩
theorem hnew_ok (w : World) : Calls Try.prog 4 #[] w fun e w' => ∃ F p, e = .returned (.pointer (some ⟨p, 0, none⟩)) ∧ HpAt w' F p [] ∧ Chg Nil w w' ∧ Grew w.heap.size Nil F := by
  have hmm := @run_makeMap Try.prog
  go_enter Try.func4, Try.ntmps4
  go_wp2
  go_ret
  refine ⟨Or2 (One w.heap.size) (One (w.heap.size + 1)), w.heap.size + 1, rfl, ⟨none, 0, none, none, 0, none, w.heap.size, ?_, Sl.empty _ _ _ _, Sl.empty _ _ _ _, (MpAt.made w _ _).alloc _, .inr rfl, .inl rfl, (fun g h => by cases h), (fun g h => by cases h), (fun g h => by cases h), (by simp), (by simp), (by omega), (by simp), (by simp), ?_⟩, ((Chg.refl _ _).alloc _).alloc _, ?_⟩
  · have := Blk.new (w.alloc (.map #[] 0)) 36 [.slice none 0 0, .slice none 0 0, .map (some w.heap.size)]
    rw [show (w.alloc (.map #[] 0)).heap.size = w.heap.size + 1 by simp] at this
    exact this
  · rintro k (hk | hk)
    · rw [show k = w.heap.size from hk]; simp; omega
    · rw [show k = w.heap.size + 1 from hk]; simp
  · rintro k (hk | hk)
    · exact .inr (Nat.le_of_eq (show k = w.heap.size from hk).symm)
    · exact .inr (by rw [show k = w.heap.size + 1 from hk]; omega)
/-- Which of two numbers is less. -/
def cmpI (x y : Int) : Int := if x < y then -1 else if y < x then 1 else 0
theorem compare_int (x y : Int) (w : World) : Calls Try.prog 11 #[.int .i64 x, .int .i64 y] w fun e w' => e = .returned (.int .i64 (cmpI x y)) ∧ w' = w := by
  by_cases h1 : x < y
  · have : cmpI x y = -1 := by unfold cmpI; rw [if_pos h1]
    rw [this]
    clear this
    go_enter Try.func11, Try.ntmps11
    go_wp2_with (go_at_call 18; refine (isNaN_int _ _).mono ?_; rintro e w' ⟨rfl, rfl⟩)
    go_ret
    exact ⟨rfl, rfl⟩
  · by_cases h2 : y < x
    · have : cmpI x y = 1 := by unfold cmpI; rw [if_neg h1, if_pos h2]
      rw [this]
      clear this
      go_enter Try.func11, Try.ntmps11
      go_wp2_with (go_at_call 18; refine (isNaN_int _ _).mono ?_; rintro e w' ⟨rfl, rfl⟩)
      go_ret
      exact ⟨rfl, rfl⟩
    · have : cmpI x y = 0 := by unfold cmpI; rw [if_neg h1, if_neg h2]
      rw [this]
      have h3 : y ≤ x := by omega
      have h4 : x ≤ y := by omega
      clear this
      go_enter Try.func11, Try.ntmps11
      go_wp2_with (go_at_call 18; refine (isNaN_int _ _).mono ?_; rintro e w' ⟨rfl, rfl⟩)
      go_ret
      exact ⟨rfl, rfl⟩
theorem before_any (w : World) (F : Nat → Prop) (p : Nat) (l : List HE) (h : HpAt w F p l) (i j : Nat) (hi : i < l.length) (hj : j < l.length) :
    Calls Try.prog 19 #[.pointer (some ⟨p, 0, none⟩), .int .i64 i, .int .i64 j] w fun e w' => e = .returned (.bool ((l[i]).lt l[j])) ∧ ∃ k, w' = w.drewN k := by
  obtain ⟨a1, c1, G1, a2, c2, G2, m, h⟩ := h
  have d0 := h.e0
  have d1 := h.e1
  have hi2 : (i : Int) < l.length := by omega
  have hj2 : (j : Int) < l.length := by omega
  obtain ⟨g1, o1, rfl, _, _, q1⟩ := h.si.rd.at (i := i) (by simpa using hi)
  obtain ⟨g2, o2, rfl, _, _, q2⟩ := h.sk.rd.at (i := i) (by simpa using hi)
  have x1 := q1 i (by simpa using hi)
  have x2 := q1 j (by simpa using hj)
  have x3 := q2 i (by simpa using hi)
  have x4 := q2 j (by simpa using hj)
  simp only [List.getElem_map] at x1 x2 x3 x4
  obtain ⟨x, hx⟩ : ∃ x, x = l[i] := ⟨_, rfl⟩
  obtain ⟨y, hy⟩ : ∃ y, y = l[j] := ⟨_, rfl⟩
  rw [← hx] at x1 x3
  rw [← hy] at x2 x4
  rw [← hx, ← hy]
  clear hx hy q1 q2 h
  by_cases hk : x.key = y.key
  · have e : x.lt y = decide (x.id < y.id) := by unfold HE.lt; simp [hk]
    rw [e]
    have hb : (cmpI x.key y.key != 0) = false := by unfold cmpI; rw [hk]; simp
    clear e hk
    go_enter Try.func19, Try.ntmps19
    go_wp2
    go_quiet ((go_at_call 11; exact Calls.quiet_of_same (compare_int _ _ _)))
    go_wp2
    go_quiet (fail)
    go_wp2
    go_ret
    exact ⟨rfl, _, World.drewN_drewN _ _ _⟩
  · have hb : (cmpI x.key y.key != 0) = true := by unfold cmpI; rw [bne_iff_ne]; split; · omega
                                                   · split <;> omega
    have e : x.lt y = decide (cmpI x.key y.key < 0) := by
      unfold HE.lt cmpI
      by_cases h1 : x.key < y.key
      · simp [h1]
      · have h2 : y.key < x.key := by omega
        simp [h1, hk, h2]
    rw [e]
    clear e hk
    go_enter Try.func19, Try.ntmps19
    go_wp2
    go_quiet ((go_at_call 11; exact Calls.quiet_of_same (compare_int _ _ _)))
    go_wp2
    go_ret
    exact ⟨rfl, _, rfl⟩
end Go.Proofs.Ytnehdpjaioljcaa
