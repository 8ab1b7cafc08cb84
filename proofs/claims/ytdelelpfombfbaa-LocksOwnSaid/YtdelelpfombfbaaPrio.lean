/- Contracts of package prio: what each call returns, and what becomes of the queues. Conditions: at most 1000 tasks in each queue. -/
import Derived.Test.YtdelelpfombfbaaSlices
import Derived.Test.YtdelelpfombfbaaMem2
import Derived.RegionTactic
import Derived.BigRegion
import Derived.Deep.RegionLaw
import Derived.Deep.RegionHeld3
namespace Go.Proofs.Ytdelelpfombfbaa
open Go.ChangeShapes Go.WideShapes Go.ChangeAt Go.RowKit
set_option linter.unusedVariables false
/-- The cells of a class: its bits, and where each queue lies. -/
def prCells (b : Nat) (A : Nat → Option Addr) (C : Nat → Nat) (q : Nat → List Int) : List Value := .int .u32 (b : Int) :: (List.range 8).map fun i => .slice (A i) (q i).length (C i)
theorem pr_get (b : Nat) (A : Nat → Option Addr) (C : Nat → Nat) (q : Nat → List Int) (i : Nat) (h : i < 8) : (prCells b A C q)[1 + i]? = some (.slice (A i) (q i).length (C i)) := by
  rw [Nat.add_comm]
  simp [prCells, List.getElem?_range h]
def upF {α : Type} (f : Nat → α) (i : Nat) (x : α) : Nat → α := fun j => if j = i then x else f j
theorem upF_same {α : Type} (f : Nat → α) (i : Nat) (x : α) : upF f i x i = x := by simp [upF]
theorem upF_ne {α : Type} (f : Nat → α) {i j : Nat} (x : α) (h : j ≠ i) : upF f i x j = f j := by simp [upF, h]
theorem pr_set (b : Nat) (A : Nat → Option Addr) (C : Nat → Nat) (q : Nat → List Int) (i : Nat) (h : i < 8) (a : Option Addr) (c : Nat) (l : List Int) : (prCells b A C q).set (1 + i) (.slice a l.length c) = prCells b (upF A i a) (upF C i c) (upF q i l) := by
  apply List.ext_getElem?
  intro j
  rw [List.getElem?_set]
  have hlen : (prCells b A C q).length = 9 := by simp [prCells]
  rcases j with _ | j
  · rw [if_neg (by omega)]; rfl
  · by_cases hj : j < 8
    · rw [show j + 1 = 1 + j by omega, pr_get b (upF A i a) (upF C i c) (upF q i l) j hj]
      by_cases hij : i = j
      · subst hij
        rw [if_pos rfl, if_pos (by omega), upF_same, upF_same, upF_same]
      · rw [if_neg (by omega), pr_get b A C q j hj, upF_ne _ _ (fun h => hij h.symm), upF_ne _ _ (fun h => hij h.symm), upF_ne _ _ (fun h => hij h.symm)]
    · have hl2 : (prCells b (upF A i a) (upF C i c) (upF q i l)).length = 9 := by simp [prCells]
      rw [if_neg (by omega), List.getElem?_eq_none (by omega), List.getElem?_eq_none (by omega)]
/-- In block p lies a class: its bits, and a queue of each priority; its blocks are all of F. -/
structure PA (w : World) (F : Nat → Prop) (p b : Nat) (q : Nat → List Int) (A : Nat → Option Addr) (C : Nat → Nat) (G : Nat → Option Nat) : Prop where
  blk : Blk w p 86 (prCells b A C q)
  sl : ∀ i, i < 8 → Sl w 3 1 (A i) (q i).length (C i) (ints .i64 (q i)) (G i)
  fp : F p
  fg : ∀ i g, i < 8 → G i = some g → F g
  dj : ∀ i j g, i < 8 → j < 8 → i ≠ j → G i = some g → G j ≠ some g
  lt : ∀ k, F k → k < w.heap.size
def PrAt (w : World) (F : Nat → Prop) (p b : Nat) (q : Nat → List Int) : Prop := ∃ A C G, PA w F p b q A C G
section
variable {w w' : World} {F H : Nat → Prop} {p b : Nat} {q : Nat → List Int} {A : Nat → Option Addr} {C : Nat → Nat} {G : Nat → Option Nat}
theorem PA.chg (h : PA w F p b q A C G) (hc : Chg H w w') (hd : Dj F H) : PA w' F p b q A C G :=
  ⟨h.blk.chg hc (hd p h.fp), fun i hi => (h.sl i hi).chg hc (fun g hg => hd g (h.fg i g hi hg)), h.fp, h.fg, h.dj, fun k hk => Nat.lt_of_lt_of_le (h.lt k hk) hc.size⟩
theorem PA.nil (h : PA w F p b q A C G) (hc : Chg Nil w w') : PA w' F p b q A C G := h.chg hc (fun _ _ h => h)
theorem PrAt.chg (h : PrAt w F p b q) (hc : Chg H w w') (hd : Dj F H) : PrAt w' F p b q := by
  obtain ⟨A, C, G, h⟩ := h
  exact ⟨A, C, G, h.chg hc hd⟩
theorem PrAt.lt (h : PrAt w F p b q) : ∀ k, F k → k < w.heap.size := by
  obtain ⟨A, C, G, h⟩ := h
  exact h.lt
theorem PA.ne (h : PA w F p b q A C G) (i : Nat) (hi : i < 8) : G i ≠ some p := (h.sl i hi).ne_blk h.blk (by decide)
theorem PA.c0 (h : PA w F p b q A C G) : w.cell? ⟨p, 0, none⟩ = some (.int .u32 (b : Int)) := h.blk.cell 0
theorem PA.cq (h : PA w F p b q A C G) (i : Nat) (hi : i < 8) : w.cell? ⟨p, 1 + i, none⟩ = some (.slice (A i) (q i).length (C i)) := by rw [h.blk.cell, pr_get _ _ _ _ i hi]
/-- Another queue is laid in the place of one. -/
theorem PA.lay {w1 : World} {i c : Nat} {a : Option Addr} {l : List Int} {G' : Option Nat} (h : PA w F p b q A C G) (hi : i < 8) (hc : Chg (Opt (G i)) w w1) (hs : Sl w1 3 1 a l.length c (ints .i64 l) G') (hG : ∀ g, G' = some g → G i = some g ∨ w.heap.size ≤ g) :
    PA (w1.setCell ⟨p, 1 + i, none⟩ (.slice a l.length c)) (Or2 F (Opt G')) p b (upF q i l) (upF A i a) (upF C i c) (upF G i G') := by
  have hb := h.blk.chg hc (h.ne i hi)
  have hq1 := hs.ne_blk hb (by decide)
  have hsz := hc.size
  refine ⟨?_, fun j hj => ?_, .inl h.fp, fun j g hj hg => ?_, fun j k g hj hk hjk hg => ?_, ?_⟩
  · have := hb.set (1 + i) (.slice a l.length c)
    rwa [pr_set b A C q i hi] at this
  · by_cases hji : j = i
    · subst hji
      rw [upF_same, upF_same, upF_same, upF_same]
      exact hs.set_far (p := ⟨p, 1 + j, none⟩) hq1 _
    · rw [upF_ne _ _ hji, upF_ne _ _ hji, upF_ne _ _ hji, upF_ne _ _ hji]
      have h1 := (h.sl j hj).chg hc (fun g hg hh => h.dj i j g hi hj (fun h => hji h.symm) hh hg)
      exact h1.set_far (p := ⟨p, 1 + i, none⟩) (h.ne j hj) _
  · by_cases hji : j = i
    · subst hji; rw [upF_same] at hg; exact .inr hg
    · rw [upF_ne _ _ hji] at hg; exact .inl (h.fg j g hj hg)
  · intro hgk
    by_cases hji : j = i
    · subst hji
      rw [upF_same] at hg
      rw [upF_ne _ _ (fun h => hjk h.symm)] at hgk
      rcases hG g hg with h1 | h1
      · exact h.dj j k g hj hk hjk h1 hgk
      · have := (h.sl k hk).lt g hgk; omega
    · rw [upF_ne _ _ hji] at hg
      by_cases hki : k = i
      · subst hki
        rw [upF_same] at hgk
        rcases hG g hgk with h1 | h1
        · exact h.dj j k g hj hk hjk hg h1
        · have := (h.sl j hj).lt g hg; omega
      · rw [upF_ne _ _ hki] at hgk
        exact h.dj j k g hj hk hjk hg hgk
  · rintro k (hF | hG')
    · have h1 := h.lt k hF; simp [World.setCell]; omega
    · have := hs.lt k hG'; simpa [World.setCell] using this
theorem PA.bits (h : PA w F p b q A C G) (b' : Nat) : PA (w.setCell ⟨p, 0, none⟩ (.int .u32 (b' : Int))) F p b' q A C G := by
  refine ⟨?_, fun i hi => (h.sl i hi).set_far (p := ⟨p, 0, none⟩) (h.ne i hi) _, h.fp, h.fg, h.dj, fun k hk => by simpa [World.setCell] using h.lt k hk⟩
  have := h.blk.set 0 (.int .u32 (b' : Int))
  exact this
end
theorem pnew_ok (w : World) : Calls Try.prog 14 #[] w fun e w' => ∃ F p, e = .returned (.pointer (some ⟨p, 0, none⟩)) ∧ PrAt w' F p 0 (fun _ => []) ∧ Chg Nil w w' ∧ Grew w.heap.size Nil F := by
  go_enter Try.func14, Try.ntmps14
  go_wp2
  go_ret
  refine ⟨One w.heap.size, w.heap.size, rfl, ⟨fun _ => none, fun _ => 0, fun _ => none, ?_, fun i _ => Sl.empty _ _ _ _, rfl, (fun i g _ h => by cases h), (fun i j g _ _ _ h => by cases h), ?_⟩, (Chg.refl _ _).alloc _, ?_⟩
  · exact Blk.new w 86 (prCells 0 (fun _ => none) (fun _ => 0) (fun _ => []))
  · intro k hk; rw [show k = w.heap.size from hk]; simp
  · intro k hk; exact .inr (Nat.le_of_eq (show k = w.heap.size from hk).symm)
/-- The priority of a task; -1: it is not there. -/
def prOf (q : Nat → List Int) (t : Int) : Nat → Int
  | 0 => -1
  | k + 1 => if prOf q t k = -1 then (if t ∈ q k then (k : Int) else -1) else prOf q t k
theorem at1_any (R : Nat → Prop) (a : Option Addr) (n c g : Nat) (l : List Int) (t : Int) (w : World) (h : Rd w R 1 a n c (ints .i64 l)) (hn : n ≤ 1000) (hg : w.cell? ⟨g, 0, none⟩ = some (.int .i64 t)) :
    Calls Try.prog 63 #[.slice a n c, .pointer (some ⟨g, 0, none⟩)] w fun e w' => e = .returned (.bool (hasI l t)) ∧ w = w' := by
  have H := hid h
  clear h
  go_enter Try.func63, Try.ntmps63
  go_wp2_with (go_at_call 35; refine (contains_int R a n c l t _ H.out (by omega)).mono ?_; rintro e w' ⟨rfl, rfl⟩)
  go_ret
  exact ⟨rfl, rfl⟩
/-- Where a task is. -/
theorem prOf_le (q : Nat → List Int) (t : Int) : ∀ k, -1 ≤ prOf q t k ∧ prOf q t k < k
  | 0 => by simp [prOf]
  | k + 1 => by
    have := prOf_le q t k
    unfold prOf
    split
    · split <;> omega
    · omega
theorem pat_ok (w : World) (F : Nat → Prop) (p b : Nat) (q : Nat → List Int) (A : Nat → Option Addr) (C : Nat → Nat) (G : Nat → Option Nat) (t : Int) (h : PA w F p b q A C G) (hl : ∀ i, i < 8 → (q i).length ≤ 1000) :
    Calls Try.prog 46 #[.pointer (some ⟨p, 0, none⟩), .int .i64 t] w fun e w' => e = .returned (.int .i64 (prOf q t 8)) ∧ Chg Nil w w' := by
  have H1 := hid (h.nil ((Chg.refl Nil w).alloc (.cells #[.int .i64 t] 3)))
  have HQ := hid (show (w.alloc (.cells #[.int .i64 t] 3)).cell? ⟨w.heap.size, 0, none⟩ = some (.int .i64 t) from (Blk.new w 3 [.int .i64 t]).cell 0)
  have HL := hid hl
  clear h hl
  go_enter Try.func46, Try.ntmps46
  go_wp2_with fail
  have HC : Calls Try.prog 62 #[.slice (some ⟨p, 1, none⟩) 8 8, .func (.func 63) #[] #[.pointer (some ⟨w.heap.size, 0, none⟩)]] (w.alloc (.cells #[.int .i64 t] 3)) fun e w' => e = .returned (.int .i64 (prOf q t 8)) ∧ (w.alloc (.cells #[.int .i64 t] 3)) = w' := by
    go_enter Try.func62, Try.ntmps62
    go_wp2
    go_loop [8] (fun s8 => ∃ k : Nat, k ≤ 8 ∧ s8 = .int .i64 k ∧ Hid (prOf q t k = -1)) (fun s8 => 8 - (intOf s8).toNat)
    case atStart => exact ⟨0, by omega, rfl, rfl⟩
    case round =>
      obtain ⟨k, hk, rfl, hP⟩ := hrel
      by_cases hlt : k < 8
      · have hc := H1.out.cq k hlt
        have HR := hid (H1.out.sl k hlt).rd
        have hlk := HL.out k hlt
        have hk8 : (k : Int) < 8 := by omega
        cases hh : hasI (q k) t with
        | true =>
          have hin : t ∈ q k := by simpa [hasI] using hh
          have hmono : ∀ m, k < m → prOf q t m = k := fun m => by
            induction m with
            | zero => intro h; omega
            | succ m ih =>
              intro hm
              unfold prOf
              by_cases hkm : k = m
              · subst hkm
                rw [if_pos hP.out, if_pos hin]
              · rw [ih (by omega), if_neg (by omega)]
          have HMN := hid (hmono 8 hlt)
          have HH := hid hh
          clear hh hin hmono
          go_wp2_with (go_at_call 63; refine (at1_any _ _ _ _ _ (q k) t _ HR.out hlk HQ.out).mono ?_; rw [HH.out]; rintro e w' ⟨rfl, rfl⟩)
          go_ret
          exact ⟨by rw [HMN.out]; rfl, rfl⟩
        | false =>
          have hin : t ∉ q k := by simpa [hasI] using hh
          have HP2 : Hid (prOf q t (k + 1) = -1) := by
            show prOf q t (k + 1) = -1
            unfold prOf
            rw [if_pos hP.out, if_neg hin]
          have HH := hid hh
          clear hh hin
          go_wp2_with (go_at_call 63; refine (at1_any _ _ _ _ _ (q k) t _ HR.out hlk HQ.out).mono ?_; rw [HH.out]; rintro e w' ⟨rfl, rfl⟩)
          go_round
          case rel => exact ⟨k + 1, by omega, by go_num, HP2⟩
          case measure => simp [intOf]; omega
      · obtain rfl : k = 8 := by omega
        go_wp2
        go_ret
        exact ⟨by rw [hP.out]; rfl, rfl⟩
  refine HC.mono ?_
  rintro e w1 ⟨rfl, rfl⟩
  go_wp2
  go_ret
  exact ⟨rfl, (Chg.refl _ _).alloc _⟩
theorem plist_ok (w : World) (F : Nat → Prop) (p b : Nat) (q : Nat → List Int) (i : Nat) (h : PrAt w F p b q) (hi : i < 8) (hl : (q i).length ≤ 1000) :
    Calls Try.prog 30 #[.pointer (some ⟨p, 0, none⟩), .int .i64 (i : Int)] w fun e w' => ∃ a c G, e = .returned (.tuple #[.slice a (q i).length c, .int .i64 0]) ∧ Sl w' 3 1 a (q i).length c (ints .i64 (q i)) G ∧ Chg Nil w w' ∧ ∀ g, G = some g → w.heap.size ≤ g := by
  obtain ⟨A, C, G, h⟩ := h
  have hc := h.cq i hi
  have HR := hid (h.sl i hi).rd
  have hi8 : (i : Int) < 8 := by omega
  clear h
  go_enter Try.func30, Try.ntmps30
  go_wp2_with fail
  refine (clone_int _ _ _ _ _ _ HR.out (ints_one _ _) (by omega)).mono ?_
  rintro e w1 ⟨a1, c1, G1, rfl, q1, q2, q3⟩
  replace q1 := hid q1
  replace q2 := hid q2
  replace q3 := hid q3
  go_wp2
  go_ret2
  exact ⟨a1, c1, G1, rfl, q1.out, q2.out, q3.out⟩
end Go.Proofs.Ytdelelpfombfbaa
