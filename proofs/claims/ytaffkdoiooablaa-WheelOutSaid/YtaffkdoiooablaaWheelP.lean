/- Timers by how far they are from a first time: the contracts of package wheel in these words. Conditions: at most 999 timers, distances below 2^31. -/
import Derived.Test.YtaffkdoiooablaaWheel3
namespace Go.Proofs.Ytaffkdoiooablaa
open Go.ChangeShapes Go.WideShapes Go.ChangeAt Go.RowKit
set_option linter.unusedVariables false
/-- How far a timer is from the first time, and whose it is. -/
structure RT where
  k : Nat
  id : Nat
def nowOf (b : Int) (e : Nat) : Int := (b + e) % 4294967296
def tmOf (b : Int) (x : RT) : Tm := ⟨nowOf b x.k, x.id⟩
def rel (b : Int) (l : List RT) : List Tm := l.map (tmOf b)
def idsR (l : List RT) : List Int := l.map (fun x => (x.id : Int))
theorem rel_len (b : Int) (l : List RT) : (rel b l).length = l.length := by simp [rel]
theorem ids_rel (b : Int) (l : List RT) : idsT (rel b l) = idsR l := by simp [idsT, rel, idsR, tmOf]
theorem now_zero {b : Int} (h0 : 0 ≤ b) (h1 : b < 4294967296) : nowOf b 0 = b := by unfold nowOf; omega
theorem far_rel (b : Int) (e k : Nat) (he : e < 2147483648) (hk : k < 2147483648) : far (nowOf b e) (nowOf b k) = (k : Int) - e := by
  rw [far_eq]; unfold nowOf; omega
def befR (x y : RT) : Bool := decide (y.k < x.k ∨ (y.k = x.k ∧ y.id ≤ x.id))
def dueR (e : Nat) (y : RT) : Bool := decide (y.k ≤ e)
def insR (x : RT) (l : List RT) : List RT := l.takeWhile (befR x) ++ [x] ++ l.dropWhile (befR x)
theorem tw_congr {α : Type} {f g : α → Bool} : ∀ {l : List α}, (∀ x ∈ l, f x = g x) → l.takeWhile f = l.takeWhile g ∧ l.dropWhile f = l.dropWhile g
  | [], _ => ⟨rfl, rfl⟩
  | x :: l, h => by
    obtain ⟨h1, h2⟩ := tw_congr (l := l) (fun y hy => h y (List.mem_cons_of_mem _ hy))
    have h0 := h x List.mem_cons_self
    cases hg : g x
    · rw [List.takeWhile_cons_of_neg (by rw [h0, hg]; simp), List.takeWhile_cons_of_neg (by rw [hg]; simp), List.dropWhile_cons_of_neg (by rw [h0, hg]; simp), List.dropWhile_cons_of_neg (by rw [hg]; simp)]
      exact ⟨rfl, rfl⟩
    · rw [List.takeWhile_cons_of_pos (by rw [h0, hg]), List.takeWhile_cons_of_pos hg, List.dropWhile_cons_of_pos (by rw [h0, hg]), List.dropWhile_cons_of_pos hg, h1, h2]
      exact ⟨rfl, rfl⟩
theorem tw_take {α : Type} (f : α → Bool) (l : List α) : l.take (l.takeWhile f).length = l.takeWhile f ∧ l.drop (l.takeWhile f).length = l.dropWhile f := by
  induction l with
  | nil => exact ⟨rfl, rfl⟩
  | cons x l ih =>
    cases h : f x
    · rw [List.takeWhile_cons_of_neg (by rw [h]; simp), List.dropWhile_cons_of_neg (by rw [h]; simp)]
      exact ⟨rfl, rfl⟩
    · rw [List.takeWhile_cons_of_pos h, List.dropWhile_cons_of_pos h, List.length_cons, List.take_succ_cons, List.drop_succ_cons, ih.1, ih.2]
      exact ⟨rfl, rfl⟩
def Small (l : List RT) : Prop := ∀ x ∈ l, x.k < 2147483648
theorem ins_rel (b : Int) (e : Nat) (x : RT) (l : List RT) (he : e < 2147483648) (hx : x.k < 2147483648) (hl : Small l) : insAt (rel b l) (insIx (nowOf b e) (tmOf b x) (rel b l)) (tmOf b x) = rel b (insR x l) := by
  have hc : ∀ y ∈ l, (bef (nowOf b e) (tmOf b x) ∘ tmOf b) y = befR x y := fun y hy => by
    have h1 : far (nowOf b e) (tmOf b y).at_ = (y.k : Int) - e := far_rel b e y.k he (hl y hy)
    have h2 : far (nowOf b e) (tmOf b x).at_ = (x.k : Int) - e := far_rel b e x.k he hx
    show decide _ = decide _
    rw [h1, h2]
    apply decide_eq_decide.2
    show ((y.k : Int) - e < x.k - e ∨ (y.k : Int) - e = x.k - e ∧ (y.id : Int) ≤ x.id) ↔ _
    omega
  obtain ⟨c1, c2⟩ := tw_congr hc
  obtain ⟨t1, t2⟩ := tw_take (bef (nowOf b e) (tmOf b x)) (rel b l)
  unfold insAt insIx
  rw [t1, t2]
  unfold rel insR
  rw [List.takeWhile_map, List.dropWhile_map, c1, c2]
  simp
theorem due_rel (b : Int) (e e2 : Nat) (l : List RT) (he : e < 2147483648) (he2 : e2 < 2147483648) (hl : Small l) : dueN (nowOf b e) (far (nowOf b e) (nowOf b e2)) (rel b l) = (l.takeWhile (dueR e2)).length := by
  have hc : ∀ y ∈ l, (dueB (nowOf b e) (far (nowOf b e) (nowOf b e2)) ∘ tmOf b) y = dueR e2 y := fun y hy => by
    have h1 : far (nowOf b e) (tmOf b y).at_ = (y.k : Int) - e := far_rel b e y.k he (hl y hy)
    show decide _ = decide _
    rw [h1, far_rel b e e2 he he2]
    apply decide_eq_decide.2
    omega
  unfold dueN rel
  rw [List.takeWhile_map, List.length_map, (tw_congr hc).1]
/-- A wheel, by distances from b; it is e later. -/
def WR (w : World) (F : Nat → Prop) (p : Nat) (b : Int) (e : Nat) (l : List RT) : Prop := WhAt w F p (nowOf b e) (rel b l)
theorem radd_ok (w : World) (F : Nat → Prop) (p : Nat) (b : Int) (e : Nat) (l : List RT) (x : RT) (h : WR w F p b e l) (hl : l.length ≤ 999) (he : e < 2147483648) (hs : Small l) (hx : x.k < 2147483648) (hex : e ≤ x.k) (hin : (x.id : Int) ∉ idsR l) :
    Calls Try.prog 37 #[.pointer (some ⟨p, 0, none⟩), .int .u32 (nowOf b x.k), .int .i64 (x.id : Int)] w fun e' w' => ∃ F', e' = .returned (.int .i64 0) ∧ WR w' F' p b e (insR x l) ∧ Chg F w w' ∧ Grew w.heap.size F F' := by
  have := wadd_ok w F p (nowOf b e) (rel b l) (tmOf b x) h (by rw [rel_len]; exact hl) (by rw [ids_rel]; exact hin) (by show 0 ≤ far (nowOf b e) (nowOf b x.k); rw [far_rel b e x.k he hx]; omega)
  rw [ins_rel b e x l he hx hs] at this
  exact this
def RStep (F : Nat → Prop) (p : Nat) (b : Int) (e2 : Nat) (l : List RT) (w : World) (e : Ending) (w' : World) : Prop := ∃ F' oa oc G2, e = .returned (.tuple #[.slice oa (l.takeWhile (dueR e2)).length oc, .int .i64 0]) ∧ WR w' F' p b e2 (l.dropWhile (dueR e2)) ∧ Chg F w w' ∧ Grew w.heap.size F F' ∧ Sl w' 3 1 oa (l.takeWhile (dueR e2)).length oc (ints .i64 (idsR (l.takeWhile (dueR e2)))) G2 ∧ ∀ g, G2 = some g → w.heap.size ≤ g ∧ ¬ F' g
theorem rstep_ok (w : World) (F : Nat → Prop) (p : Nat) (b : Int) (e e2 : Nat) (l : List RT) (h : WR w F p b e l) (hl : l.length ≤ 1000) (he : e ≤ e2) (he2 : e2 < 2147483648) (hs : Small l) :
    Calls Try.prog 34 #[.pointer (some ⟨p, 0, none⟩), .int .u32 (nowOf b e2)] w (RStep F p b e2 l w) := by
  have := wstep_ok w F p (nowOf b e) (nowOf b e2) (rel b l) h (by rw [rel_len]; exact hl) (by rw [far_rel b e e2 (by omega) he2]; omega)
  rw [due_rel b e e2 l (by omega) he2 hs] at this
  refine this.mono ?_
  rintro e' w' ⟨F', oa, oc, G2, rfl, r1, r2, r3, r4, r5⟩
  obtain ⟨t1, t2⟩ := tw_take (dueR e2) l
  refine ⟨F', oa, oc, G2, rfl, ?_, r2, r3, ?_, r5⟩
  · unfold rel at r1
    rw [← List.map_drop, t2] at r1
    exact r1
  · unfold rel at r4
    rw [← List.map_take, t1] at r4
    rw [← ids_rel b]; exact r4
theorem rnext_none (w : World) (F : Nat → Prop) (p : Nat) (b : Int) (e : Nat) (h : WR w F p b e []) :
    Calls Try.prog 35 #[.pointer (some ⟨p, 0, none⟩)] w fun e w' => e = .returned (.tuple #[.int .u32 0, .int .i64 4]) ∧ w = w' := wnext_none w F p _ h
theorem rnext_ok (w : World) (F : Nat → Prop) (p : Nat) (b : Int) (e : Nat) (x : RT) (l : List RT) (h : WR w F p b e (x :: l)) :
    Calls Try.prog 35 #[.pointer (some ⟨p, 0, none⟩)] w fun e w' => e = .returned (.tuple #[.int .u32 (nowOf b x.k), .int .i64 0]) ∧ w = w' := wnext_ok w F p _ (tmOf b x) (rel b l) h
end Go.Proofs.Ytaffkdoiooablaa
