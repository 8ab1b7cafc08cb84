/- Memory and plain laws of the law PrioGoes. -/
import Derived.Test.YtaffkdoiooablaaPrioM
import Derived.Test.YtaffkdoiooablaaGoes2
import Derived.Test.YtaffkdoiooablaaPrioBitsWalk
namespace Go.Proofs.Ytaffkdoiooablaa
open Go.ChangeShapes Go.WideShapes Go.ChangeAt Go.RowKit
set_option linter.unusedVariables false
/-- The class, the box with the argument, and the row of orders, apart from each other. -/
structure Gs (w0 : World) (F : Nat → Prop) (p b : Nat) (q : Nat → List Int) (lb : Nat) (A : Option Addr) (N cp : Nat) (xs : List Nat) (oa : Option Addr) (on oc : Nat) (G : Option Nat) (w : World) : Prop where
  m : PMem w0.heap.size w0 F p b q w
  box : Blk w lb 22 [.slice A N cp]
  nf : ¬ F lb
  ge : w0.heap.size ≤ lb
  sl : Sl w 3 1 oa on oc (ints .i64 (nats xs)) G
  gf : ∀ g, G = some g → ¬ F g ∧ g ≠ lb ∧ w0.heap.size ≤ g
section
variable {w0 w w1 : World} {F F1 : Nat → Prop} {p b b1 lb N cp on oc : Nat} {q q1 : Nat → List Int} {A oa : Option Addr} {xs : List Nat} {G : Option Nat}
theorem Gs.step (h : Gs w0 F p b q lb A N cp xs oa on oc G w) (h1 : PrAt w1 F1 p b1 q1) (hc : Chg F w w1) (hg : Grew w.heap.size F F1) : Gs w0 F1 p b1 q1 lb A N cp xs oa on oc G w1 :=
  ⟨h.m.step h1 hc hg, h.box.chg hc h.nf, fun hh => (hg lb hh).elim h.nf (fun hh => by have := h.box.lt; omega), h.ge, h.sl.chg hc (fun g hG => (h.gf g hG).1), fun g hG => ⟨fun hh => (hg g hh).elim (h.gf g hG).1 (fun hh => by have := h.sl.lt g hG; omega), (h.gf g hG).2⟩⟩
theorem Gs.row {ys : List Nat} {oa' : Option Addr} {on' oc' : Nat} {G' : Option Nat} (h : Gs w0 F p b q lb A N cp xs oa on oc G w) (hs : Sl w1 3 1 oa' on' oc' (ints .i64 (nats ys)) G') (hc : Chg (Opt G) w w1) (hG : ∀ g, G' = some g → G = some g ∨ w.heap.size ≤ g) : Gs w0 F p b q lb A N cp ys oa' on' oc' G' w1 := by
  refine ⟨h.m.far hc (fun k hF hh => (h.gf k hh).1 hF) (fun k hh => (h.gf k hh).2.2), h.box.chg hc (fun hh => (h.gf lb hh).2.1 rfl), h.nf, h.ge, hs, fun g hg => ?_⟩
  rcases hG g hg with h1 | h1
  · exact h.gf g h1
  · refine ⟨fun hF => ?_, ?_, ?_⟩
    · have := h.m.q.lt g hF; omega
    · have := h.box.lt; omega
    · have := h.m.sz; omega
theorem Gs.nil (h : Gs w0 F p b q lb A N cp xs oa on oc G w) (hc : Chg Nil w w1) : Gs w0 F p b q lb A N cp xs oa on oc G w1 :=
  ⟨h.m.nil hc, h.box.chg hc (fun h => h), h.nf, h.ge, h.sl.chg hc (fun _ _ h => h), h.gf⟩
end
theorem prOf_neg (q : Nat → List Int) (t : Int) : ∀ k, prOf q t k = -1 → ∀ i, i < k → t ∉ q i
  | 0, _, i, hi => by omega
  | k + 1, h, i, hi => by
    have hb := prOf_le q t k
    unfold prOf at h
    by_cases h1 : prOf q t k = -1
    · rw [if_pos h1] at h
      by_cases h2 : t ∈ q k
      · rw [if_pos h2] at h; omega
      · by_cases hik : i = k
        · subst hik; exact h2
        · exact prOf_neg q t k h1 i (by omega)
    · rw [if_neg h1] at h; exact absurd h h1
theorem prOf_eq (q : Nat → List Int) (t : Int) (v : Nat) (hv : v < 8) (hin : t ∈ q v) (hu : ∀ i, i < 8 → t ∈ q i → i = v) : prOf q t 8 = v := by
  have hb := prOf_le q t 8
  by_cases h : prOf q t 8 = -1
  · exact absurd hin (prOf_neg q t 8 h v hv)
  · obtain ⟨i, e1, e2, e3⟩ := prOf_mem q t 8 (by omega)
    rw [e1, hu i e2 e3]
theorem qOf_put (f : Nat → Int) (k v : Nat) (h : f k = (v : Int)) : upF (qOf f (List.range k)) v (qOf f (List.range k) v ++ [(k : Int) + 1]) = qOf f (List.range (k + 1)) := by
  funext u
  rw [List.range_succ, qOf_snoc]
  by_cases hu : u = v
  · subst hu; rw [upF_same, if_pos h]
  · rw [upF_ne _ _ hu, if_neg (by omega)]
theorem qOf_new (f : Nat → Int) (k : Nat) : prOf (qOf f (List.range k)) ((k : Int) + 1) 8 = -1 :=
  prOf_none _ _ (fun i hi ht => by
    obtain ⟨x, h1, _, h3⟩ := (qOf_mem _ _ _ _).1 ht
    have := List.mem_range.1 h1
    omega) 8 (Nat.le_refl _)
/-- Who goes next. -/
structure NextUp (f : Nat → Int) (b : Nat) (r : List Nat) (x v : Nat) : Prop where
  b0 : b ≠ 0
  top : v = topB b
  v8 : v < 8
  fv : f x = (v : Int)
  hd : qOf f (x :: r) v = ((x : Int) + 1) :: qOf f r v
  at_ : prOf (qOf f (x :: r)) ((x : Int) + 1) 8 = v
  mem : (x : Int) + 1 ∈ qOf f (x :: r) v
  out : upF (qOf f (x :: r)) v (keepI ((x : Int) + 1) (qOf f (x :: r) v)) = qOf f r
theorem nextUp {f : Nat → Int} {k b x : Nat} {r : List Nat} (hO : BOk k b (qOf f (x :: r))) (hf : 0 ≤ f x ∧ f x < 8) (hord : ∀ y ∈ r, f y ≤ f x) (hno : x ∉ r) : ∃ v, NextUp f b r x v := by
  obtain ⟨v, hv⟩ : ∃ v : Nat, f x = (v : Int) := ⟨(f x).toNat, by omega⟩
  have hv8 : v < 8 := by omega
  have hhd := qOf_cons_same f x r v hv
  have hbv := (hO.bit v hv8).2 (by rw [hhd]; simp)
  have hb0 : b ≠ 0 := fun hh => by rw [hh] at hbv; simp at hbv
  obtain ⟨t1, t2, t3, t4, t5⟩ := topB_ok b hO.lt hb0
  have hmem : (x : Int) + 1 ∈ qOf f (x :: r) v := by rw [hhd]; exact List.mem_cons_self
  refine ⟨v, hb0, ?_, hv8, hv, hhd, ?_, hmem, ?_⟩
  · have hne := (hO.bit _ t2).1 t4
    obtain ⟨t, ht⟩ := List.exists_mem_of_ne_nil _ hne
    obtain ⟨y, h1, h2, h3⟩ := (qOf_mem _ _ _ _).1 ht
    have hle : topB b ≤ v := by
      rcases List.mem_cons.1 h1 with h4 | h4
      · subst h4; omega
      · have := hord y h4; omega
    rcases Nat.lt_or_ge (topB b) v with h5 | h5
    · have := t5 v hv8 h5; rw [this] at hbv; cases hbv
    · omega
  · refine prOf_eq _ _ v hv8 hmem (fun i hi ht => ?_)
    obtain ⟨y, h1, h2, h3⟩ := (qOf_mem _ _ _ _).1 ht
    have : y = x := by omega
    subst this; omega
  · funext u
    by_cases hu : u = v
    · subst hu
      rw [upF_same, hhd]
      show List.filter _ (_ :: _) = _
      rw [List.filter_cons_of_neg (by simp)]
      refine keepI_all (fun ht => ?_)
      obtain ⟨y, h1, h2, h3⟩ := (qOf_mem _ _ _ _).1 ht
      have : y = x := by omega
      subst this; exact hno h1
    · rw [upF_ne _ _ hu, qOf_cons_ne _ _ _ _ (by omega)]
theorem goes_drop {f : Nat → Int} {n k : Nat} {ys : List Nat} (hs : SameBy f (List.range n) ys) (ho : OrdTo f ys n) (hk : k < n) : ∃ x, ys[k]? = some x ∧ x < n ∧ ys.drop k = x :: ys.drop (k + 1) ∧ (∀ y ∈ ys.drop (k + 1), f y ≤ f x) ∧ x ∉ ys.drop (k + 1) := by
  have hl : ys.length = n := by rw [hs.1, List.length_range]
  have hkl : k < ys.length := by omega
  have hd := List.drop_eq_getElem_cons hkl
  refine ⟨ys[k], List.getElem?_eq_getElem hkl, List.mem_range.1 (hs.mem (List.getElem_mem hkl)), hd, fun y hy => ?_, fun hx => ?_⟩
  · obtain ⟨j, hj, hj2⟩ := List.mem_iff_getElem.1 hy
    rw [List.getElem_drop] at hj2
    rw [List.length_drop] at hj
    exact ho k (k + 1 + j) ys[k] y (by omega) (by omega) (List.getElem?_eq_getElem hkl) (by rw [← hj2]; exact List.getElem?_eq_getElem _)
  · have h1 : ((ys.drop k).filter (fun y => f y == f ys[k])).Nodup := by
      refine List.Nodup.sublist ((List.drop_sublist k ys).filter _) ?_
      rw [hs.2]
      exact List.Nodup.sublist List.filter_sublist List.nodup_range
    rw [hd, List.filter_cons_of_pos (by simp)] at h1
    exact (List.nodup_cons.1 h1).1 (List.mem_filter.2 ⟨hx, by simp⟩)
theorem bok_zero {f : Nat → Int} {k b : Nat} (hO : BOk k b (qOf f [])) : b = 0 := by
  by_cases hb0 : b = 0
  · exact hb0
  · obtain ⟨t1, t2, t3, t4, t5⟩ := topB_ok b hO.lt hb0
    exact absurd rfl ((hO.bit _ t2).1 t4)
end Go.Proofs.Ytaffkdoiooablaa
