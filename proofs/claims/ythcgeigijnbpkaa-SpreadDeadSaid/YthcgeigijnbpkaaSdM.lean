/- What is so at each tick of the law SpreadDead. No program in sight; no condition. -/
import Derived.Test.YthcgeigijnbpkaaSdP
import Derived.Test.YthcgeigijnbpkaaSprB
namespace Go.Proofs.Ythcgeigijnbpkaa
open Go.ChangeShapes Go.WideShapes Go.ChangeAt Go.RowKit
set_option linter.unusedVariables false
/-- What is so, so many ticks later. -/
def MI (l : List Use) (m : Nat) (ts : List DT) (g : Nat → Nat) : Prop := BInv l m ts ∧ (∀ (i : Nat) x, ts[i]? = some x → Giv m (g i) x) ∧ ∀ i, g i ≤ m
theorem mi_tick {l : List Use} {m : Nat} {ts : List DT} {g : Nat → Nat} {b : Option Nat} (hf : fit l 1) (h : MI l m ts g) (hb : IsFirst ts ts.length b) : MI l (m + 1) (tickTs m ts b) (fun i => g i + if b = some i then 1 else 0) := by
  obtain ⟨h1, h2, h3⟩ := h
  refine ⟨h1.tick hb, fun i x hx => ?_, fun i => ?_⟩
  · have hi : i < ts.length := by
      have := (List.getElem?_eq_some_iff.1 hx).1
      rwa [tickTs_eq, List.length_map, ranTs_len] at this
    rw [tick_at (List.getElem?_eq_getElem hi)] at hx
    injection hx with hx
    rw [← hx]
    exact h1.giv hf hb (List.getElem?_eq_getElem hi) (h2 i _ (List.getElem?_eq_getElem hi))
  · have := h3 i
    dsimp only
    split <;> omega
theorem mi_new {l : List Use} (hok : ∀ u ∈ l, u.ok) (hl : l.length ≤ 16) : MI l 0 (addTs l l.length) (fun _ => 0) := by
  refine ⟨binv_new hok hl, fun i x h => ?_, fun _ => Nat.le_refl _⟩
  have hi : i < l.length := by have := (List.getElem?_eq_some_iff.1 h).1; rwa [addTs_len] at this
  rw [addTs_get l _ i hi] at h
  injection h with h
  subst h
  exact giv_new (pe_ok hok i).1
theorem mi_check {l : List Use} {m : Nat} {ts : List DT} {g : Nat → Nat} (h : MI l m ts g) (hok : ∀ u ∈ l, u.ok) (k : Nat) (hk : k < l.length) (h0 : m % l[k].p = 0) : g k = m / l[k].p * l[k].c := by
  obtain ⟨h1, h2, _⟩ := h
  have hk' : k < ts.length := by rw [h1.len]; exact hk
  have hx := List.getElem?_eq_getElem hk'
  obtain ⟨_, e1, e2⟩ := h1.at_ k _ hx
  rw [co_at l k hk] at e1
  rw [pe_at l k hk] at e2
  have hp := (hok l[k] (List.getElem_mem hk))
  have := (h2 k _ hx).done (by rw [e2]; unfold Use.ok at hp; omega) (by rw [e2]; exact h0)
  rwa [e1, e2] at this
/-- .. and the run. -/
structure SI (l : List Use) (m : Nat) (s : SR) (g : Nat → Nat) (run : Option Nat) (ds : List DT) : Prop where
  mi : MI l m ds g
  di : DI m ds run s
  first : IsFirst ds ds.length (dOf ds.length run)
  ok : SOk ((m : Int) + 100) s
/-- Who is told to run, T with E, and whether it is counted. -/
def Told (n : Nat) (run : Option Nat) (T E : Int) (c : Bool) (j : Nat) : Prop :=
  (E = 4 ∧ T = 0 ∧ c = false ∧ dOf n run = none) ∨ (E = 0 ∧ T = (j : Int) + 1 ∧ j < n ∧ c = true ∧ dOf n run = some j) ∨ (E = 0 ∧ 9 ≤ T ∧ c = false ∧ dOf n run = none)
theorem SI.told {l : List Use} {m : Nat} {s : SR} {g : Nat → Nat} {run : Option Nat} {ds : List DT} (h : SI l m s g run ds) : ∃ T E c j, pickV s 0 = .tuple #[.int .i64 T, .int .i64 E] ∧ Told l.length run T E c j := by
  have hd : ∀ (i : Nat) y, ds[i]? = some y → y.t = i + 1 := fun i y hy => h.mi.1.num hy
  rcases di_pick h.di hd with ⟨h1, h2⟩ | ⟨i, t, h1, h2, h3⟩
  · exact ⟨0, 4, false, 0, h2, .inl ⟨rfl, rfl, rfl, by rw [h1]; rfl⟩⟩
  · rw [h.mi.1.len] at h3
    rcases h3 with ⟨h3, h4⟩ | ⟨h3, h4⟩
    · refine ⟨t, 0, true, i, h2, .inr (.inl ⟨rfl, by omega, h3, rfl, ?_⟩)⟩
      rw [h1]
      show (if i < l.length then some i else none) = some i
      rw [if_pos h3]
    · refine ⟨t, 0, false, 0, h2, .inr (.inr ⟨rfl, by omega, rfl, ?_⟩)⟩
      rw [h1]
      show (if i < l.length then some i else none) = none
      rw [if_neg (by omega)]
/-- What is given, one more tick on. -/
def giv1 (n : Nat) (run : Option Nat) (g : Nat → Nat) : Nat → Nat := fun i => g i + if dOf n run = some i then 1 else 0
theorem SI.tick {l : List Use} (hf : fit l 1) {m : Nat} {s : SR} {g : Nat → Nat} {run : Option Nat} {ds : List DT} (h : SI l m s g run ds) : ∃ run' ds', SI l (m + 1) (s.tick 0) (giv1 l.length run g) run' ds' := by
  obtain ⟨run', k1, k2, k3⟩ := di_tick h.di h.mi.1.ok h.first
  refine ⟨run', _, ?_, k1, k2, ?_⟩
  · have := mi_tick hf h.mi h.first
    rw [h.mi.1.len] at this
    unfold giv1
    rw [h.mi.1.len]
    exact this
  · have := h.ok.tick 0
    refine this.more (by omega)
/-- While tasks with budgets are added. -/
structure A1 (l : List Use) (k : Nat) (s : SR) : Prop where
  len : s.ts.length = k
  di : DI 0 (addTs l k) (runOf k) s
  ok : SOk (k : Int) s
  bud : BudOk s
theorem a1_new (l : List Use) : A1 l 0 ⟨1, 0, 0, []⟩ := by
  refine ⟨rfl, ⟨rfl, rfl, by simp [addTs], fun i y x hy => by simp [addTs] at hy, fun i x _ hx => by simp at hx, fun i x hx => by simp at hx, fun i hi => by cases hi⟩, new_ok 1 (by omega) (by omega), fun x hx => by cases hx⟩
theorem A1.add {l : List Use} {k : Nat} {s : SR} (h : A1 l k s) (hk : k < l.length) (hl8 : l.length ≤ 8) (hl : ∀ u ∈ l, u.ok ∧ u.p ∣ 120) (hf : fit l 1) :
    s.who (((k + 1 : Nat)) : Int) = none ∧ (s.doDead ((k + 1 : Nat) : Int) l[k].c l[k].p).2 = 0 ∧ A1 l (k + 1) (s.doDead ((k + 1 : Nat) : Int) l[k].c l[k].p).1 := by
  obtain ⟨d1, d2, d3, d4, d5⟩ := di_dead hk hl hf h.len h.di
  obtain ⟨o1, o2, o3⟩ := (hl _ (List.getElem_mem hk)).1
  refine ⟨d1, d2, d4, d5, ?_, ?_⟩
  · rw [d3]
    have := h.ok.enter (newD_ok h.ok (t := ((k + 1 : Nat) : Int)) (b := l[k].c) (p := l[k].p) (by omega) (by omega) o1 o2 o3) rfl (by rw [h.len]; omega)
    exact this.more (by omega)
  · rw [d3]
    refine h.bud.enter (fun _ => ?_)
    show (1 : Int) ≤ (l[k].c : Int) ∧ (l[k].c : Int) ≤ (l[k].p : Int) ∧ (l[k].p : Int) ≤ 30
    omega
/-- While others are added. -/
structure A2 (l : List Use) (k : Nat) (s : SR) : Prop where
  len : s.ts.length = l.length + k
  num : ∀ (i : Nat) x, s.ts[i]? = some x → (addTs l l.length).length ≤ i → x.t = 9 + ((i - (addTs l l.length).length : Nat) : Int)
  di : DI 0 (addTs l l.length) (runOf s.ts.length) s
  ok : SOk ((l.length : Int) + (k : Int)) s
theorem A1.two {l : List Use} {s : SR} (h : A1 l l.length s) : A2 l 0 s := by
  refine ⟨h.len, fun i x hx hi => ?_, by rw [h.len]; exact h.di, by simpa using h.ok⟩
  have := (List.getElem?_eq_some_iff.1 hx).1
  rw [addTs_len] at hi
  have := h.len
  omega
theorem A2.add {l : List Use} {k : Nat} {s : SR} (h : A2 l k s) (hl8 : l.length ≤ 8) (hk : k < 8) {cl : Int} (hcl : cl = 1 ∨ cl = 2) : (s.doAdd (9 + (k : Int)) cl 7).2 = 0 ∧ A2 l (k + 1) (s.doAdd (9 + (k : Int)) cl 7).1 := by
  have hd8 : ∀ y ∈ addTs l l.length, y.t ≤ 8 := fun y hy => by
    obtain ⟨i, hi, rfl⟩ := List.mem_map.1 hy
    have := List.mem_range.1 hi
    show i + 1 ≤ 8
    omega
  obtain ⟨d1, d2, d3, d4, d5⟩ := di_more (va := 7) hcl h.num hd8 (by rw [addTs_len]; exact h.len) h.di
  refine ⟨d1, by rw [d3, addTs_len], d4, d5, ?_⟩
  have := h.ok.add (by rw [h.len]; omega) (t := 9 + (k : Int)) (cl := cl) (va := 7) (by omega) (by omega) (by rcases hcl with rfl | rfl <;> rfl)
  exact this.more (by omega)
theorem A2.si {l : List Use} {k : Nat} {s : SR} (h : A2 l k s) (hl8 : l.length ≤ 8) (hk : k ≤ 8) (hok : ∀ u ∈ l, u.ok) (hs : ∀ (i j : Nat) (hi : i < l.length) (hj : j < l.length), i < j → l[i].p ≤ l[j].p) : SI l 0 s (fun _ => 0) (runOf s.ts.length) (addTs l l.length) :=
  ⟨mi_new hok (by omega), h.di, first_begun hs hok (by rw [h.len]; omega), h.ok.more (by omega)⟩
theorem mul_quo (now p c : Nat) (h1 : now ≤ 3000) (h2 : 1 ≤ p) (h3 : c ≤ p) : wrap64 (wrap64 ((now : Int) / (p : Int)) * (c : Int)) = ((now / p * c : Nat) : Int) := by
  have hm : now / p * c ≤ now := Nat.le_trans (Nat.mul_le_mul_left _ h3) (Nat.div_mul_le_self now p)
  exact mulq_wrap now p c (by omega) (by omega)
end Go.Proofs.Ythcgeigijnbpkaa
