/- Contracts of the lock that many may hold: go_. Conditions: at most 1000 hold it or wait. -/
import Derived.Test.YtdelelpfombfbaaMany
namespace Go.Proofs.Ytdelelpfombfbaa
open Go.ChangeShapes Go.WideShapes Go.ChangeAt Go.RowKit
set_option linter.unusedVariables false
theorem clone_wn (R : Nat → Prop) (a : Option Addr) (n c : Nat) (xs : List Value) (w : World) (h : Rd w R 2 a n c xs) (hone : ∀ u ∈ xs, u.oneCell' = true) (hn : n ≤ 4294967296) :
    Calls Try.prog 61 #[.slice a n c] w fun e w' => ∃ a' c' G, e = .returned (.slice a' n c') ∧ Sl w' 98 2 a' n c' xs G ∧ Chg Nil w w' ∧ ∀ g, G = some g → w.heap.size ≤ g := by
  have he := fun (w : World) (a : Option Addr) (n c : Nat) => Lib.run_eql_slice_nil (P := Try.prog) w 80 98 a n c 0 0 Try.underlying80
  cases a with
  | none =>
    have h0 : n = 0 := rd_none h
    subst h0
    have hl : xs = [] := List.eq_nil_of_length_eq_zero (by simpa using h.len)
    subst hl
    clear h hone
    go_enter Try.func61, Try.ntmps61
    go_wp2
    go_ret
    exact ⟨_, _, none, rfl, Sl.empty _ _ _ _, Chg.refl _ _, fun _ h => by cases h⟩
  | some x =>
    have H := hid (h.alloc (.cells #[] 98))
    have HO := hid hone
    clear h hone
    go_enter Try.func61, Try.ntmps61
    go_wp2_with (at_builtin; refine wpList_append_sl rfl _ _ eWant rfl rfl rfl (Sl.empty _ _ _ _) H.out HO.out (by omega) (by omega) ?_; intro a' c' w' G' q1 q2 q3)
    go_ret
    rw [Nat.zero_add, List.nil_append] at q1
    refine ⟨_, _, G', rfl, q1, ((Chg.refl Nil w).alloc _).trans q2 (fun i _ h => by cases h), fun g hg => ?_⟩
    rcases q3 with q3 | q3 <;> rw [q3] at hg
    · cases hg
    · injection hg with hg; rw [← hg]; simp
def lenV : Value → Nat
  | .slice _ n _ => n
  | _ => 0
/-- Who has it now, in memory. -/
structure OutI (w0 w : World) (F : Nat → Prop) (out : List Int) (a : Option Addr) (c : Nat) (G : Option Nat) : Prop where
  sl : Sl w 3 1 a out.length c (ints .i64 out) G
  fr : ∀ g, G = some g → w0.heap.size ≤ g
  no : ∀ g, G = some g → ¬ F g
/-- On the way: the lock, and who has it now. -/
def GoJ (w0 : World) (F0 : Nat → Prop) (p : Nat) (s0 : MS) (rd : List Int) (wr : Int) (row : List WN) (out : List Int) (a : Option Addr) (c : Nat) (w : World) : Prop :=
  ∃ F G, MnAt w F p ⟨rd, wr, row⟩ ∧ Chg F0 w0 w ∧ Grew w0.heap.size F0 F ∧ OutI w0 w F out a c G ∧ goM s0.rd s0.wr s0.row = ((goM rd wr row).1, out ++ (goM rd wr row).2)
def PGo (F : Nat → Prop) (p : Nat) (r : MS × List Int) (w : World) (e : Ending) (w' : World) : Prop := ∃ F' a c G, e = .returned (.slice a r.2.length c) ∧ MnAt w' F' p r.1 ∧ Chg F w w' ∧ Grew w.heap.size F F' ∧ OutI w w' F' r.2 a c G
theorem goJ_end {w0 w : World} {F0 : Nat → Prop} {p : Nat} {s0 : MS} {rd : List Int} {wr : Int} {row : List WN} {out : List Int} {a : Option Addr} {c : Nat} (h : GoJ w0 F0 p s0 rd wr row out a c w) (hs : goM rd wr row = (⟨rd, wr, row⟩, [])) : PGo F0 p (goM s0.rd s0.wr s0.row) w0 (.returned (.slice a out.length c)) w := by
  obtain ⟨F, G, h1, h2, h3, h4, h5⟩ := h
  rw [hs, List.append_nil] at h5
  rw [h5]
  exact ⟨F, a, c, G, rfl, h1, h2, h3, h4⟩
/-- One more: the rest of a round, behind what was done to who reads or writes. -/
theorem goJ_step {w0 w w1 w2 w3 : World} {F0 F F1 F2 : Nat → Prop} {p : Nat} {s0 : MS} {rd rd' : List Int} {wr wr' : Int} {x : WN} {row : List WN} {out : List Int} {a' : Option Addr} {c' : Nat} {G G' : Option Nat}
    (h2 : Chg F0 w0 w) (h3 : Grew w0.heap.size F0 F) (hG : ∀ g, G = some g → w0.heap.size ≤ g) (h5 : goM s0.rd s0.wr s0.row = ((goM rd wr (x :: row)).1, out ++ (goM rd wr (x :: row)).2))
    (c1 : Chg F w w1) (g1 : Grew w.heap.size F F1) (c2 : Chg (Opt G) w1 w2) (c3 : Chg F1 w2 w3) (g3 : Grew w2.heap.size F1 F2)
    (hm : MnAt w3 F2 p ⟨rd', wr', row⟩) (hn : goM rd wr (x :: row) = ((goM rd' wr' row).1, x.t :: (goM rd' wr' row).2))
    (hS : Sl w2 3 1 a' (out ++ [x.t]).length c' (ints .i64 (out ++ [x.t])) G') (hG' : G' = G ∨ ∀ g, G' = some g → w1.heap.size ≤ g) (hno : ∀ g, G = some g → ¬ F1 g) (hF1 : ∀ k, F1 k → k < w1.heap.size) :
    GoJ w0 F0 p s0 rd' wr' row (out ++ [x.t]) a' c' w3 := by
  have s1 := c1.size
  have s2 := c2.size
  have s0' := h2.size
  have hlt := hS.lt
  have hnF1 : ∀ g, G' = some g → ¬ F1 g := fun g hg hF => by
    rcases hG' with h | h
    · exact hno g (by rw [← h]; exact hg) hF
    · have := h g hg; have := hF1 g hF; omega
  have hfr : ∀ g, G' = some g → w0.heap.size ≤ g := fun g hg => by
    rcases hG' with h | h
    · exact hG g (by rw [← h]; exact hg)
    · have := h g hg; omega
  refine ⟨F2, G', hm, ?_, ?_, ⟨hS.chg c3 hnF1, hfr, fun g hg hF => ?_⟩, ?_⟩
  · have e1 : Chg F0 w0 w1 := h2.trans c1 (fun i hi hF => by
      rcases h3 i hF with h | h
      · exact h
      · omega)
    have e2 : Chg F0 w0 w2 := e1.trans c2 (fun i hi hF => by have := hG i hF; omega)
    exact e2.trans c3 (fun i hi hF => by
      rcases g1 i hF with h | h
      · rcases h3 i h with h | h
        · exact h
        · omega
      · omega)
  · intro k hk
    rcases g3 k hk with h | h
    · rcases g1 k h with h | h
      · exact h3 k h
      · exact .inr (by omega)
    · exact .inr (by omega)
  · rcases g3 g hF with h | h
    · exact hnF1 g hg h
    · have := hlt g hg; omega
  · rw [h5, hn, List.append_assoc]
    rfl
end Go.Proofs.Ytdelelpfombfbaa
