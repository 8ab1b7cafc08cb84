/- Plain model of the lock that many may hold who read: what each call makes of it, and what is kept. No program in sight; no condition. -/
import Derived.Test.YtdelelpfombfbaaSlices
import Derived.Test.YtdelelpfombfbaaMem2
import Derived.Test.YtdelelpfombfbaaDel
namespace Go.Proofs.Ytdelelpfombfbaa
set_option linter.unusedVariables false
/-- Who waits, and whether he wants to write. -/
structure WN where
  t : Int
  w : Bool
/-- Who reads, who writes (0: nobody), who waits. -/
structure MS where
  rd : List Int
  wr : Int
  row : List WN
/-- All that may have it now, of who waits. -/
def goM (rd : List Int) (wr : Int) : List WN → MS × List Int
  | [] => (⟨rd, wr, []⟩, [])
  | x :: row => if wr ≠ 0 then (⟨rd, wr, x :: row⟩, []) else
    if x.w = true then (if rd ≠ [] then (⟨rd, wr, x :: row⟩, []) else ((goM rd x.t row).1, x.t :: (goM rd x.t row).2))
    else ((goM (rd ++ [x.t]) wr row).1, x.t :: (goM (rd ++ [x.t]) wr row).2)
theorem goM_nil (rd : List Int) (wr : Int) : goM rd wr [] = (⟨rd, wr, []⟩, []) := rfl
theorem goM_busy {rd : List Int} {wr : Int} (row : List WN) (h : wr ≠ 0) : goM rd wr row = (⟨rd, wr, row⟩, []) := by
  cases row with
  | nil => rfl
  | cons x row => unfold goM; rw [if_pos h]
theorem goM_stop {rd : List Int} {x : WN} (row : List WN) (hx : x.w = true) (hr : rd ≠ []) : goM rd 0 (x :: row) = (⟨rd, 0, x :: row⟩, []) := by
  unfold goM; rw [if_neg (by simp), if_pos hx, if_pos hr]
theorem goM_write {rd : List Int} {x : WN} (row : List WN) (hx : x.w = true) (hr : rd = []) : goM rd 0 (x :: row) = ((goM rd x.t row).1, x.t :: (goM rd x.t row).2) := by
  rw [goM]; rw [if_neg (by simp), if_pos hx, if_neg (by simp [hr])]
theorem goM_read {rd : List Int} {x : WN} (row : List WN) (hx : x.w = false) : goM rd 0 (x :: row) = ((goM (rd ++ [x.t]) 0 row).1, x.t :: (goM (rd ++ [x.t]) 0 row).2) := by
  rw [goM]; rw [if_neg (by simp), if_neg (by simp [hx])]
def anyN (l : List WN) (t : Int) : Bool := l.any (fun x => x.t == t)
/-- Is one of them, or does he wait? -/
def MS.has (s : MS) (t : Int) : Bool := (s.wr == t) || (hasI s.rd t || anyN s.row t)
def MS.take (s : MS) (t : Int) (w : Bool) : MS × Int := if s.has t = true then (s, 8) else
  ((goM s.rd s.wr (s.row ++ [⟨t, w⟩])).1, if hasI (goM s.rd s.wr (s.row ++ [⟨t, w⟩])).2 t = true then 0 else 9)
def MS.free (s : MS) (t : Int) : MS × List Int := if s.wr = t then goM s.rd 0 s.row else goM (keepI t s.rd) s.wr s.row
/-- What is kept: nobody reads while one writes; the first who waits cannot go on. -/
structure MOk (s : MS) : Prop where
  r1 : ∀ x ∈ s.rd, 1 ≤ x ∧ x ≤ 16
  w1 : 0 ≤ s.wr ∧ s.wr ≤ 16
  q1 : ∀ x ∈ s.row, 1 ≤ x.t ∧ x.t ≤ 16
  ex : s.wr ≠ 0 → s.rd = []
  st : ∀ x row, s.row = x :: row → s.wr = 0 → s.rd ≠ [] ∧ x.w = true
def MS.tot (s : MS) : Nat := s.rd.length + (if s.wr = 0 then 0 else 1) + s.row.length
def MOk0 (rd : List Int) (wr : Int) (row : List WN) : Prop := (∀ x ∈ rd, 1 ≤ x ∧ x ≤ 16) ∧ (0 ≤ wr ∧ wr ≤ 16) ∧ (∀ x ∈ row, 1 ≤ x.t ∧ x.t ≤ 16) ∧ (wr ≠ 0 → rd = [])
theorem goM_ok : ∀ (row : List WN) (rd : List Int) (wr : Int), MOk0 rd wr row → MOk (goM rd wr row).1 ∧ (goM rd wr row).1.tot = (⟨rd, wr, row⟩ : MS).tot := by
  intro row
  induction row with
  | nil => intro rd wr ⟨h1, h2, h3, h4⟩; exact ⟨⟨h1, h2, h3, h4, fun x row h => by cases h⟩, rfl⟩
  | cons x row ih =>
    intro rd wr ⟨h1, h2, h3, h4⟩
    have hx := h3 x (by simp)
    have h3' : ∀ y ∈ row, 1 ≤ y.t ∧ y.t ≤ 16 := fun y hy => h3 y (List.mem_cons_of_mem _ hy)
    by_cases hw : wr = 0
    · subst hw
      cases hxw : x.w with
      | true =>
        by_cases hr : rd = []
        · rw [goM_write row hxw hr]
          obtain ⟨a, b⟩ := ih rd x.t ⟨h1, by omega, h3', fun _ => hr⟩
          refine ⟨a, b.trans ?_⟩
          unfold MS.tot
          simp only [List.length_cons]
          rw [if_neg (by omega)]
          simp only [if_true]
          omega
        · rw [goM_stop row hxw hr]
          exact ⟨⟨h1, h2, h3, h4, fun y row' he hz => by injection he with he _; subst he; exact ⟨hr, hxw⟩⟩, rfl⟩
      | false =>
        rw [goM_read row hxw]
        obtain ⟨a, b⟩ := ih (rd ++ [x.t]) 0 ⟨fun y hy => by
          rcases List.mem_append.1 hy with hy | hy
          · exact h1 y hy
          · rw [List.mem_singleton.1 hy]; exact hx, by omega, h3', fun h => absurd rfl h⟩
        refine ⟨a, b.trans ?_⟩
        unfold MS.tot
        simp only [List.length_cons, List.length_append, List.length_nil]
        omega
    · rw [goM_busy _ hw]
      exact ⟨⟨h1, h2, h3, h4, fun y row' he hz => absurd hz hw⟩, rfl⟩
/-- Who goes on is the first who waited, and so on; nobody is lost. -/
theorem goM_out : ∀ (row : List WN) (rd : List Int) (wr : Int), (∀ x ∈ row, 1 ≤ x.t) → (goM rd wr row).2 ++ (goM rd wr row).1.row.map WN.t = row.map WN.t ∧ ∀ t : Int, 1 ≤ t → (t ∈ rd ∨ t = wr) → (t ∈ (goM rd wr row).1.rd ∨ t = (goM rd wr row).1.wr) := by
  intro row
  induction row with
  | nil => intro rd wr _; exact ⟨rfl, fun t _ h => h⟩
  | cons x row ih =>
    intro rd wr h3
    have h3' : ∀ y ∈ row, 1 ≤ y.t := fun y hy => h3 y (List.mem_cons_of_mem _ hy)
    by_cases hw : wr = 0
    · subst hw
      cases hxw : x.w with
      | true =>
        by_cases hr : rd = []
        · rw [goM_write row hxw hr]
          obtain ⟨a, b⟩ := ih rd x.t h3'
          refine ⟨by rw [List.map_cons, ← a]; rfl, fun t t1 ht => b t t1 ?_⟩
          rcases ht with ht | ht
          · exact .inl ht
          · omega
        · rw [goM_stop row hxw hr]
          exact ⟨rfl, fun t _ h => h⟩
      | false =>
        rw [goM_read row hxw]
        obtain ⟨a, b⟩ := ih (rd ++ [x.t]) 0 h3'
        refine ⟨by rw [List.map_cons, ← a]; rfl, fun t t1 ht => b t t1 ?_⟩
        rcases ht with ht | ht
        · exact .inl (List.mem_append_left _ ht)
        · exact .inr ht
    · rw [goM_busy _ hw]
      exact ⟨rfl, fun t _ h => h⟩
/-- Who had it now is among those who have it. -/
theorem goM_in : ∀ (row : List WN) (rd : List Int) (wr : Int), (∀ x ∈ row, 1 ≤ x.t) → ∀ t ∈ (goM rd wr row).2, t ∈ (goM rd wr row).1.rd ∨ t = (goM rd wr row).1.wr := by
  intro row
  induction row with
  | nil => intro rd wr _ t ht; cases ht
  | cons x row ih =>
    intro rd wr h3
    have hx := h3 x (by simp)
    have h3' : ∀ y ∈ row, 1 ≤ y.t := fun y hy => h3 y (List.mem_cons_of_mem _ hy)
    by_cases hw : wr = 0
    · subst hw
      cases hxw : x.w with
      | true =>
        by_cases hr : rd = []
        · rw [goM_write row hxw hr]
          intro t ht
          rcases List.mem_cons.1 ht with rfl | ht
          · exact (goM_out row rd x.t h3').2 x.t hx (.inr rfl)
          · exact ih rd x.t h3' t ht
        · rw [goM_stop row hxw hr]
          intro t ht; cases ht
      | false =>
        rw [goM_read row hxw]
        intro t ht
        rcases List.mem_cons.1 ht with rfl | ht
        · exact (goM_out row (rd ++ [x.t]) 0 h3').2 x.t hx (.inl (by simp))
        · exact ih _ _ h3' t ht
    · rw [goM_busy _ hw]
      intro t ht; cases ht
/-- What each wanted is what he has. -/
structure WOk (s : MS) (W : Int → Bool) : Prop where
  wr : s.wr ≠ 0 → W s.wr = true
  rd : ∀ x ∈ s.rd, W x = false
  row : ∀ x ∈ s.row, W x.t = x.w
theorem goM_want (W : Int → Bool) : ∀ (row : List WN) (rd : List Int) (wr : Int), WOk ⟨rd, wr, row⟩ W → WOk (goM rd wr row).1 W := by
  intro row
  induction row with
  | nil => intro rd wr h; exact h
  | cons x row ih =>
    intro rd wr h
    have hx : W x.t = x.w := h.row x (by simp)
    have h3' : ∀ y ∈ row, W y.t = y.w := fun y hy => h.row y (List.mem_cons_of_mem _ hy)
    by_cases hw : wr = 0
    · subst hw
      cases hxw : x.w with
      | true =>
        by_cases hr : rd = []
        · rw [goM_write row hxw hr]
          exact ih rd x.t ⟨fun _ => by rw [← hxw]; exact hx, h.rd, h3'⟩
        · rw [goM_stop row hxw hr]; exact h
      | false =>
        rw [goM_read row hxw]
        refine ih _ _ ⟨fun hh => absurd rfl hh, fun y hy => ?_, h3'⟩
        rcases List.mem_append.1 hy with hy | hy
        · exact h.rd y hy
        · rw [List.mem_singleton.1 hy, ← hxw]; exact hx
    · rw [goM_busy _ hw]; exact h
theorem MOk.zero {s : MS} (h : MOk s) : MOk0 s.rd s.wr s.row := ⟨h.r1, h.w1, h.q1, h.ex⟩
theorem m_new : MOk ⟨[], 0, []⟩ := ⟨(fun x hx => by cases hx), by simp, (fun x hx => by cases hx), fun _ => rfl, (fun x row h => by cases h)⟩
theorem MOk.take {s : MS} (h : MOk s) {t : Int} (t1 : 1 ≤ t) (t2 : t ≤ 16) (w : Bool) : MOk (s.take t w).1 := by
  unfold MS.take
  split
  · exact h
  · refine (goM_ok _ _ _ ⟨h.r1, h.w1, fun x hx => ?_, h.ex⟩).1
    rcases List.mem_append.1 hx with hx | hx
    · exact h.q1 x hx
    · rw [List.mem_singleton.1 hx]; exact ⟨t1, t2⟩
theorem take_tot {s : MS} (h : MOk s) {t : Int} (t1 : 1 ≤ t) (t2 : t ≤ 16) (w : Bool) : (s.take t w).1.tot ≤ s.tot + 1 ∧ ((s.take t w).2 ≠ 8 → (s.take t w).1.tot = s.tot + 1) := by
  unfold MS.take
  split
  · exact ⟨by show s.tot ≤ s.tot + 1; omega, fun hh => absurd rfl hh⟩
  · have := (goM_ok (s.row ++ [⟨t, w⟩]) s.rd s.wr ⟨h.r1, h.w1, fun x hx => by
      rcases List.mem_append.1 hx with hx | hx
      · exact h.q1 x hx
      · rw [List.mem_singleton.1 hx]; exact ⟨t1, t2⟩, h.ex⟩).2
    have e : (⟨s.rd, s.wr, s.row ++ [⟨t, w⟩]⟩ : MS).tot = s.tot + 1 := by unfold MS.tot; simp only [List.length_append, List.length_cons, List.length_nil]; omega
    exact ⟨by rw [this, e]; omega, fun _ => by rw [this, e]⟩
/-- Who holds it or waits. -/
def MS.in (s : MS) (t : Int) : Prop := (t ∈ s.rd ∨ t = s.wr) ∨ t ∈ s.row.map WN.t
theorem take_in {s : MS} (h : MOk s) {t : Int} (t1 : 1 ≤ t) (t2 : t ≤ 16) (w : Bool) : (∀ x : Int, 1 ≤ x → s.in x → (s.take t w).1.in x) ∧ ((s.take t w).2 ≠ 8 → (s.take t w).1.in t) := by
  unfold MS.take
  split
  · exact ⟨fun x _ hx => hx, fun hh => absurd rfl hh⟩
  · have hq : ∀ x ∈ s.row ++ [(⟨t, w⟩ : WN)], 1 ≤ x.t := fun x hx => by
      rcases List.mem_append.1 hx with hx | hx
      · exact (h.q1 x hx).1
      · rw [List.mem_singleton.1 hx]; exact t1
    obtain ⟨o1, o2⟩ := goM_out (s.row ++ [⟨t, w⟩]) s.rd s.wr hq
    have o3 := goM_in (s.row ++ [⟨t, w⟩]) s.rd s.wr hq
    have key : ∀ x : Int, x ∈ (s.row ++ [(⟨t, w⟩ : WN)]).map WN.t → (goM s.rd s.wr (s.row ++ [⟨t, w⟩])).1.in x := fun x hx => by
      rw [← o1] at hx
      rcases List.mem_append.1 hx with hx | hx
      · exact .inl (o3 x hx)
      · exact .inr hx
    refine ⟨fun x x1 hx => ?_, fun _ => key t (by simp)⟩
    rcases hx with hx | hx
    · exact .inl (o2 x x1 hx)
    · exact key x (by rw [List.map_append]; exact List.mem_append_left _ hx)
theorem WOk.take {s : MS} {W : Int → Bool} (h : WOk s W) (hm : MOk s) {t : Int} (t1 : 1 ≤ t) (w : Bool) : ((s.take t w).2 = 8 → WOk (s.take t w).1 W) ∧ ((s.take t w).2 ≠ 8 → WOk (s.take t w).1 (fun x => if x = t then w else W x)) := by
  unfold MS.take
  by_cases hh : s.has t = true
  · rw [if_pos hh]
    exact ⟨fun _ => h, fun he => absurd rfl he⟩
  · rw [if_neg hh]
    refine ⟨fun he => by
      exfalso
      have he' : (if hasI (goM s.rd s.wr (s.row ++ [⟨t, w⟩])).2 t = true then (0 : Int) else 9) = 8 := he
      split at he' <;> omega, fun _ => goM_want _ _ _ _ ?_⟩
    have h1 : s.has t = false := by simpa using hh
    unfold MS.has anyN at h1
    rw [Bool.or_eq_false_iff, Bool.or_eq_false_iff] at h1
    obtain ⟨n1, n2, n3⟩ := h1
    have n1' : s.wr ≠ t := by simpa using n1
    have n2' : t ∉ s.rd := fun hi => by rw [hasI_true hi] at n2; cases n2
    refine ⟨fun h0 => ?_, fun x hx => ?_, fun x hx => ?_⟩
    · show (if s.wr = t then w else W s.wr) = true
      rw [if_neg n1']; exact h.wr h0
    · show (if x = t then w else W x) = false
      rw [if_neg (fun hh => n2' (by rw [← hh]; exact hx))]; exact h.rd x hx
    · show (if x.t = t then w else W x.t) = x.w
      rcases List.mem_append.1 hx with hx | hx
      · rw [if_neg (fun hh => by
          rw [List.any_eq_false] at n3
          exact n3 x hx (by simp [hh]))]
        exact h.row x hx
      · rw [List.mem_singleton.1 hx, if_pos rfl]
theorem MOk.free {s : MS} (h : MOk s) (t : Int) : MOk (s.free t).1 := by
  unfold MS.free
  split
  · exact (goM_ok _ _ _ ⟨h.r1, by omega, h.q1, fun hh => absurd rfl hh⟩).1
  · exact (goM_ok _ _ _ ⟨fun x hx => h.r1 x (keepI_mem.1 hx).1, h.w1, h.q1, fun hh => by rw [h.ex hh]; rfl⟩).1
theorem WOk.free {s : MS} {W : Int → Bool} (h : WOk s W) (t : Int) : WOk (s.free t).1 W := by
  unfold MS.free
  split
  · exact goM_want _ _ _ _ ⟨fun hh => absurd rfl hh, h.rd, h.row⟩
  · exact goM_want _ _ _ _ ⟨h.wr, fun x hx => h.rd x (keepI_mem.1 hx).1, h.row⟩
theorem keep_less {t : Int} {l : List Int} (h : t ∈ l) : (keepI t l).length + 1 ≤ l.length := by
  induction l with
  | nil => cases h
  | cons x l ih =>
    by_cases hx : x = t
    · subst hx
      have := keepI_len x l
      have e : keepI x (x :: l) = keepI x l := by unfold keepI; simp
      rw [e]; simp only [List.length_cons]; omega
    · have hl : t ∈ l := by
        rcases List.mem_cons.1 h with h | h
        · exact absurd h.symm hx
        · exact h
      have e : keepI t (x :: l) = x :: keepI t l := by unfold keepI; simp [hx]
      rw [e]; simp only [List.length_cons]; have := ih hl; omega
/-- One who has it frees it: one less; those that go on are the first who waited. -/
theorem free_tot {s : MS} (h : MOk s) {t : Int} (t1 : 1 ≤ t) (ht : t ∈ s.rd ∨ t = s.wr) : (s.free t).1.tot + 1 ≤ s.tot ∧ (s.free t).2 ++ (s.free t).1.row.map WN.t = s.row.map WN.t := by
  have hq : ∀ x ∈ s.row, 1 ≤ x.t := fun x hx => (h.q1 x hx).1
  unfold MS.free
  by_cases hw : s.wr = t
  · rw [if_pos hw]
    refine ⟨?_, (goM_out s.row s.rd 0 hq).1⟩
    rw [(goM_ok s.row s.rd 0 ⟨h.r1, by omega, h.q1, fun hh => absurd rfl hh⟩).2]
    unfold MS.tot
    simp only [if_true]
    rw [if_neg (show ¬ s.wr = 0 by omega)]
    omega
  · rw [if_neg hw]
    refine ⟨?_, (goM_out s.row _ s.wr hq).1⟩
    rw [(goM_ok s.row (keepI t s.rd) s.wr ⟨fun x hx => h.r1 x (keepI_mem.1 hx).1, h.w1, h.q1, fun hh => by rw [h.ex hh]; rfl⟩).2]
    have := keep_less (t := t) (l := s.rd) (by rcases ht with ht | ht; exact ht; exact absurd ht.symm hw)
    unfold MS.tot
    simp only
    omega
end Go.Proofs.Ytdelelpfombfbaa
