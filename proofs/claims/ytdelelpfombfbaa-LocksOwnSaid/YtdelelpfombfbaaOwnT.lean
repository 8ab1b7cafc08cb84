/- Each package's thing in memory, and what its calls make of it and tell. Conditions: tasks from 1 to 16, no more calls than a hundred. -/
import Derived.Test.YtdelelpfombfbaaOwn
import Derived.Test.YtdelelpfombfbaaWait4
import Derived.Test.YtdelelpfombfbaaSpinMore
import Derived.Test.YtdelelpfombfbaaSem
import Derived.Test.YtdelelpfombfbaaMany6
import Derived.Test.YtdelelpfombfbaaLoPr
import Derived.Test.YtdelelpfombfbaaLoTk
import Derived.Test.YtdelelpfombfbaaSpr13
namespace Go.Proofs.Ytdelelpfombfbaa
open Go.ChangeShapes Go.WideShapes Go.ChangeAt Go.RowKit
set_option linter.unusedVariables false
def ThQ (p j : Nat) : Thing where
  is F w := ∃ l, QAt w F p l 0 0 (fun _ => none) ∧ l.length ≤ j ∧ ∀ x ∈ l, x.t ≤ 16
  keep := by rintro F H w w' ⟨l, h1, h2⟩ hc hd; exact ⟨l, h1.chg hc hd, h2⟩
  lt := by rintro F w ⟨l, h1, h2⟩ k hk; exact h1.lt k hk
def ThK (p : Nat) : Thing where
  is F w := F = One p ∧ ∃ c row, LockAt w p c row
  keep := by rintro F H w w' ⟨rfl, c, row, h1⟩ hc hd; exact ⟨rfl, c, row, h1.chg hc (hd p rfl)⟩
  lt := by rintro F w ⟨rfl, c, row, h1⟩ k hk; rw [show k = p from hk]; exact h1.lt
def ThL (p : Nat) : Thing where
  is F w := ∃ P o q, LkAt w F p 16 P o q
  keep := by rintro F H w w' ⟨P, o, q, h1⟩ hc hd; exact ⟨P, o, q, h1.chg hc hd⟩
  lt := by rintro F w ⟨P, o, q, h1⟩ k hk; exact h1.lt k hk
def ThLt (p : Nat) (t : Int) : Thing where
  is F w := ∃ P o q, LkAt w F p 16 P o q ∧ (P t).isSome = true
  keep := by rintro F H w w' ⟨P, o, q, h1, h2⟩ hc hd; exact ⟨P, o, q, h1.chg hc hd, h2⟩
  lt := by rintro F w ⟨P, o, q, h1, h2⟩ k hk; exact h1.lt k hk
def ThM (p j : Nat) : Thing where
  is F w := ∃ s, MnAt w F p s ∧ MOk s ∧ s.tot ≤ j
  keep := by rintro F H w w' ⟨s, h1, h2⟩ hc hd; exact ⟨s, h1.chg hc hd, h2⟩
  lt := by rintro F w ⟨s, h1, h2⟩ k hk; exact h1.lt k hk
def ThP (p j : Nat) : Thing where
  is F w := ∃ b q, PrAt w F p b q ∧ b < 256 ∧ (∀ i, i < 8 → (q i).length ≤ j) ∧ ∀ i, i < 8 → ∀ x ∈ q i, x ≤ 16
  keep := by rintro F H w w' ⟨b, q, h1, h2⟩ hc hd; exact ⟨b, q, h1.chg hc hd, h2⟩
  lt := by rintro F w ⟨b, q, h1, h2⟩ k hk; exact h1.lt k hk
def ThR (p j : Nat) : Thing where
  is F w := ∃ s, RunAt w F p s ∧ SOk (j : Int) s ∧ s.ts.length ≤ j
  keep := by rintro F H w w' ⟨s, h1, h2⟩ hc hd; exact ⟨s, h1.chg hc hd, h2⟩
  lt := by rintro F w ⟨s, h1, h2⟩ k hk; exact h1.lt k hk
def ThC (p j : Nat) : Thing where
  is F w := ∃ row, SemAt w F p 0 row ∧ row.length ≤ j ∧ ∀ x ∈ row, x ≤ 16
  keep := by rintro F H w w' ⟨l, h1, h2⟩ hc hd; exact ⟨l, h1.chg hc hd, h2⟩
  lt := by rintro F w ⟨l, h1, h2⟩ k hk; exact h1.lt k hk
def Ret (e : Ending) : Prop := ∃ v, e = .returned v
section
variable {Ts : List Thing} {w0 w : World} {i p j : Nat} {t : Int}
theorem own_q (h : Things Ts w0 w) (hi : Ts[i]? = some (ThQ p j)) (hj : j ≤ 100) (t1 : 1 ≤ t) (t2 : t ≤ 16) (al : Bool) :
    Calls Try.prog 18 #[.pointer (some ⟨p, 0, none⟩), .int .i64 t, .bool al] w fun e w' => Ret e ∧ Things (Ts.set i (ThQ p (j + 1))) w0 w' := by
  refine h.call hi (ThQ p (j + 1)) ?_
  rintro F ⟨l, h1, h2, h3⟩
  cases hw : waits l t with
  | true =>
    refine (qadd_has w F p l 0 0 _ t al h1 (by omega) t1 t2 hw).mono ?_
    rintro e w' ⟨F', rfl, k1, k2, k3⟩
    exact ⟨⟨_, rfl⟩, F', ⟨l, k1, by omega, h3⟩, k2, k3⟩
  | false =>
    refine (qadd_ok w F p l 0 0 _ t al h1 (by omega) t1 t2 hw).mono ?_
    rintro e w' ⟨F', rfl, k1, k2, k3⟩
    refine ⟨⟨_, rfl⟩, F', ⟨_, k1, by simp; omega, fun x hx => ?_⟩, k2, k3⟩
    rcases List.mem_append.1 hx with hx | hx
    · exact h3 x hx
    · rw [List.mem_singleton.1 hx]; exact t2
theorem own_k (h : Things Ts w0 w) (hi : Ts[i]? = some (ThK p)) (m : Nat) (hm : m < 4) :
    Calls Try.prog 19 #[.pointer (some ⟨p, 0, none⟩), .int .i64 (m : Int)] w fun e w' => Ret e ∧ Things (Ts.set i (ThK p)) w0 w' := by
  refine h.call hi (ThK p) ?_
  rintro F ⟨rfl, c, row, h1⟩
  by_cases hr : m ∈ row
  · refine (take_has m w p c row h1 hm hr).mono ?_
    rintro e w' ⟨rfl, rfl⟩
    exact ⟨⟨_, rfl⟩, One p, ⟨rfl, c, row, h1⟩, Chg.refl _ _, Grew.refl _ _⟩
  · refine (take_ok m w p c row h1 hm hr).mono ?_
    rintro e w' ⟨rfl, k1, k2⟩
    exact ⟨⟨_, rfl⟩, One p, ⟨rfl, c, _, k1⟩, k2, Grew.refl _ _⟩
theorem own_t (h : Things Ts w0 w) (hi : Ts[i]? = some (ThL p)) (t1 : 1 ≤ t) (t2 : t ≤ 16) (v : Int) (v1 : 0 ≤ v) (v2 : v < 8) :
    Calls Try.prog 20 #[.pointer (some ⟨p, 0, none⟩), .int .i64 t, .int .i64 v] w fun e w' => Ret e ∧ Things (Ts.set i (ThLt p t)) w0 w' := by
  refine h.call hi (ThLt p t) ?_
  rintro F ⟨P, o, q, h1⟩
  refine (ltask_ok w F p 16 P o q t v h1 t1 t2 v1 v2).mono ?_
  rintro e w' ⟨rfl, k1, k2⟩
  exact ⟨⟨_, rfl⟩, F, ⟨_, o, q, k1, by unfold updM; rw [if_pos rfl]; rfl⟩, k2, Grew.refl _ _⟩
theorem own_l (h : Things Ts w0 w) (hi : Ts[i]? = some (ThLt p t)) (t1 : 1 ≤ t) (t2 : t ≤ 16) (k : Nat) (hk : k < 16) :
    Calls Try.prog 21 #[.pointer (some ⟨p, 0, none⟩), .int .i64 t, .int .i64 (k : Int)] w fun e w' => Ret e ∧ Things (Ts.set i (ThL p)) w0 w' := by
  refine h.call hi (ThL p) ?_
  rintro F ⟨P, o, q, h1, h2⟩
  cases hw : waitK q t with
  | some n =>
    refine (ltake_state w F p 16 P o q t k h1 hk t1 t2 h2 (by rw [hw]; rfl)).mono ?_
    rintro e w' ⟨rfl, rfl⟩
    exact ⟨⟨_, rfl⟩, F, ⟨P, o, q, h1⟩, Chg.refl _ _, Grew.refl _ _⟩
  | none =>
    by_cases h0 : o k = 0
    · refine (ltake_free w F p 16 P o q t k h1 hk t1 t2 h2 hw h0).mono ?_
      rintro e w' ⟨rfl, k1, k2⟩
      exact ⟨⟨_, rfl⟩, F, ⟨P, _, q, k1⟩, k2, Grew.refl _ _⟩
    · refine (ltake_busy w F p 16 P o q t k h1 hk t1 t2 h2 hw h0).mono ?_
      rintro e w' (⟨_, rfl, rfl⟩ | ⟨_, rfl, F', k1, k2, k3⟩)
      · exact ⟨⟨_, rfl⟩, F, ⟨P, o, q, h1⟩, Chg.refl _ _, Grew.refl _ _⟩
      · exact ⟨⟨_, rfl⟩, F', ⟨P, o, _, k1⟩, k2, k3⟩
theorem own_m (h : Things Ts w0 w) (hi : Ts[i]? = some (ThM p j)) (hj : j ≤ 100) (t1 : 1 ≤ t) (t2 : t ≤ 16) (wt : Bool) :
    Calls Try.prog 22 #[.pointer (some ⟨p, 0, none⟩), .int .i64 t, .bool wt] w fun e w' => Ret e ∧ Things (Ts.set i (ThM p (j + 1))) w0 w' := by
  refine h.call hi (ThM p (j + 1)) ?_
  rintro F ⟨s, h1, h2, h3⟩
  refine (mtake_ok w F p s h1 (by unfold MS.tot at h3; omega) t t1 t2 wt).mono ?_
  rintro e w' ⟨F', rfl, k1, k2, k3⟩
  exact ⟨⟨_, rfl⟩, F', ⟨_, k1, h2.take t1 t2 wt, by have := (take_tot h2 t1 t2 wt).1; omega⟩, k2, k3⟩
theorem own_p (h : Things Ts w0 w) (hi : Ts[i]? = some (ThP p j)) (hj : j ≤ 100) (t1 : 1 ≤ t) (t2 : t ≤ 16) :
    Calls Try.prog 23 #[.pointer (some ⟨p, 0, none⟩), .int .i64 t, .int .i64 2] w fun e w' => Ret e ∧ Things (Ts.set i (ThP p (j + 1))) w0 w' := by
  refine h.call hi (ThP p (j + 1)) ?_
  rintro F ⟨b, q, h1, h2, h3, h4⟩
  by_cases hp : prOf q t 8 = -1
  · refine (pput_ok w F p b q t 2 h1 (fun i hi => by have := h3 i hi; omega) h2 t1 t2 (by omega) hp).mono ?_
    rintro e w' ⟨F', rfl, k1, k2, k3⟩
    refine ⟨⟨_, rfl⟩, F', ⟨_, _, k1, ?_, fun i hi => ?_, fun i hi x hx => ?_⟩, k2, k3⟩
    · exact Nat.or_lt_two_pow (n := 8) h2 (by decide)
    · unfold upF
      have := h3 i hi
      have h5 := h3 2 (by omega)
      split
      · simp; omega
      · omega
    · unfold upF at hx
      split at hx
      · rcases List.mem_append.1 hx with hx | hx
        · exact h4 2 (by omega) x hx
        · rw [List.mem_singleton.1 hx]; exact t2
      · exact h4 i hi x hx
  · have hle := (prOf_le q t 8).1
    refine (pput_there w F p b q t 2 h1 (fun i hi => by have := h3 i hi; omega) t1 t2 (by omega) (by omega)).mono ?_
    rintro e w' ⟨rfl, k2⟩
    exact ⟨⟨_, rfl⟩, F, ⟨b, q, h1.chg k2 (fun _ _ h => h), h2, fun i hi => by have := h3 i hi; omega, h4⟩, k2.mono (fun _ _ h => h.elim), Grew.refl _ _⟩
theorem own_r (h : Things Ts w0 w) (hi : Ts[i]? = some (ThR p j)) (hj : j ≤ 100) (t1 : 1 ≤ t) (t2 : t ≤ 16) :
    Calls Try.prog 24 #[.pointer (some ⟨p, 0, none⟩), .int .i64 t, .int .i64 2, .int .i64 2] w fun e w' => Ret e ∧ Things (Ts.set i (ThR p (j + 1))) w0 w' := by
  refine h.call hi (ThR p (j + 1)) ?_
  rintro F ⟨s, h1, h2, h3⟩
  refine (sadd_any w F p s h1 (j : Int) h2 (by omega) (by omega) t 2 2 t1 t2 rfl).mono ?_
  rintro e w' ⟨rfl, F', k1, k2, k3⟩
  refine ⟨⟨_, rfl⟩, F', ⟨_, k1, ?_, ?_⟩, k2, k3⟩
  · have := h2.add (by omega) t1 t2 (cl := 2) (va := 2) rfl
    rw [show ((j + 1 : Nat) : Int) = (j : Int) + 1 by omega]
    exact this
  · unfold SR.doAdd
    split
    · show (s.enter _).ts.length ≤ j + 1
      unfold SR.enter SR.fill SR.wait
      simp only
      rw [fillK_len, upd_len, List.length_append]
      simp; omega
    · show s.ts.length ≤ j + 1
      omega
theorem own_c (h : Things Ts w0 w) (hi : Ts[i]? = some (ThC p j)) (hj : j ≤ 100) (t1 : 1 ≤ t) (t2 : t ≤ 16) :
    Calls Try.prog 25 #[.pointer (some ⟨p, 0, none⟩), .int .i64 t] w fun e w' => Ret e ∧ Things (Ts.set i (ThC p (j + 1))) w0 w' := by
  refine h.call hi (ThC p (j + 1)) ?_
  rintro F ⟨row, h1, h2, h3⟩
  by_cases ht : t ∈ row
  · refine (down_has w F p 0 t row h1 (by omega) t1 t2 ht).mono ?_
    rintro e w' ⟨rfl, rfl⟩
    exact ⟨⟨_, rfl⟩, F, ⟨row, h1, by omega, h3⟩, Chg.refl _ _, Grew.refl _ _⟩
  · refine (down_wait w F p t row h1 (by omega) t1 t2 ht).mono ?_
    rintro e w' ⟨F', rfl, k1, k2, k3⟩
    refine ⟨⟨_, rfl⟩, F', ⟨_, k1, by simp; omega, fun x hx => ?_⟩, k2, k3⟩
    rcases List.mem_append.1 hx with hx | hx
    · exact h3 x hx
    · rw [List.mem_singleton.1 hx]; exact t2
/-- What is told. -/
theorem tell_q (h : Things Ts w0 w) (hi : Ts[i]? = some (ThQ p j)) (hj : j ≤ 100) :
    Calls Try.prog 26 #[.pointer (some ⟨p, 0, none⟩)] w fun e w' => ∃ a n c, e = .returned (.slice a n c) ∧ Things (ThI 1000 a n c :: Ts) w0 w' := by
  obtain ⟨F, ⟨l, h1, h2, h3⟩, _⟩ := h.get hi
  refine (qlist_ok w F p l 0 0 _ h1 (by omega)).mono ?_
  rintro e w' ⟨a, c, G, rfl, k1, k2, k3⟩
  refine ⟨a, _, c, rfl, h.told 1000 k1 k2 k3 (by omega) (fun z hz => ?_)⟩
  obtain ⟨x, hx, rfl⟩ := List.mem_map.1 hz
  exact h3 x hx
theorem tell_k (h : Things Ts w0 w) (hi : Ts[i]? = some (ThK p)) :
    Calls Try.prog 27 #[.pointer (some ⟨p, 0, none⟩)] w fun e w' => ∃ a n c, e = .returned (.slice a n c) ∧ Things (ThI 1000 a n c :: Ts) w0 w' := by
  obtain ⟨F, ⟨rfl, c, row, h1⟩, _⟩ := h.get hi
  have hl := h1.len
  have h4 : ∀ x ∈ row, x < 4 := by obtain ⟨hs, ts, _, hr⟩ := h1; exact hr.2.2.2.1
  refine (row_any w p c row h1).mono ?_
  rintro e w' ⟨a, cc, G, rfl, k1, k2, k3⟩
  refine ⟨a, _, cc, rfl, h.told 1000 k1 k2 k3 (by omega) (fun z hz => ?_)⟩
  obtain ⟨x, hx, rfl⟩ := List.mem_map.1 hz
  have := h4 x hx
  omega
theorem tell_l (h : Things Ts w0 w) (hi : Ts[i]? = some (ThL p)) (k : Nat) (hk : k < 16) :
    Calls Try.prog 28 #[.pointer (some ⟨p, 0, none⟩), .int .i64 (k : Int)] w fun e w' => ∃ a n c, e = .returned (.tuple #[.slice a n c, .int .i64 0]) ∧ Things (ThI 1000 a n c :: Ts) w0 w' := by
  obtain ⟨F, ⟨P, o, q, h1⟩, _⟩ := h.get hi
  have hl := lrow_len w F p 16 P o q k h1 hk
  refine (lrow_ok w F p 16 P o q k h1 hk).mono ?_
  rintro e w' ⟨a, c, G, rfl, k1, k2, k3⟩
  exact ⟨a, _, c, rfl, h.told 1000 k1 k2 k3 (by omega) (fun z hz => (h1.s.row k hk z hz).2)⟩
theorem tell_m (h : Things Ts w0 w) (hi : Ts[i]? = some (ThM p j)) (hj : j ≤ 100) :
    Calls Try.prog 29 #[.pointer (some ⟨p, 0, none⟩)] w fun e w' => ∃ a n c x b m d, e = .returned (.tuple #[.slice a n c, .int .i64 x, .slice b m d]) ∧ Things (ThI 1000 b m d :: ThI 1000 a n c :: Ts) w0 w' := by
  obtain ⟨F, ⟨s, h1, h2, h3⟩, _⟩ := h.get hi
  unfold MS.tot at h3
  refine (mholds_ok w F p s h1 (by omega)).mono ?_
  rintro e w' ⟨a, c, G, b, d, H, rfl, k1, k2, k3, k4, k5, k6⟩
  refine ⟨a, _, c, _, b, _, d, rfl, ?_⟩
  obtain ⟨h0, Fs, g1, g2, g3⟩ := h
  refine ⟨below_nil h0 k3, Opt H :: Opt G :: Fs, by simp [g1], ?_, fun i T F' hT hF => ?_⟩
  · have hs1 : Sep w0.heap.size w.heap.size Fs := g2
    refine ⟨fun i F' k hi hk => ?_, fun i i' F' G' hne hi hi' k hk hk' => ?_⟩
    · rcases i with _ | _ | i
      · simp at hi; subst hi; have := k5 k hk; have := h0.size; have := k2.lt k hk; omega
      · simp at hi; subst hi; have := k4 k hk; have := h0.size; have := k1.lt k hk; omega
      · simp at hi; have := hs1.1 i F' k hi hk; have := k3.size; omega
    · rcases i with _ | _ | i <;> rcases i' with _ | _ | i'
      · exact hne rfl
      · simp at hi hi'; subst hi; subst hi'; exact k6 k hk' hk
      · simp at hi hi'; subst hi; have := k5 k hk; have := hs1.1 i' G' k hi' hk'; omega
      · simp at hi hi'; subst hi; subst hi'; exact k6 k hk hk'
      · exact hne rfl
      · simp at hi hi'; subst hi; have := k4 k hk; have := hs1.1 i' G' k hi' hk'; omega
      · simp at hi hi'; subst hi'; have := k5 k hk'; have := hs1.1 i F' k hi hk; omega
      · simp at hi hi'; subst hi'; have := k4 k hk'; have := hs1.1 i F' k hi hk; omega
      · simp at hi hi'; exact hs1.2 i i' F' G' (by omega) hi hi' k hk hk'
  · rcases i with _ | _ | i
    · simp at hT hF; subst hT; subst hF
      refine ⟨H, _, rfl, k2, by omega, fun z hz => ?_⟩
      obtain ⟨x, hx, rfl⟩ := List.mem_map.1 hz
      exact (h2.q1 x hx).2
    · simp at hT hF; subst hT; subst hF
      refine ⟨G, _, rfl, k1, by omega, fun z hz => ?_⟩
      unfold sortI at hz
      rw [List.mem_mergeSort] at hz
      exact (h2.r1 z hz).2
    · simp at hT hF
      exact T.keep (g3 i T F' hT hF) k3 (fun _ _ h => h)
theorem tell_p (h : Things Ts w0 w) (hi : Ts[i]? = some (ThP p j)) (hj : j ≤ 100) :
    Calls Try.prog 30 #[.pointer (some ⟨p, 0, none⟩), .int .i64 2] w fun e w' => ∃ a n c, e = .returned (.tuple #[.slice a n c, .int .i64 0]) ∧ Things (ThI 1000 a n c :: Ts) w0 w' := by
  obtain ⟨F, ⟨b, q, h1, h2, h3, h4⟩, _⟩ := h.get hi
  have hl := h3 2 (by omega)
  refine (plist_ok w F p b q 2 h1 (by omega) (by omega)).mono ?_
  rintro e w' ⟨a, c, G, rfl, k1, k2, k3⟩
  exact ⟨a, _, c, rfl, h.told 1000 k1 k2 k3 (by omega) (fun z hz => h4 2 (by omega) z hz)⟩
theorem tell_r (h : Things Ts w0 w) (hi : Ts[i]? = some (ThR p j)) (hj : j ≤ 100) :
    Calls Try.prog 31 #[.pointer (some ⟨p, 0, none⟩)] w fun e w' => ∃ a n c, e = .returned (.slice a n c) ∧ Things (ThI 1000 a n c :: Ts) w0 w' := by
  obtain ⟨F, ⟨s, h1, h2, h3⟩, _⟩ := h.get hi
  refine (stasks_ok w F p s h1 (j : Int) h2).mono ?_
  rintro e w' ⟨a, n, c, rfl, G, rfl, k1, k2, k3⟩
  have hl := tasK_len s 16
  refine ⟨a, _, c, rfl, h.told 1000 k1 k2 k3 (by omega) (fun z hz => ?_)⟩
  unfold tasK at hz
  obtain ⟨x, hx, rfl⟩ := List.mem_map.1 hz
  have := List.mem_range.1 (List.mem_filter.1 hx).1
  omega
theorem tell_c (h : Things Ts w0 w) (hi : Ts[i]? = some (ThC p j)) (hj : j ≤ 100) :
    Calls Try.prog 32 #[.pointer (some ⟨p, 0, none⟩)] w fun e w' => ∃ x a n c, e = .returned (.tuple #[.int .i64 x, .slice a n c]) ∧ Things (ThI 1000 a n c :: Ts) w0 w' := by
  obtain ⟨F, ⟨row, h1, h2, h3⟩, _⟩ := h.get hi
  refine (count_ok w F p 0 row h1 (by omega)).mono ?_
  rintro e w' ⟨a, c, G, rfl, k1, k2, k3⟩
  exact ⟨_, a, _, c, rfl, h.told 1000 k1 k2 k3 (by omega) h3⟩
end
end Go.Proofs.Ytdelelpfombfbaa
