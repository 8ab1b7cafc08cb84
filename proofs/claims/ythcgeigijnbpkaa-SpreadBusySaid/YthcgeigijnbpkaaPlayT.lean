/- Each call that a law plays: what it answers, and what is noted then. Conditions: a run and its notes. -/
import Derived.Test.YthcgeigijnbpkaaPlayS
namespace Go.Proofs.Ythcgeigijnbpkaa
open Go.ChangeShapes Go.WideShapes Go.ChangeAt Go.RowKit
set_option linter.unusedVariables false
/-- A call's answer r and what it makes: nothing noted if it refuses, o' if it does it. -/
def PlR (c : Nat) (M : Int) (a : SR × Int) (o o' : Note) : Prop := (a.2 ≠ 0 ∧ PlS c (M + 1) a.1 o) ∨ (a.2 = 0 ∧ PlS c (M + 1) a.1 o')
section
variable {c : Nat} {M : Int} {s : SR} {o : Note}
theorem pl_len (h : PlS c M s o) : s.ts.length ≤ 16 := by
  have hnd : (s.ts.map (fun v => v.t.toNat - 1)).Nodup := by
    unfold List.Nodup
    rw [List.pairwise_map, List.pairwise_iff_getElem]
    intro i j hi hj hij he
    have h1 := h.ok.each _ (List.getElem_mem hi)
    have h2 := h.ok.each _ (List.getElem_mem hj)
    have := h.inv.toInvP.num i j _ _ (List.getElem?_eq_getElem hi) (List.getElem?_eq_getElem hj) (by have := h1.t1; have := h2.t1; omega)
    omega
  have hb : ∀ x ∈ s.ts.map (fun v => v.t.toNat - 1), x < 16 := by
    intro x hx
    obtain ⟨v, hv, rfl⟩ := List.mem_map.1 hx
    have h1 := h.ok.each _ hv
    have := h1.t1
    have := h1.t2
    omega
  have := nodup_bound 16 _ hnd hb
  rwa [List.length_map] at this
theorem pr_add (h : PlS c M s o) {t : Nat} (t1 : 1 ≤ t) (t2 : t ≤ 16) {cl va : Int} (hv : valB cl va = true) : PlR c M (s.doAdd t cl va) o (noteN o t false (2 ^ c - 1 : Nat)) := by
  rcases pl_who h t1 t2 with ⟨hw, hi, hl, hno⟩ | ⟨i, x, hw, hx, hN⟩
  · refine .inr ?_
    unfold SR.doAdd
    rw [hw]
    have h0 : 0 ≤ M := Int.le_trans h.ok.tk1 h.ok.tk2
    have hcl : decide ((newS t cl va).cl = 3) = false := by
      rw [decide_eq_false_iff_not]
      show ¬ cl = 3
      rintro rfl
      cases hv
    refine ⟨rfl, ?_⟩
    have := h.enter t1 t2 (x := newS t cl va) rfl rfl hno (fun hc => by rw [decide_eq_false_iff_not] at hcl; exact absurd hc hcl) (newS_ok h0 (by omega) (by omega) hv) rfl hl
    rwa [hcl] at this
  · refine .inl ?_
    unfold SR.doAdd
    rw [hw]
    exact ⟨by simp, h.same⟩
theorem pr_dead (h : PlS c M s o) {t : Nat} (t1 : 1 ≤ t) (t2 : t ≤ 16) {b q : Nat} (b1 : 1 ≤ b) (b2 : b ≤ q) (q2 : q ≤ 30) : PlR c M (s.doDead t b q) o (noteN o t true (2 ^ c - 1 : Nat)) := by
  rcases pl_who h t1 t2 with ⟨hw, hi, hl, hno⟩ | ⟨i, x, hw, hx, hN⟩
  · unfold SR.doDead
    rw [hw]
    by_cases hf : fitsB s ⟨b, q⟩ = true
    · refine .inr ?_
      simp only [hf, if_true]
      exact ⟨trivial, h.enter t1 t2 (x := newD s t b q) rfl rfl hno (fun _ => ⟨by show (1 : Int) ≤ (b : Int); omega, by show (b : Int) ≤ (q : Int); omega, by show (q : Int) ≤ 30; omega⟩) (newD_ok h.ok (by omega) (by omega) b1 b2 q2) rfl hl⟩
    · refine .inl ?_
      simp only [hf]
      exact ⟨by simp, h.same⟩
  · refine .inl ?_
    unfold SR.doDead
    rw [hw]
    exact ⟨by simp, h.same⟩
theorem pr_leave (h : PlS c M s o) {t : Nat} (t1 : 1 ≤ t) (t2 : t ≤ 16) : PlR c M (s.doLeave t) o (noteO o t) := by
  unfold SR.doLeave
  rcases pl_who h t1 t2 with ⟨hw, hi, hl, hno⟩ | ⟨i, x, hw, hx, hN⟩
  · rw [hw]
    exact .inl ⟨by simp, h.same⟩
  · rw [hw]
    exact .inr ⟨rfl, h.leave hx hN⟩
theorem pr_block (h : PlS c M s o) {t : Nat} (t1 : 1 ≤ t) (t2 : t ≤ 16) : PlR c M (s.doBlock t) o (noteR o t false) := by
  unfold SR.doBlock
  rcases pl_who h t1 t2 with ⟨hw, hi, hl, hno⟩ | ⟨i, x, hw, hx, hN⟩
  · rw [hw]
    exact .inl ⟨by simp, h.same⟩
  · rw [hw]
    by_cases hr : x.r = true
    · simp only [hr, if_true]
      exact .inr ⟨rfl, h.block hx hN⟩
    · simp only [hr]
      exact .inl ⟨by simp, h.same⟩
theorem pr_wake (h : PlS c M s o) {t : Nat} (t1 : 1 ≤ t) (t2 : t ≤ 16) : PlR c M (s.doWake t) o (noteR o t true) := by
  unfold SR.doWake
  rcases pl_who h t1 t2 with ⟨hw, hi, hl, hno⟩ | ⟨i, x, hw, hx, hN⟩
  · rw [hw]
    exact .inl ⟨by simp, h.same⟩
  · rw [hw]
    by_cases hr : x.r = true
    · simp only [hr, if_true]
      exact .inl ⟨by simp, h.same⟩
    · simp only [hr]
      exact .inr ⟨rfl, h.wake hx hN⟩
theorem pr_pin (h : PlS c M s o) {t : Nat} (t1 : 1 ≤ t) (t2 : t ≤ 16) {m : Nat} (hm : m < 16) : PlR c M (s.doPin t m) o (noteP o t m) := by
  unfold SR.doPin
  rcases pl_who h t1 t2 with ⟨hw, hi, hl, hno⟩ | ⟨i, x, hw, hx, hN⟩
  · rw [hw]
    exact .inl ⟨by simp, h.same⟩
  · rw [hw]
    exact .inr ⟨rfl, h.pin hx hN hm⟩
theorem pr_boost (h : PlS c M s o) {t : Nat} (t1 : 1 ≤ t) (t2 : t ≤ 16) {va : Int} (h1 : 0 ≤ va) (h2 : va ≤ 100) : PlR c M (s.doBoost t 2 va) o (noteM o t true) := by
  unfold SR.doBoost
  rcases pl_who h t1 t2 with ⟨hw, hi, hl, hno⟩ | ⟨i, x, hw, hx, hN⟩
  · rw [hw]
    exact .inl ⟨by simp, h.same⟩
  · rw [hw]
    exact .inr ⟨rfl, h.boost hx hN h1 h2⟩
theorem pr_calm (h : PlS c M s o) {t : Nat} (t1 : 1 ≤ t) (t2 : t ≤ 16) : PlR c M (s.doCalm t) o (noteM o t false) := by
  unfold SR.doCalm
  rcases pl_who h t1 t2 with ⟨hw, hi, hl, hno⟩ | ⟨i, x, hw, hx, hN⟩
  · rw [hw]
    exact .inl ⟨by simp, h.same⟩
  · rw [hw]
    by_cases hr : x.mo = 0
    · simp only [hr, if_true]
      exact .inl ⟨by simp, h.same⟩
    · simp only [hr, if_false]
      exact .inr ⟨rfl, h.calm hx hN⟩
end
/-- A run and its notes, in memory. -/
def PlM (w0 : World) (p b c : Nat) (M : Int) (w : World) : Prop := ∃ s o, RunX w0 [b] p s w ∧ Blk w b 44 (noteC o) ∧ PlS c M s o
theorem PlM.drewN {w0 w : World} {p b c : Nat} {M : Int} (h : PlM w0 p b c M w) (q : Nat) : PlM w0 p b c M (w.drewN q) := by
  obtain ⟨s, o, h1, h2, h3⟩ := h
  exact ⟨s, o, h1.drewN q, h2.drewN q, h3⟩
/-- A run of which a call was asked that is not yet noted. -/
def PlN (w0 : World) (p b c : Nat) (M : Int) (f : Note → Note) (w : World) : Prop := ∃ s o, RunX w0 [b] p s w ∧ Blk w b 44 (noteC o) ∧ PlS c M s (f o)
/-- What a call's answer is and what is to be noted. -/
def PlQ (w0 : World) (p b c : Nat) (M : Int) (f : Note → Note) (e : Ending) (w : World) : Prop := ∃ r, e = .returned (.int .i64 r) ∧ ((r ≠ 0 ∧ PlM w0 p b c M w) ∨ (r = 0 ∧ PlN w0 p b c M f w))
theorem plq_of {w0 w : World} {p b c : Nat} {M : Int} {s : SR} {o : Note} {a : SR × Int} {f : Note → Note} (hb : Blk w b 44 (noteC o)) (hr : PlR c M a o (f o)) {e : Ending} {w' : World} (h : PX w0 [b] p a.1 a.2 w e w') : PlQ w0 p b c (M + 1) f e w' := by
  obtain ⟨rfl, h1, h2⟩ := h
  refine ⟨_, rfl, ?_⟩
  rcases hr with ⟨k1, k2⟩ | ⟨k1, k2⟩
  · exact .inl ⟨k1, _, o, h1, h2 b (by simp) _ _ hb, k2⟩
  · exact .inr ⟨k1, _, o, h1, h2 b (by simp) _ _ hb, k2⟩
section
variable {w0 w : World} {p b c : Nat} {M : Int}
theorem pq_add (h : PlM w0 p b c M w) (hM : M ≤ 1000000) {t : Nat} (t1 : 1 ≤ t) (t2 : t ≤ 16) {cl va : Int} (hv : valB cl va = true) :
    Calls Try.prog 14 #[.pointer (some ⟨p, 0, none⟩), .int .i64 t, .int .i64 cl, .int .i64 va] w (PlQ w0 p b c (M + 1) (fun o => noteN o t false (2 ^ c - 1 : Nat))) := by
  obtain ⟨s, o, h1, h2, h3⟩ := h
  exact (rx_add h1 h3.ok hM (by have := pl_len h3; omega) t cl va (by omega) (by omega) hv).mono (fun e w' hp => plq_of (s := s) h2 (pr_add h3 t1 t2 hv) hp)
theorem pq_dead (h : PlM w0 p b c M w) (hM : M ≤ 1000000) {t : Nat} (t1 : 1 ≤ t) (t2 : t ≤ 16) {b' q : Nat} (b1 : 1 ≤ b') (b2 : b' ≤ q) (q2 : q ≤ 30) :
    Calls Try.prog 34 #[.pointer (some ⟨p, 0, none⟩), .int .i64 t, .int .i64 (b' : Int), .int .i64 (q : Int)] w (PlQ w0 p b c (M + 1) (fun o => noteN o t true (2 ^ c - 1 : Nat))) := by
  obtain ⟨s, o, h1, h2, h3⟩ := h
  refine (rx_dead h1 h3.ok hM h3.bud t b' q (by omega) (by omega) b1 b2 q2 (fun hw => ?_)).mono (fun e w' hp => plq_of (s := s) h2 (pr_dead h3 t1 t2 b1 b2 q2) hp)
  rcases pl_who h3 t1 t2 with ⟨_, _, hl, _⟩ | ⟨i, x, hw', _⟩
  · exact hl
  · rw [hw] at hw'; cases hw'
theorem pq_leave (h : PlM w0 p b c M w) {t : Nat} (t1 : 1 ≤ t) (t2 : t ≤ 16) :
    Calls Try.prog 43 #[.pointer (some ⟨p, 0, none⟩), .int .i64 t] w (PlQ w0 p b c (M + 1) (fun o => noteO o t)) := by
  obtain ⟨s, o, h1, h2, h3⟩ := h
  exact (rx_leave h1 h3.ok t).mono (fun e w' hp => plq_of (s := s) h2 (pr_leave h3 t1 t2) hp)
theorem pq_block (h : PlM w0 p b c M w) {t : Nat} (t1 : 1 ≤ t) (t2 : t ≤ 16) :
    Calls Try.prog 23 #[.pointer (some ⟨p, 0, none⟩), .int .i64 t] w (PlQ w0 p b c (M + 1) (fun o => noteR o t false)) := by
  obtain ⟨s, o, h1, h2, h3⟩ := h
  exact (rx_block h1 h3.ok t).mono (fun e w' hp => plq_of (s := s) h2 (pr_block h3 t1 t2) hp)
theorem pq_wake (h : PlM w0 p b c M w) (hM : M ≤ 1000000) {t : Nat} (t1 : 1 ≤ t) (t2 : t ≤ 16) :
    Calls Try.prog 24 #[.pointer (some ⟨p, 0, none⟩), .int .i64 t] w (PlQ w0 p b c (M + 1) (fun o => noteR o t true)) := by
  obtain ⟨s, o, h1, h2, h3⟩ := h
  exact (rx_wake h1 h3.ok hM t).mono (fun e w' hp => plq_of (s := s) h2 (pr_wake h3 t1 t2) hp)
theorem pq_boost (h : PlM w0 p b c M w) {t : Nat} (t1 : 1 ≤ t) (t2 : t ≤ 16) {va : Int} (h1 : 0 ≤ va) (h2 : va < 8) :
    Calls Try.prog 21 #[.pointer (some ⟨p, 0, none⟩), .int .i64 t, .int .i64 2, .int .i64 va] w (PlQ w0 p b c (M + 1) (fun o => noteM o t true)) := by
  obtain ⟨s, o, k1, k2, k3⟩ := h
  exact (rx_boost k1 k3.ok t 2 va (by simp [valB]; omega)).mono (fun e w' hp => plq_of (s := s) k2 (pr_boost k3 t1 t2 h1 (by omega)) hp)
theorem pq_calm (h : PlM w0 p b c M w) (hM : M ≤ 1000000) {t : Nat} (t1 : 1 ≤ t) (t2 : t ≤ 16) :
    Calls Try.prog 22 #[.pointer (some ⟨p, 0, none⟩), .int .i64 t] w (PlQ w0 p b c (M + 1) (fun o => noteM o t false)) := by
  obtain ⟨s, o, h1, h2, h3⟩ := h
  exact (rx_calm h1 h3.ok hM t).mono (fun e w' hp => plq_of (s := s) h2 (pr_calm h3 t1 t2) hp)
theorem pq_pin (h : PlM w0 p b c M w) (hM : M ≤ 1000000) {t : Nat} (t1 : 1 ≤ t) (t2 : t ≤ 16) {m : Nat} (m1 : 1 ≤ m) (m2 : m < 2 ^ c) :
    Calls Try.prog 15 #[.pointer (some ⟨p, 0, none⟩), .int .i64 t, .int .i64 m] w (PlQ w0 p b c (M + 1) (fun o => noteP o t m)) := by
  obtain ⟨s, o, h1, h2, h3⟩ := h
  have hc : c ≤ 4 := by rw [← h3.nn]; exact h3.ok.n2
  have : 2 ^ c ≤ 2 ^ 4 := Nat.pow_le_pow_right (by omega) hc
  exact (rx_pin h1 h3.ok hM t m m1 (by rw [h3.nn]; exact m2)).mono (fun e w' hp => plq_of (s := s) h2 (pr_pin h3 t1 t2 (by omega)) hp)
theorem pq_tick (h : PlM w0 p b c M w) (hM : M ≤ 1000000) (q : Nat) (hq : q < c) :
    Calls Try.prog 16 #[.pointer (some ⟨p, 0, none⟩), .int .i64 q] w (fun e w' => e = .returned (.int .i64 0) ∧ PlM w0 p b c (M + 1) w') := by
  obtain ⟨s, o, h1, h2, h3⟩ := h
  refine (rx_tick h1 h3.ok hM q (by rw [h3.nn]; exact hq)).mono ?_
  rintro e w' ⟨rfl, k1, k2⟩
  exact ⟨rfl, _, o, k1, k2 b (by simp) _ _ h2, h3.tick q⟩
end
/-- A store into the notes. -/
theorem pln_put {w0 w : World} {p b : Nat} {s : SR} (h1 : RunX w0 [b] p s w) {cs cs' : List Value} (h2 : Blk w b 44 cs) {i : Nat} {v : Value} (he : cs.set i v = cs') : RunX w0 [b] p s (w.setCell ⟨b, i, none⟩ v) ∧ Blk (w.setCell ⟨b, i, none⟩ v) b 44 cs' := by
  refine ⟨h1.put (by simp) v, ?_⟩
  rw [← he]
  exact h2.set i v
/-- A row of rows of numbers, that is read. -/
theorem IsRows.row {k : IntKind} {w w' : World} {a : Option Addr} {len cap : Nat} {zs : List (List Int)} (h : IsRows k w a len cap zs) (hb : Below w.heap.size w w') (i : Nat) (hi : i < len) :
    ∃ g off a' n' c', a = some ⟨g, off, none⟩ ∧ w'.cell? ⟨g, off + i, none⟩ = some (.slice a' n' c') ∧ ∃ z, Rd w' (Upto w.heap.size) 1 a' n' c' (ints k z) ∧ n' ≤ c' ∧ c' ≤ 9223372036854775807 ∧ z.length = n' := by
  obtain ⟨xs, h1, h2, h3⟩ := h
  obtain ⟨g, off, r1, r2, r3, r4⟩ := h1.cellAt (by omega)
  obtain ⟨a', n', c', e1, e2⟩ := h3 i (by omega)
  refine ⟨g, off, a', n', c', r1, ?_, _, e2.1.chg (Chg.of_below hb Nil) (fun _ _ _ h => h), e2.1.1, e2.1.2.1, e2.1.ilen⟩
  rw [hb.cell (p := ⟨g, off + i, none⟩) r2, r4 i hi, e1]
theorem IsRows.bd {k : IntKind} {w : World} {a : Option Addr} {len cap : Nat} {zs : List (List Int)} (h : IsRows k w a len cap zs) : len ≤ 9223372036854775807 ∧ len ≤ cap ∧ cap ≤ 9223372036854775807 := by
  obtain ⟨xs, h1, _⟩ := h
  have h2 := h1.1
  have h3 := h1.2.1
  unfold maxLen at h3
  omega
end Go.Proofs.Ythcgeigijnbpkaa
