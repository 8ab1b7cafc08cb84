/- Plain model of package spread on several processors: what fill leaves, whatever was asked. No program in sight; no condition. -/
import Derived.Test.YthcgeigijnbpkaaSprN
namespace Go.Proofs.Ythcgeigijnbpkaa
set_option linter.unusedVariables false
/-- Nobody runs where somebody else runs. -/
def Cpu1 (ts : List ST) : Prop := ∀ (i j : Nat) (x y : ST), ts[i]? = some x → ts[j]? = some y → x.cpu = y.cpu → 0 ≤ x.cpu → i = j
theorem wait_cpu {x : ST} (h : waitB x = true) : x.cpu < 0 ∧ x.r = true := by
  unfold waitB at h
  simp only [Bool.and_eq_true, decide_eq_true_eq] at h
  exact ⟨h.1.2, h.1.1⟩
/-- What fill may do with a task. -/
def Filled (k : Nat) (x y : ST) : Prop := ∃ c, y = { x with cpu := c } ∧ (c = x.cpu ∨ (waitB x = true ∧ 0 ≤ c ∧ c < k ∧ pinB x c.toNat = true))
theorem fillK_rel (ts : List ST) (k : Nat) : ∀ (i : Nat) (x : ST), ts[i]? = some x → ∃ y, (fillK ts k)[i]? = some y ∧ Filled k x y := by
  induction k with
  | zero => intro i x hx; exact ⟨x, hx, x.cpu, rfl, .inl rfl⟩
  | succ k ih =>
    intro i x hx
    obtain ⟨y, hy, c, hc, hcc⟩ := ih i x hx
    have weak : Filled (k + 1) x y := ⟨c, hc, hcc.imp id (fun h => ⟨h.1, h.2.1, by omega, h.2.2.2⟩)⟩
    cases ho : onI (fillK ts k) k with
    | some j => rw [fillK_on j ho]; exact ⟨y, hy, weak⟩
    | none =>
      cases hb : bestI (fillK ts k) k with
      | none => rw [fillK_no ho hb]; exact ⟨y, hy, weak⟩
      | some j =>
        rw [fillK_to j ho hb]
        by_cases hji : j = i
        · subst hji
          obtain ⟨_, z, hz, hw, hp⟩ := bestK_lt hb
          rw [hy] at hz
          injection hz with hz
          subst hz
          refine ⟨{ y with cpu := k }, by rw [upd_get, if_pos rfl, hy]; rfl, k, by rw [hc], .inr ?_⟩
          have hwc := (wait_cpu hw).1
          rw [hc] at hwc
          have hwc' : c < 0 := hwc
          have hcx : c = x.cpu := hcc.elim id (fun h => by omega)
          have hyx : y = x := by rw [hc, hcx]
          rw [hyx] at hw hp
          exact ⟨hw, by omega, by omega, by simpa using hp⟩
        · exact ⟨y, by rw [upd_get, if_neg hji]; exact hy, weak⟩
theorem fillK_uniq {ts : List ST} (h : Cpu1 ts) (k : Nat) : Cpu1 (fillK ts k) := by
  induction k with
  | zero => exact h
  | succ k ih =>
    cases ho : onI (fillK ts k) k with
    | some j => rw [fillK_on j ho]; exact ih
    | none =>
      cases hb : bestI (fillK ts k) k with
      | none => rw [fillK_no ho hb]; exact ih
      | some m =>
        rw [fillK_to m ho hb]
        have hno := on_none_iff ho
        intro i j x y hx hy hxy h0
        rw [upd_get] at hx hy
        split at hx
        · rename_i hi
          split at hy
          · rename_i hj; omega
          · exfalso
            cases hz : (fillK ts k)[i]? with
            | none => rw [hz] at hx; cases hx
            | some z =>
              rw [hz] at hx
              simp at hx
              subst hx
              exact hno j y hy hxy.symm
        · split at hy
          · exfalso
            cases hz : (fillK ts k)[j]? with
            | none => rw [hz] at hy; cases hy
            | some z =>
              rw [hz] at hy
              simp at hy
              subst hy
              exact hno i x hx hxy
          · exact ih i j x y hx hy hxy h0
theorem fillK_full (ts : List ST) (k : Nat) : ∀ j, j < k → onI (fillK ts k) j = none → ∀ (i : Nat) (x : ST), (fillK ts k)[i]? = some x → ¬ (waitB x = true ∧ pinB x j = true) := by
  induction k with
  | zero => intro j hj; omega
  | succ k ih =>
    intro j hj hon i x hx
    cases ho : onI (fillK ts k) k with
    | some m =>
      rw [fillK_on m ho] at hon hx
      by_cases hjk : j = k
      · subst hjk; rw [ho] at hon; cases hon
      · exact ih j (by omega) hon i x hx
    | none =>
      cases hb : bestI (fillK ts k) k with
      | none =>
        rw [fillK_no ho hb] at hon hx
        by_cases hjk : j = k
        · subst hjk
          exact bestK_none hb (List.getElem?_eq_some_iff.1 hx).1 hx
        · exact ih j (by omega) hon i x hx
      | some m =>
        rw [fillK_to m ho hb] at hon hx
        have hno := on_none_iff hon
        obtain ⟨_, z, hz, _⟩ := bestK_lt hb
        by_cases hjk : j = k
        · subst hjk
          exact (hno m { z with cpu := j } (by rw [upd_get, if_pos rfl, hz]; rfl) rfl).elim
        · rw [upd_get] at hx
          split at hx
          · rename_i hi
            subst hi
            rw [hz] at hx
            simp at hx
            subst hx
            rintro ⟨hw, _⟩
            have := (wait_cpu hw).1
            have h2 : ((k : Nat) : Int) < 0 := this
            omega
          · refine ih j (by omega) (on_no (fun q y hy hc => ?_)) i x hx
            by_cases hqm : m = q
            · subst hqm
              rw [hz] at hy
              injection hy with hy
              subst hy
              have := (bestK_lt hb).2
              obtain ⟨u, hu, hw, _⟩ := this
              rw [hz] at hu
              injection hu with hu
              subst hu
              have := (wait_cpu hw).1
              omega
            · exact hno q y (by rw [upd_get, if_neg hqm]; exact hy) hc
/-- A run ahead of fill: numbers apart, processors apart, who runs is ready and may run there. -/
structure InvP (s : SR) : Prop where
  num : ∀ (i j : Nat) (x y : ST), s.ts[i]? = some x → s.ts[j]? = some y → x.t = y.t → i = j
  cpu : Cpu1 s.ts
  each : ∀ (i : Nat) (x : ST), s.ts[i]? = some x → x.cpu = -1 ∨ (0 ≤ x.cpu ∧ x.cpu < s.n ∧ x.r = true ∧ pinB x x.cpu.toNat = true)
/-- A run behind fill: no processor is idle where somebody waits. -/
structure InvS (s : SR) : Prop extends InvP s where
  full : ∀ k, k < s.n → onI s.ts k = none → ∀ (i : Nat) (x : ST), s.ts[i]? = some x → ¬ (waitB x = true ∧ pinB x k = true)
theorem fill_get {s : SR} {i : Nat} {y : ST} (h : s.fill.ts[i]? = some y) : ∃ x, s.ts[i]? = some x ∧ Filled s.n x y := by
  have hl : i < s.ts.length := by
    have := (List.getElem?_eq_some_iff.1 h).1
    have e : s.fill.ts.length = s.ts.length := fillK_len s.ts s.n
    omega
  obtain ⟨x, hx⟩ : ∃ x, s.ts[i]? = some x := ⟨_, List.getElem?_eq_getElem hl⟩
  obtain ⟨z, hz, hf⟩ := fillK_rel s.ts s.n i x hx
  have h' : (fillK s.ts s.n)[i]? = some y := h
  rw [hz] at h'
  injection h' with h'
  subst h'
  exact ⟨x, hx, hf⟩
theorem InvP.fill {s : SR} (h : InvP s) : InvS s.fill := by
  refine { num := ?_, cpu := fillK_uniq h.cpu s.n, each := ?_, full := fun k hk => fillK_full s.ts s.n k hk }
  · intro i j x y hx hy hxy
    obtain ⟨x', hx', c, rfl, _⟩ := fill_get hx
    obtain ⟨y', hy', d, rfl, _⟩ := fill_get hy
    exact h.num i j x' y' hx' hy' hxy
  · intro i x hx
    obtain ⟨x', hx', c, rfl, hc⟩ := fill_get hx
    rcases hc with rfl | ⟨h1, h2, h3, h4⟩
    · exact h.each i x' hx'
    · exact .inr ⟨h2, h3, (wait_cpu h1).2, h4⟩
theorem inv_new (n : Nat) : InvS ⟨n, 0, 0, []⟩ := { num := fun i j x y h => by simp at h, cpu := fun i j x y h => by simp at h, each := fun i x h => by simp at h, full := fun k hk ho i x h => by simp at h }
/-- One task is put anew: it runs as it ran, or not at all. -/
theorem InvP.upd {s s' : SR} (h : InvP s) {i : Nat} {f : ST → ST} (hn : s'.n = s.n) (hts : s'.ts = Go.Proofs.Ythcgeigijnbpkaa.upd s.ts i f) (ht : ∀ x, (f x).t = x.t) (hc : ∀ x, s.ts[i]? = some x → (f x).cpu = -1 ∨ ((f x).cpu = x.cpu ∧ ((f x).r = x.r) ∧ (x.cpu = -1 ∨ pinB (f x) x.cpu.toNat = true))) : InvP s' := by
  have key : ∀ (j : Nat) (y : ST), s'.ts[j]? = some y → ∃ x, s.ts[j]? = some x ∧ ((j ≠ i ∧ y = x) ∨ (j = i ∧ y = f x)) := by
    intro j y hy
    rw [hts, upd_get] at hy
    split at hy
    · rename_i hij
      subst hij
      cases hz : s.ts[i]? with
      | none => rw [hz] at hy; cases hy
      | some z => rw [hz] at hy; simp at hy; exact ⟨z, rfl, .inr ⟨rfl, hy.symm⟩⟩
    · rename_i hij
      exact ⟨y, hy, .inl ⟨fun h => hij h.symm, rfl⟩⟩
  have kc : ∀ (j : Nat) (y : ST), s'.ts[j]? = some y → ∃ x, s.ts[j]? = some x ∧ y.t = x.t ∧ (y.cpu = -1 ∨ y.cpu = x.cpu) := by
    intro j y hy
    obtain ⟨x, hx, ⟨_, rfl⟩ | ⟨rfl, rfl⟩⟩ := key j y hy
    · exact ⟨y, hx, rfl, .inr rfl⟩
    · exact ⟨x, hx, ht x, (hc x hx).imp id (fun h => h.1)⟩
  refine ⟨fun a b x y hx hy hxy => ?_, fun a b x y hx hy hxy h0 => ?_, fun a x hx => ?_⟩
  · obtain ⟨x', hx', e1, _⟩ := kc a x hx
    obtain ⟨y', hy', e2, _⟩ := kc b y hy
    exact h.num a b x' y' hx' hy' (by rw [← e1, ← e2, hxy])
  · obtain ⟨x', hx', _, e1⟩ := kc a x hx
    obtain ⟨y', hy', _, e2⟩ := kc b y hy
    have e1' : x.cpu = x'.cpu := e1.elim (fun h => by omega) id
    have e2' : y.cpu = y'.cpu := e2.elim (fun h => by omega) id
    exact h.cpu a b x' y' hx' hy' (by omega) (by omega)
  · obtain ⟨x', hx', ⟨_, rfl⟩ | ⟨rfl, rfl⟩⟩ := key a x hx
    · rw [hn]; exact h.each a x hx'
    · rcases hc x' hx' with h1 | ⟨h1, h2, h3⟩
      · exact .inl h1
      · rcases h.each a x' hx' with h4 | ⟨h4, h5, h6, h7⟩
        · exact .inl (by rw [h1]; exact h4)
        · refine .inr ⟨by rw [h1]; exact h4, by rw [h1, hn]; exact h5, by rw [h2]; exact h6, ?_⟩
          rw [h1]
          exact h3.elim (fun hh => by omega) id
theorem InvP.same {s s' : SR} (h : InvP s) (hn : s'.n = s.n) (hts : s'.ts = s.ts) : InvP s' := ⟨by rw [hts]; exact h.num, by rw [hts]; exact h.cpu, by rw [hts, hn]; exact h.each⟩
theorem InvP.wait {s : SR} (h : InvP s) (i : Nat) : InvP (s.wait i) := h.upd (f := fun x => { x with cpu := -1, si := s.st + 1 }) rfl rfl (fun x => rfl) (fun x _ => .inl rfl)
/-- Changes that do not ask where a task runs. -/
theorem InvP.map {s s' : SR} (h : InvP s) {f : ST → ST} (hn : s'.n = s.n) (hts : s'.ts = s.ts.map f) (hf : ∀ x, (f x).t = x.t ∧ (f x).cpu = x.cpu ∧ (f x).r = x.r ∧ (f x).pin = x.pin) : InvP s' := by
  have key : ∀ (j : Nat) (y : ST), s'.ts[j]? = some y → ∃ x, s.ts[j]? = some x ∧ y = f x := by
    intro j y hy
    rw [hts, List.getElem?_map] at hy
    cases hz : s.ts[j]? with
    | none => rw [hz] at hy; cases hy
    | some z => rw [hz] at hy; simp at hy; exact ⟨z, rfl, hy.symm⟩
  refine ⟨fun a b x y hx hy hxy => ?_, fun a b x y hx hy hxy h0 => ?_, fun a x hx => ?_⟩
  · obtain ⟨x', hx', rfl⟩ := key a x hx
    obtain ⟨y', hy', rfl⟩ := key b y hy
    exact h.num a b x' y' hx' hy' (by rw [(hf x').1, (hf y').1] at hxy; exact hxy)
  · obtain ⟨x', hx', rfl⟩ := key a x hx
    obtain ⟨y', hy', rfl⟩ := key b y hy
    rw [(hf x').2.1] at hxy h0
    rw [(hf y').2.1] at hxy
    exact h.cpu a b x' y' hx' hy' hxy h0
  · obtain ⟨x', hx', rfl⟩ := key a x hx
    obtain ⟨_, g2, g3, g4⟩ := hf x'
    have hp : pinB (f x') = pinB x' := by unfold pinB; rw [g4]
    rw [g2, g3, hn, hp]
    exact h.each a x' hx'
theorem ref_f (now : Int) (x : ST) : (refT now x).t = x.t ∧ (refT now x).cpu = x.cpu ∧ (refT now x).r = x.r ∧ (refT now x).pin = x.pin := by unfold refT; split <;> exact ⟨rfl, rfl, rfl, rfl⟩
theorem run_f (x : ST) : (runT x).t = x.t ∧ (runT x).cpu = x.cpu ∧ (runT x).r = x.r ∧ (runT x).pin = x.pin ∧ (runT x).cl = x.cl ∧ (runT x).mo = x.mo := by
  unfold runT
  split
  · exact ⟨rfl, rfl, rfl, rfl, rfl, rfl⟩
  · split <;> exact ⟨rfl, rfl, rfl, rfl, rfl, rfl⟩
theorem InvP.tick {s : SR} (h : InvP s) (c : Int) : InvS (s.tick c) := by
  have h1 : InvP (s.tick1 c) := by
    unfold SR.tick1
    split
    · exact h.same rfl rfl
    · rename_i i _
      refine h.upd (i := i) (f := runT) rfl rfl (fun x => (run_f x).1) (fun x hx => .inr ⟨(run_f x).2.1, (run_f x).2.2.1, ?_⟩)
      rcases h.each i x hx with h2 | ⟨_, _, _, h2⟩
      · exact .inl h2
      · refine .inr ?_
        unfold pinB
        rw [(run_f x).2.2.2.1]
        exact h2
  have h2 : InvP (s.tick2 c) := h1.map rfl rfl (ref_f _)
  have h3 : InvP (s.tick3 c) := by
    unfold SR.tick3
    split
    · exact h2
    · exact h2.wait _
  exact h3.fill
end Go.Proofs.Ythcgeigijnbpkaa
