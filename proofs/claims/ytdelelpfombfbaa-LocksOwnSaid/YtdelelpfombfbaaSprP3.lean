/- Plain model of package spread, on: who runs, who is best, what a tick and fill make of a run. No program in sight; no condition. -/
import Derived.Test.YtdelelpfombfbaaSpr11
namespace Go.Proofs.Ytdelelpfombfbaa
set_option linter.unusedVariables false
theorem on_is {ts : List ST} {i : Nat} {x : ST} {c : Int} (hx : ts[i]? = some x) (hc : x.cpu = c) (hu : ∀ (j : Nat) (y : ST), ts[j]? = some y → y.cpu = c → j = i) : onI ts c = some i := by
  refine idx_some (x := x) (fun j y hj hy => ?_) hx (by simp [hc])
  rw [decide_eq_false_iff_not]
  intro h
  have := hu j y hy h
  omega
theorem on_no {ts : List ST} {c : Int} (hu : ∀ (j : Nat) (y : ST), ts[j]? = some y → y.cpu ≠ c) : onI ts c = none := by
  refine idx_none (k := ts.length) (fun j y hj hy => ?_) (Nat.le_refl _)
  rw [decide_eq_false_iff_not]
  exact hu j y hy
theorem on_none_iff {ts : List ST} {c : Int} (h : onI ts c = none) : ∀ (j : Nat) (y : ST), ts[j]? = some y → y.cpu ≠ c := by
  intro j y hy he
  have := idx_not h y (List.mem_of_getElem? hy)
  rw [decide_eq_false_iff_not] at this
  exact this he
theorem fnd_is {ts : List ST} {i : Nat} {x : ST} {c : Int} (hx : ts[i]? = some x) (hc : x.t = c) (hu : ∀ (j : Nat) (y : ST), ts[j]? = some y → y.t = c → j = i) : fndI ts c = some i := by
  refine idx_some (x := x) (fun j y hj hy => ?_) hx (by simp [hc])
  rw [decide_eq_false_iff_not]
  intro h
  have := hu j y hy h
  omega
theorem fnd_no {ts : List ST} {c : Int} (hu : ∀ (j : Nat) (y : ST), ts[j]? = some y → y.t ≠ c) : fndI ts c = none := by
  refine idx_none (k := ts.length) (fun j y hj hy => ?_) (Nat.le_refl _)
  rw [decide_eq_false_iff_not]
  exact hu j y hy
theorem best_no {ts : List ST} {c : Nat} (h : ∀ (j : Nat) (y : ST), ts[j]? = some y → waitB y = true → pinB y c = true → False) : bestI ts c = none := by
  cases hb : bestI ts c with
  | none => rfl
  | some j =>
    obtain ⟨_, x, hx, hw, hp⟩ := bestK_lt hb
    exact (h j x hx hw hp).elim
theorem best_is {ts : List ST} {c i : Nat} {x : ST} (hx : ts[i]? = some x) (hw : waitB x = true) (hp : pinB x c = true) (h : ∀ (j : Nat) (y : ST), ts[j]? = some y → j ≠ i → waitB y = true → pinB y c = true → Better x y) : bestI ts c = some i := by
  cases hb : bestI ts c with
  | none => exact (bestK_none hb (List.getElem?_eq_some_iff.1 hx).1 hx ⟨hw, hp⟩).elim
  | some j =>
    obtain ⟨_, y, hy, hw', hp'⟩ := bestK_lt hb
    by_cases hji : j = i
    · rw [hji]
    · exact (bestK_best hb hy (List.getElem?_eq_some_iff.1 hx).1 hx hw hp (h j y hy hji hw' hp')).elim
theorem upd_upd (ts : List ST) (i : Nat) (f g : ST → ST) : upd (upd ts i f) i g = upd ts i (fun x => g (f x)) := by
  cases h : ts[i]? with
  | none => unfold upd; simp [h]
  | some x =>
    have h2 : (upd ts i f)[i]? = some (f x) := by rw [upd_get, if_pos rfl, h]; rfl
    rw [upd_of h2, upd_of h, upd_of h, set_set]
theorem on_upd {ts : List ST} {i : Nat} {f : ST → ST} (hf : ∀ x, ts[i]? = some x → (f x).cpu = x.cpu) (c : Int) : onI (upd ts i f) c = onI ts c := by
  cases h : ts[i]? with
  | none => have : upd ts i f = ts := by unfold upd; rw [h]
            rw [this]
  | some x =>
    cases ho : onI ts c with
    | none =>
      refine on_no (fun j y hy he => ?_)
      rw [upd_get] at hy
      split at hy
      · rename_i hij
        subst hij
        rw [h] at hy
        injection hy with hy
        subst hy
        rw [hf x h] at he
        exact on_none_iff ho _ x h he
      · exact on_none_iff ho j y hy he
    | some k =>
      obtain ⟨y, hy, hyc, hn⟩ := idx_get ho
      by_cases hik : i = k
      · subst hik
        rw [h] at hy
        injection hy with hy
        subst hy
        refine idx_some (x := f x) (fun j z hj hz => ?_) (by rw [upd_get, if_pos rfl, h]; rfl) (by simp [hf x h]; exact of_decide_eq_true hyc)
        rw [upd_get, if_neg (by omega)] at hz
        exact hn j z hj hz
      · refine idx_some (x := y) (fun j z hj hz => ?_) (by rw [upd_get, if_neg hik]; exact hy) hyc
        rw [upd_get] at hz
        split at hz
        · rename_i hij
          subst hij
          rw [h] at hz
          injection hz with hz
          subst hz
          have := hn i x hj h
          rw [decide_eq_false_iff_not] at this ⊢
          rw [hf x h]
          exact this
        · exact hn j z hj hz
theorem run_cpu (x : ST) : (runT x).cpu = x.cpu := by unfold runT; split <;> (try split) <;> rfl
theorem run_o {x : ST} (h : x.cl ≠ 3) (ho : x.o = false) : (runT x).o = false := by
  unfold runT
  split
  · exact ho
  · rw [if_neg (fun hh => h hh.1)]; exact ho
theorem ref_no {now : Int} {x : ST} (h : x.o = false) : refT now x = x := by unfold refT; rw [h]; simp
theorem ref_id {now : Int} {ts : List ST} (h : ∀ x ∈ ts, x.o = false) : ts.map (refT now) = ts := by
  induction ts with
  | nil => rfl
  | cons x ts ih => rw [List.map_cons, ref_no (h x (by simp)), ih (fun y hy => h y (List.mem_cons_of_mem _ hy))]
/-- What a tick makes of who ran. -/
def gone (st : Int) (x : ST) : ST := { runT x with cpu := -1, si := st + 1 }
theorem tick_calm {s : SR} {c : Int} {i : Nat} (h : onI s.ts c = some i) (ho : ∀ x ∈ s.ts, x.o = false) (h3 : ∀ x, s.ts[i]? = some x → x.cl ≠ 3) : s.tick c = (⟨s.n, s.tk + 1, s.st + 1, upd s.ts i (gone s.st)⟩ : SR).fill := by
  have e1 : s.tick1 c = { s with tk := s.tk + 1, ts := upd s.ts i runT } := by unfold SR.tick1; rw [h]
  have hid : (upd s.ts i runT).map (refT (s.tick1 c).time) = upd s.ts i runT := by
    refine ref_id (fun x hx => ?_)
    rcases upd_mem hx with hx | ⟨y, hy, rfl⟩
    · exact ho x hx
    · exact run_o (h3 y hy) (ho y (List.mem_of_getElem? hy))
  have e2 : s.tick2 c = { s with tk := s.tk + 1, ts := upd s.ts i runT } := by
    unfold SR.tick2
    rw [show (s.tick1 c).ts = upd s.ts i runT by rw [e1], hid, e1]
  have hon : onI (s.tick2 c).ts c = some i := by rw [e2]; show onI (upd s.ts i runT) c = _; rw [on_upd (fun x _ => run_cpu x)]; exact h
  unfold SR.tick SR.tick3
  rw [hon]
  show ((s.tick2 c).wait i).fill = _
  rw [e2]
  unfold SR.wait
  show SR.fill ⟨s.n, s.tk + 1, s.st + 1, upd (upd s.ts i runT) i (fun x => { x with cpu := -1, si := s.st + 1 })⟩ = _
  rw [upd_upd]
  rfl
theorem fill_one {s : SR} (hn : s.n = 1) : s.fill = match onI s.ts 0 with
    | some _ => s
    | none => match bestI s.ts 0 with
      | none => s
      | some i => { s with ts := upd s.ts i (fun x => { x with cpu := 0 }) } := by
  have e1 : s.fill = { s with ts := fillK s.ts 1 } := by unfold SR.fill; rw [hn]
  rw [e1]
  have h0 : fillK s.ts 0 = s.ts := rfl
  cases ho : onI s.ts 0 with
  | some i =>
    have := @fillK_on s.ts 0 i (by rw [h0]; exact ho)
    rw [this, h0]
  | none =>
    cases hb : bestI s.ts 0 with
    | none =>
      have := @fillK_no s.ts 0 (by rw [h0]; exact ho) (by rw [h0]; exact hb)
      rw [this, h0]
    | some i =>
      have := @fillK_to s.ts 0 i (by rw [h0]; exact ho) (by rw [h0]; exact hb)
      rw [this, h0]
      rfl
theorem fill_one_on {s : SR} {i : Nat} (hn : s.n = 1) (h : onI s.ts 0 = some i) : s.fill = s := by rw [fill_one hn, h]
theorem fill_one_to {s : SR} {i : Nat} (hn : s.n = 1) (h : onI s.ts 0 = none) (hb : bestI s.ts 0 = some i) : s.fill = { s with ts := upd s.ts i (fun x => { x with cpu := 0 }) } := by rw [fill_one hn, h]; simp only; rw [hb]
end Go.Proofs.Ytdelelpfombfbaa
