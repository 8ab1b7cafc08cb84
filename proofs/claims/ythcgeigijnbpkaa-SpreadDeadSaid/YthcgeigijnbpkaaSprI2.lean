/- Plain model of package spread on several processors, on: each call leaves no processor idle where somebody waits. No program in sight; no condition. -/
import Derived.Test.YthcgeigijnbpkaaSprI
namespace Go.Proofs.Ythcgeigijnbpkaa
set_option linter.unusedVariables false
theorem InvP.block {s : SR} (h : InvP s) (i : Nat) : InvS (s.block i) := (h.upd (s' := { s with ts := Go.Proofs.Ythcgeigijnbpkaa.upd s.ts i (fun x => { x with r := false, cpu := -1 }) }) rfl rfl (fun x => rfl) (fun x _ => .inl rfl)).fill
theorem wok_t (s : SR) (x : ST) : (wokS s x).t = x.t ∧ (wokS s x).pin = x.pin ∧ (wokS s x).cl = x.cl ∧ (wokS s x).mo = x.mo ∧ (wokS s x).o = x.o ∧ (wokS s x).r = true ∧ (wokS s x).cpu = x.cpu ∧ (wokS s x).va = x.va ∧ (wokS s x).wi = x.wi ∧ (wokS s x).pe = x.pe ∧ (wokS s x).bu = x.bu := by
  by_cases h1 : x.cl = 1
  · cases hl : lowI s.ts with
    | none => rw [← wok_fair0 h1 hl]; exact ⟨rfl, rfl, rfl, rfl, rfl, rfl, rfl, rfl, rfl, rfl, rfl⟩
    | some m => rw [← wok_fair1 h1 hl]; exact ⟨rfl, rfl, rfl, rfl, rfl, rfl, rfl, rfl, rfl, rfl, rfl⟩
  · by_cases h3 : x.cl = 3 ∧ x.o = false ∧ (x.du ≤ s.time ∨ (x.du - s.time) * x.bu < x.le * x.pe)
    · rw [← wok_dead h1 h3]; exact ⟨rfl, rfl, rfl, rfl, rfl, rfl, rfl, rfl, rfl, rfl, rfl⟩
    · rw [← wok_else h1 h3]; exact ⟨rfl, rfl, rfl, rfl, rfl, rfl, rfl, rfl, rfl, rfl, rfl⟩
theorem InvP.wake {s : SR} (h : InvP s) (i : Nat) : InvS (s.wake i) :=
  (h.upd (s' := ({ s with ts := Go.Proofs.Ythcgeigijnbpkaa.upd s.ts i (wokS s) } : SR).wait i) (i := i) (f := fun x => { wokS s x with cpu := -1, si := s.st + 1 }) rfl
    (upd_upd s.ts i (wokS s) (fun x => { x with cpu := -1, si := s.st + 1 })) (fun x => (wok_t s x).1) (fun x _ => .inl rfl)).fill
theorem InvP.boostP {s : SR} (h : InvP s) (i : Nat) (cl va : Int) : InvP { s with ts := Go.Proofs.Ythcgeigijnbpkaa.upd s.ts i (fun x => { x with mo := cl, wi := va }) } :=
  h.upd (f := fun x => { x with mo := cl, wi := va }) rfl rfl (fun x => rfl) (fun x hx => .inr ⟨rfl, rfl, by
    rcases h.each i x hx with h2 | ⟨_, _, _, h2⟩
    · exact .inl h2
    · exact .inr h2⟩)
theorem InvP.boost {s : SR} (h : InvP s) (i : Nat) (cl va : Int) : InvS (s.boost i cl va) := (h.boostP i cl va).fill
theorem InvS.calm {s : SR} (h : InvS s) (i : Nat) : InvS (s.calm i) := by
  unfold SR.calm
  split
  · exact h
  · split
    · exact ((h.toInvP.boostP i 0 0).wait i).fill
    · exact (h.toInvP.boostP i 0 0).fill
theorem InvS.pinTo {s : SR} (h : InvS s) (i m : Nat) : InvS (s.pinTo i m) := by
  unfold SR.pinTo
  split
  · exact h
  · rename_i x hx
    split
    · exact (h.toInvP.upd (s' := ({ s with ts := Go.Proofs.Ythcgeigijnbpkaa.upd s.ts i (fun x => { x with pin := m }) } : SR).wait i) (i := i) (f := fun x => { x with pin := m, cpu := -1, si := s.st + 1 }) rfl
        (upd_upd s.ts i (fun x => { x with pin := m }) (fun x => { x with cpu := -1, si := s.st + 1 })) (fun x => rfl) (fun x _ => .inl rfl)).fill
    · rename_i hc
      refine (h.toInvP.upd (s' := { s with ts := Go.Proofs.Ythcgeigijnbpkaa.upd s.ts i (fun x => { x with pin := m }) }) (i := i) (f := fun x => { x with pin := m }) rfl rfl (fun x => rfl) (fun y hy => .inr ⟨rfl, rfl, ?_⟩)).fill
      rw [hx] at hy
      injection hy with hy
      subst hy
      rcases h.each i x hx with h2 | ⟨h2, _, _, _⟩
      · exact .inl h2
      · refine .inr ?_
        show m.testBit x.cpu.toNat = true
        cases hb : m.testBit x.cpu.toNat with
        | true => rfl
        | false => exact absurd ⟨h2, hb⟩ hc
theorem erase_get {ts : List ST} {i j : Nat} {x : ST} (h : (ts.eraseIdx i)[j]? = some x) : ts[if j < i then j else j + 1]? = some x := by
  rw [List.getElem?_eraseIdx] at h
  split at h
  · rw [if_pos ‹_›]; exact h
  · rw [if_neg ‹_›]; exact h
theorem InvP.leave {s : SR} (h : InvP s) (i : Nat) : InvS (s.leave i) := by
  have h1 : InvP { s with ts := s.ts.eraseIdx i } := by
    refine ⟨fun a b x y hx hy hxy => ?_, fun a b x y hx hy hxy h0 => ?_, fun a x hx => h.each _ x (erase_get hx)⟩
    · have := h.num _ _ x y (erase_get hx) (erase_get hy) hxy
      split at this <;> split at this <;> omega
    · have := h.cpu _ _ x y (erase_get hx) (erase_get hy) hxy h0
      split at this <;> split at this <;> omega
  exact h1.fill
theorem InvP.enter {s : SR} (h : InvP s) {x : ST} (hx : ∀ y ∈ s.ts, y.t ≠ x.t) : InvS (s.enter x) := by
  have h1 : InvP (({ s with ts := s.ts ++ [entT s x] } : SR).wait s.ts.length) := by
    have hts : (({ s with ts := s.ts ++ [entT s x] } : SR).wait s.ts.length).ts = s.ts ++ [{ entT s x with cpu := -1, si := s.st + 1 }] := by
      show Go.Proofs.Ythcgeigijnbpkaa.upd (s.ts ++ [entT s x]) s.ts.length _ = _
      rw [upd_of (x := entT s x) (by simp)]
      simp
    have key : ∀ (j : Nat) (y : ST), (({ s with ts := s.ts ++ [entT s x] } : SR).wait s.ts.length).ts[j]? = some y → s.ts[j]? = some y ∨ (j = s.ts.length ∧ y = { entT s x with cpu := -1, si := s.st + 1 }) := by
      intro j y hy
      rw [hts] at hy
      by_cases hj : j < s.ts.length
      · rw [List.getElem?_append_left hj] at hy; exact .inl hy
      · rw [List.getElem?_append_right (by omega)] at hy
        have hj2 : j - s.ts.length = 0 := by
          have := (List.getElem?_eq_some_iff.1 hy).1
          simp at this
          omega
        rw [hj2] at hy
        simp at hy
        exact .inr ⟨by omega, hy.symm⟩
    refine ⟨fun a b u v hu hv huv => ?_, fun a b u v hu hv huv h0 => ?_, fun a u hu => ?_⟩
    · rcases key a u hu with hu | ⟨ha, rfl⟩ <;> rcases key b v hv with hv | ⟨hb, rfl⟩
      · exact h.num a b u v hu hv huv
      · exact absurd huv (hx u (List.mem_of_getElem? hu))
      · exact absurd huv.symm (hx v (List.mem_of_getElem? hv))
      · omega
    · rcases key a u hu with hu | ⟨ha, rfl⟩ <;> rcases key b v hv with hv | ⟨hb, rfl⟩
      · exact h.cpu a b u v hu hv huv h0
      · have hv' : u.cpu = -1 := huv; omega
      · have h0' : (0 : Int) ≤ -1 := h0; omega
      · omega
    · rcases key a u hu with hu | ⟨ha, rfl⟩
      · exact h.each a u hu
      · exact .inl rfl
  exact h1.fill
theorem who_none_iff {s : SR} {t : Int} (h : s.who t = none) : ∀ y ∈ s.ts, y.t ≠ t := by
  unfold SR.who at h
  cases hf : fndI s.ts t with
  | none =>
    intro y hy he
    have := idx_not hf y hy
    rw [decide_eq_false_iff_not] at this
    exact this he
  | some i =>
    obtain ⟨x, hx, _⟩ := fnd_get hf
    rw [hf] at h
    simp only [hx] at h
    cases h
theorem who_get {s : SR} {t : Int} {i : Nat} {x : ST} (h : s.who t = some (i, x)) : s.ts[i]? = some x ∧ x.t = t := by
  cases hf : fndI s.ts t with
  | none => rw [who_none hf] at h; cases h
  | some j =>
    obtain ⟨y, hy, hyt⟩ := fnd_get hf
    rw [who_some hf hy] at h
    injection h with h
    injection h with h1 h2
    subst h1; subst h2
    exact ⟨hy, hyt⟩
theorem who_is {s : SR} (h : InvP s) {t : Int} {i : Nat} {x : ST} (hx : s.ts[i]? = some x) (ht : x.t = t) : s.who t = some (i, x) :=
  who_some (fnd_is hx ht (fun j y hy hc => h.num j i y x hy hx (by omega))) hx
theorem InvS.doAdd {s : SR} (h : InvS s) (t cl va : Int) : InvS (s.doAdd t cl va).1 := by
  unfold SR.doAdd
  split
  · rename_i hw; exact h.toInvP.enter (who_none_iff hw)
  · exact h
theorem InvS.doBlock {s : SR} (h : InvS s) (t : Int) : InvS (s.doBlock t).1 := by
  unfold SR.doBlock
  split
  · exact h
  · split
    · exact h.toInvP.block _
    · exact h
theorem InvS.doWake {s : SR} (h : InvS s) (t : Int) : InvS (s.doWake t).1 := by
  unfold SR.doWake
  split
  · exact h
  · split
    · exact h
    · exact h.toInvP.wake _
theorem InvS.doLeave {s : SR} (h : InvS s) (t : Int) : InvS (s.doLeave t).1 := by
  unfold SR.doLeave
  split
  · exact h
  · exact h.toInvP.leave _
theorem InvS.doBoost {s : SR} (h : InvS s) (t cl va : Int) : InvS (s.doBoost t cl va).1 := by
  unfold SR.doBoost
  split
  · exact h
  · exact h.toInvP.boost _ _ _
theorem InvS.doCalm {s : SR} (h : InvS s) (t : Int) : InvS (s.doCalm t).1 := by
  unfold SR.doCalm
  split
  · exact h
  · split
    · exact h
    · exact h.calm _
theorem InvS.doPin {s : SR} (h : InvS s) (t : Int) (m : Nat) : InvS (s.doPin t m).1 := by
  unfold SR.doPin
  split
  · exact h
  · exact h.pinTo _ _
/-- How many processors are busy. -/
def busyN (s : SR) : Nat := ((List.range s.n).filter (fun (k : Nat) => (onI s.ts (k : Int)).isSome)).length
/-- Who runs, and where, one by one. -/
theorem busy_run {s : SR} (h : InvP s) : busyN s = (s.ts.filter (fun x => decide (0 ≤ x.cpu))).length := by
  have hm : busyN s = ((s.ts.filter (fun x => decide (0 ≤ x.cpu))).map (fun x => x.cpu.toNat)).length := by
    unfold busyN
    refine List.Perm.length_eq ((List.perm_ext_iff_of_nodup (List.nodup_range.filter _) ?_).2 (fun k => ?_))
    · unfold List.Nodup
      rw [List.pairwise_map, List.pairwise_iff_getElem]
      intro a b ha hb hab he
      have key : ∀ c (hc : c < (s.ts.filter (fun x => decide (0 ≤ x.cpu))).length), 0 ≤ ((s.ts.filter (fun x => decide (0 ≤ x.cpu)))[c]).cpu := fun c hc => by
        have := (List.mem_filter.1 (List.getElem_mem hc)).2
        exact of_decide_eq_true this
      have k1 := key a ha
      have k2 := key b hb
      have hp : (s.ts.filter (fun x => decide (0 ≤ x.cpu))).Pairwise (fun x y => 0 ≤ x.cpu → x.cpu ≠ y.cpu) := by
        refine List.Pairwise.sublist List.filter_sublist ?_
        rw [List.pairwise_iff_getElem]
        intro i j hi hj hij h0 hc
        have := h.cpu i j _ _ (List.getElem?_eq_getElem hi) (List.getElem?_eq_getElem hj) hc h0
        omega
      have := List.pairwise_iff_getElem.1 hp a b ha hb hab k1
      omega
    · rw [List.mem_filter, List.mem_range, List.mem_map]
      constructor
      · rintro ⟨hk, ho⟩
        cases hon : onI s.ts k with
        | none => rw [hon] at ho; cases ho
        | some i =>
          obtain ⟨x, hx, hc⟩ := on_get hon
          exact ⟨x, List.mem_filter.2 ⟨List.mem_of_getElem? hx, by simp; omega⟩, by omega⟩
      · rintro ⟨x, hx, rfl⟩
        obtain ⟨hx1, hx2⟩ := List.mem_filter.1 hx
        have h0 : 0 ≤ x.cpu := of_decide_eq_true hx2
        obtain ⟨i, hi⟩ := List.mem_iff_getElem?.1 hx1
        rcases h.each i x hi with h1 | ⟨_, h1, _, _⟩
        · omega
        · refine ⟨by omega, ?_⟩
          rw [on_is hi (c := ((x.cpu.toNat : Nat) : Int)) (by omega) (fun j y hy hc => h.cpu j i y x hy hi (by omega) (by omega))]
          rfl
  rw [hm, List.length_map]
/-- Where all may run everywhere, and nobody has used up a budget: as many run as are ready, or as there are processors. -/
theorem busy_all {s : SR} (h : InvS s) (hp : ∀ x ∈ s.ts, ∀ k, k < s.n → pinB x k = true) (ho : ∀ x ∈ s.ts, x.o = false) : busyN s = min s.n (s.ts.filter (fun x => x.r)).length := by
  have hle : busyN s ≤ (s.ts.filter (fun x => x.r)).length := by
    rw [busy_run h.toInvP]
    have e : s.ts.filter (fun x => decide (0 ≤ x.cpu)) = (s.ts.filter (fun x => x.r)).filter (fun x => decide (0 ≤ x.cpu)) := by
      rw [List.filter_filter]
      refine List.filter_congr (fun x hx => ?_)
      obtain ⟨i, hi⟩ := List.mem_iff_getElem?.1 hx
      rcases h.each i x hi with h1 | ⟨_, _, h1, _⟩
      · simp [h1]
      · simp [h1]
    rw [e]
    exact List.length_filter_le _ _
  by_cases hall : ∀ k, k < s.n → (onI s.ts k).isSome = true
  · have : busyN s = s.n := by
      unfold busyN
      rw [List.filter_eq_self.2 (fun k hk => hall k (List.mem_range.1 hk)), List.length_range]
    omega
  · have hex : ∃ k, k < s.n ∧ onI s.ts k = none := by
      refine Classical.byContradiction (fun hh => hall (fun k hk => ?_))
      cases hon : onI s.ts k with
      | some i => rfl
      | none => exact absurd ⟨k, hk, hon⟩ hh
    obtain ⟨k, hk, hon⟩ := hex
    have he : s.ts.filter (fun x => decide (0 ≤ x.cpu)) = s.ts.filter (fun x => x.r) := by
      refine List.filter_congr (fun x hx => ?_)
      obtain ⟨i, hi⟩ := List.mem_iff_getElem?.1 hx
      rcases h.each i x hi with h1 | ⟨h0, _, h1, _⟩
      · have hnw := h.full k hk hon i x hi
        have hxo := ho x hx
        cases hr : x.r with
        | false => simp [h1]
        | true => exact absurd ⟨one_wait hr hxo h1, hp x hx k hk⟩ hnw
      · simp [h0, h1]
    have h2 := busy_run h.toInvP
    rw [he] at h2
    have h3 : busyN s ≤ s.n := by
      unfold busyN
      refine Nat.le_trans (List.length_filter_le _ _) (by rw [List.length_range]; exact Nat.le_refl _)
    omega
end Go.Proofs.Ythcgeigijnbpkaa
