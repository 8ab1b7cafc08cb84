/- Plain facts on tasks that weigh the same, of which one sleeps and is woken: it has saved nothing up. No program in sight; no condition. -/
import Derived.Test.YtpafafleepcjdaaAlikeP
namespace Go.Proofs.Ytpafafleepcjdaa
open Go.RowKit
set_option linter.unusedVariables false
/-- While one sleeps. -/
structure SlpI (k wt u m : Nat) (ts : List FT) : Prop where
  inv : NInv (m * 1048576) k ts
  each : ∀ (i : Nat) x, ts[i]? = some x → x.w = wt ∧ x.r = decide (i ≠ u) ∧ (i = u → x.v = 0)
  near : ∀ (i j : Nat) x y, ts[i]? = some x → ts[j]? = some y → i ≠ u → j ≠ u → x.v ≤ y.v + cost wt
theorem slp_new {k : Nat} {z : Int} {u : Nat} {x : FT} (hk : k ≤ 16) (hx : (mkF (List.replicate k z) k)[u]? = some x) : SlpI k (wtF z) u 0 ((mkF (List.replicate k z) k).set u { x with r := false }) := by
  have hA := alike_new k z hk
  have hu : u < k := by have := (List.getElem?_eq_some_iff.1 hx).1; rwa [mkF_len] at this
  have ex := hA.each u x hx
  have hv : ∀ (i : Nat) y, (mkF (List.replicate k z) k)[i]? = some y → y.v = 0 := fun i y hy => by
    have := (hA.each i y hy).2.2
    simpa using this
  have get : ∀ (i : Nat) y, ((mkF (List.replicate k z) k).set u { x with r := false })[i]? = some y → (i = u ∧ y = { x with r := false }) ∨ (i ≠ u ∧ (mkF (List.replicate k z) k)[i]? = some y) := fun i y hy => by
    rw [List.getElem?_set] at hy
    split at hy
    · rename_i h
      split at hy
      · injection hy with hy; exact .inl ⟨h.symm, hy.symm⟩
      · cases hy
    · rename_i h; exact .inr ⟨fun hh => h hh.symm, hy⟩
  refine ⟨?_, fun i y hy => ?_, fun i j y y' hy hy' _ _ => ?_⟩
  · have h0 := mkF_inv (List.replicate k z) k hk
    have hox := h0.ok x (List.mem_of_getElem? hx)
    rw [Nat.zero_mul]
    exact h0.set hx rfl (Nat.le_refl _) ⟨hox.t1, hox.t2, hox.w1, hox.w2, hox.g0, hox.v2⟩
  · rcases get i y hy with ⟨rfl, rfl⟩ | ⟨hne, hy⟩
    · exact ⟨ex.2.1, by simp, fun _ => hv _ x hx⟩
    · obtain ⟨e1, e2, _⟩ := hA.each i y hy
      exact ⟨e2, by simp [e1, hne], fun h => absurd h hne⟩
  · have h1 : y.v = 0 := by
      rcases get i y hy with ⟨rfl, rfl⟩ | ⟨_, hy⟩
      · exact hv _ x hx
      · exact hv i y hy
    omega
theorem slp_tick {k wt u m : Nat} {ts : List FT} (h : SlpI k wt u m ts) (hk : 2 ≤ k) (hu : u < k) {b : Option Nat} (hb : FFirst ts ts.length b) : ∃ j, j < k ∧ j ≠ u ∧ b = some j ∧ SlpI k wt u (m + 1) (tickF ts b) := by
  have hlen := h.inv.len
  cases b with
  | none =>
    obtain ⟨i, hi, hiu⟩ : ∃ i, i < k ∧ i ≠ u := by
      by_cases h0 : u = 0
      · exact ⟨1, by omega, by omega⟩
      · exact ⟨0, by omega, by omega⟩
    have := hb i _ (by omega) (List.getElem?_eq_getElem (by omega))
    rw [(h.each i _ (List.getElem?_eq_getElem (by omega))).2.1] at this
    simp [hiu] at this
  | some j =>
    obtain ⟨y, hj, hy, hr, hmin⟩ := hb
    have hju : j ≠ u := by
      have := (h.each j y hy).2.1
      rw [hr] at this
      simpa using this.symm
    have hyw := (h.each j y hy).1
    refine ⟨j, by omega, hju, rfl, ?_, fun i x hx => ?_, fun i l x z hx hz hi hl => ?_⟩
    · have := h.inv.tick (some j)
      rw [Nat.add_mul, Nat.one_mul]; exact this
    · rw [tickF_get] at hx
      cases hv : ts[i]? with
      | none => rw [hv] at hx; cases hx
      | some v =>
        rw [hv] at hx
        simp only [Option.map_some, Option.some.injEq] at hx
        obtain ⟨e1, e2, e3⟩ := h.each i v hv
        rw [← hx]
        by_cases hij : j = i
        · subst hij
          rw [if_pos rfl]
          exact ⟨e1, e2, fun hh => absurd hh hju⟩
        · rw [if_neg (by simpa using hij)]
          exact ⟨e1, e2, e3⟩
    · rw [tickF_get] at hx hz
      cases hv : ts[i]? with
      | none => rw [hv] at hx; cases hx
      | some v =>
        cases hv' : ts[l]? with
        | none => rw [hv'] at hz; cases hz
        | some v' =>
          rw [hv] at hx
          rw [hv'] at hz
          simp only [Option.map_some, Option.some.injEq] at hx hz
          have hn := h.near i l v v' hv hv' hi hl
          have hu' : v'.v ≤ z.v := by
            rw [← hz]
            split
            · show v'.v ≤ v'.v + cost v'.w
              omega
            · exact Nat.le_refl _
          rw [← hx]
          by_cases hij : j = i
          · subst hij
            rw [if_pos rfl]
            rw [hy] at hv; injection hv with hv; subst hv
            have hlt : l < ts.length := (List.getElem?_eq_some_iff.1 hv').1
            have hlu := hmin l v' hlt hv' (by rw [(h.each l v' hv').2.1]; simp [hl])
            show y.v + cost y.w ≤ z.v + cost wt
            rw [hyw]
            unfold aheadF at hlu
            omega
          · rw [if_neg (by simpa using hij)]
            omega
/-- Once all are awake. -/
structure AwkI (k wt u L V m : Nat) (v0 : Nat → Nat) (ts : List FT) (g : Nat → Nat) : Prop where
  inv : NInv (V + m * 1048576) k ts
  each : ∀ (i : Nat) x, ts[i]? = some x → x.w = wt ∧ x.r = true ∧ x.v = v0 i + cost wt * g i
  near : ∀ (i j : Nat) x y, ts[i]? = some x → ts[j]? = some y → x.v ≤ y.v + cost wt
  base : v0 u = L ∧ ∀ i, i < k → L ≤ v0 i ∧ v0 i ≤ L + cost wt
  sum : sumN k g = m
theorem awk_new {k wt u m : Nat} {ts : List FT} {x : FT} {o : Option Nat} (h : SlpI k wt u m ts) (hk : 2 ≤ k) (hu : u < k) (hx : ts[u]? = some x) (ho : FLeast ts ts.length o) : ∃ L v0, AwkI k wt u L (m * 1048576) 0 v0 (ts.set u (wokenF o x)) (fun _ => 0) := by
  have hlen := h.inv.len
  cases o with
  | none =>
    obtain ⟨i, hi, hiu⟩ : ∃ i, i < k ∧ i ≠ u := by
      by_cases h0 : u = 0
      · exact ⟨1, by omega, by omega⟩
      · exact ⟨0, by omega, by omega⟩
    have := ho i _ (by omega) (List.getElem?_eq_getElem (by omega))
    rw [(h.each i _ (List.getElem?_eq_getElem (by omega))).2.1] at this
    simp [hiu] at this
  | some L =>
    obtain ⟨⟨i0, x0, h1, h2, h3, h4⟩, h5⟩ := ho
    have hi0 : i0 ≠ u := by
      have := (h.each i0 x0 h2).2.1
      rw [h3] at this
      simpa using this.symm
    have exu := h.each u x hx
    have hw : (wokenF (some L) x).v = L := by show max x.v L = L; rw [exu.2.2 rfl]; omega
    have get : ∀ (i : Nat) y, (ts.set u (wokenF (some L) x))[i]? = some y → (i = u ∧ y = wokenF (some L) x) ∨ (i ≠ u ∧ ts[i]? = some y) := fun i y hy => by
      rw [List.getElem?_set] at hy
      split at hy
      · rename_i h
        split at hy
        · injection hy with hy; exact .inl ⟨h.symm, hy.symm⟩
        · cases hy
      · rename_i h; exact .inr ⟨fun hh => h hh.symm, hy⟩
    have bnd : ∀ (i : Nat) y, ts[i]? = some y → i ≠ u → L ≤ y.v ∧ y.v ≤ L + cost wt := fun i y hy hi => by
      have hil : i < ts.length := (List.getElem?_eq_some_iff.1 hy).1
      have a1 := h5 i y hil hy (by rw [(h.each i y hy).2.1]; simp [hi])
      have a2 := h.near i i0 y x0 hy h2 hi hi0
      omega
    have hox0 := h.inv.ok x0 (List.mem_of_getElem? h2)
    have hox := h.inv.ok x (List.mem_of_getElem? hx)
    refine ⟨L, fun i => if i = u then L else ((ts[i]?).map FT.v).getD L, ?_, fun i y hy => ?_, fun i j y y' hy hy' => ?_, ⟨by simp, fun i hi => ?_⟩, sumN_zero k⟩
    · rw [Nat.zero_mul, Nat.add_zero]
      exact h.inv.set hx rfl (Nat.le_refl _) ⟨hox.t1, hox.t2, hox.w1, hox.w2, hox.g0, by rw [hw, ← h4]; exact hox0.v2⟩
    · rcases get i y hy with ⟨rfl, rfl⟩ | ⟨hne, hy⟩
      · exact ⟨exu.1, rfl, by simp [hw]⟩
      · obtain ⟨e1, e2, _⟩ := h.each i y hy
        exact ⟨e1, by rw [e2]; simp [hne], by simp [hne, hy]⟩
    · have b1 : L ≤ y.v ∧ y.v ≤ L + cost wt := by
        rcases get i y hy with ⟨rfl, rfl⟩ | ⟨hne, hy⟩
        · rw [hw]; omega
        · exact bnd i y hy hne
      have b2 : L ≤ y'.v ∧ y'.v ≤ L + cost wt := by
        rcases get j y' hy' with ⟨rfl, rfl⟩ | ⟨hne, hy'⟩
        · rw [hw]; omega
        · exact bnd j y' hy' hne
      omega
    · by_cases hiu : i = u
      · simp [hiu]
      · have hil : i < ts.length := by omega
        have := bnd i _ (List.getElem?_eq_getElem hil) hiu
        simp only [hiu, if_false, List.getElem?_eq_getElem hil, Option.map_some, Option.getD_some]
        exact this
theorem sumN_bump (n j : Nat) (A : Nat → Nat) (hj : j < n) : sumN n (fun i => if i = j then A i + 1 else A i) = sumN n A + 1 := by
  have := sumN_dec (g := fun i => if i = j then A i + 1 else A i) (h := A) n j hj (fun i hi => by simp [hi]) (by simp)
  omega
theorem awk_tick {k wt u L V m : Nat} {v0 : Nat → Nat} {ts : List FT} {g : Nat → Nat} (h : AwkI k wt u L V m v0 ts g) (hk : 1 ≤ k) {b : Option Nat} (hb : FFirst ts ts.length b) : ∃ j, j < k ∧ b = some j ∧ AwkI k wt u L V (m + 1) v0 (tickF ts b) (fun i => if i = j then g i + 1 else g i) := by
  have hlen := h.inv.len
  cases b with
  | none =>
    have := hb 0 _ (by omega) (List.getElem?_eq_getElem (by omega))
    rw [(h.each 0 _ (List.getElem?_eq_getElem (by omega))).2.1] at this
    cases this
  | some j =>
    obtain ⟨y, hj, hy, hr, hmin⟩ := hb
    refine ⟨j, by omega, rfl, ?_, fun i x hx => ?_, fun i l x z hx hz => ?_, h.base, ?_⟩
    · have := h.inv.tick (some j)
      rw [Nat.add_mul, Nat.one_mul, ← Nat.add_assoc]; exact this
    · rw [tickF_get] at hx
      cases hv : ts[i]? with
      | none => rw [hv] at hx; cases hx
      | some v =>
        rw [hv] at hx
        simp only [Option.map_some, Option.some.injEq] at hx
        obtain ⟨e1, e2, e3⟩ := h.each i v hv
        rw [← hx]
        by_cases hij : j = i
        · subst hij
          rw [if_pos rfl, if_pos rfl]
          refine ⟨e1, e2, ?_⟩
          show v.v + cost v.w = _
          rw [e1, e3, Nat.mul_add, Nat.mul_one, Nat.add_assoc]
        · rw [if_neg (by simpa using hij), if_neg (fun hh => hij hh.symm)]
          exact ⟨e1, e2, e3⟩
    · rw [tickF_get] at hx hz
      cases hv : ts[i]? with
      | none => rw [hv] at hx; cases hx
      | some v =>
        cases hv' : ts[l]? with
        | none => rw [hv'] at hz; cases hz
        | some v' =>
          rw [hv] at hx
          rw [hv'] at hz
          simp only [Option.map_some, Option.some.injEq] at hx hz
          have hn := h.near i l v v' hv hv'
          have hu' : v'.v ≤ z.v := by
            rw [← hz]
            split
            · show v'.v ≤ v'.v + cost v'.w
              omega
            · exact Nat.le_refl _
          rw [← hx]
          by_cases hij : j = i
          · subst hij
            rw [if_pos rfl]
            rw [hy] at hv; injection hv with hv; subst hv
            have hlt : l < ts.length := (List.getElem?_eq_some_iff.1 hv').1
            have hlu := hmin l v' hlt hv' (h.each l v' hv').2.1
            show y.v + cost y.w ≤ z.v + cost wt
            rw [(h.each j y hy).1]
            unfold aheadF at hlu
            omega
          · rw [if_neg (by simpa using hij)]
            omega
    · rw [sumN_bump _ _ _ (by omega), h.sum]
/-- In as many ticks as there are tasks: once or twice. -/
theorem awk_end {k wt u L V : Nat} {v0 : Nat → Nat} {ts : List FT} {g : Nat → Nat} (h : AwkI k wt u L V k v0 ts g) (hu : u < k) (hw : 1 ≤ wt) (hw2 : wt ≤ 100) : 1 ≤ g u ∧ g u ≤ 2 := by
  have hc := cost_pos wt hw hw2
  have hlen := h.inv.len
  have val : ∀ i, i < k → ∃ x, ts[i]? = some x ∧ x.v = v0 i + cost wt * g i := fun i hi => ⟨_, List.getElem?_eq_getElem (by omega), (h.each i _ (List.getElem?_eq_getElem (by omega))).2.2⟩
  obtain ⟨xu, hxu, exu⟩ := val u hu
  rw [h.base.1] at exu
  have hsum := h.sum
  constructor
  · rcases Nat.eq_zero_or_pos (g u) with h0 | h0
    · exfalso
      have hle : ∀ i, i < k → g i ≤ if i = u then 0 else 1 := fun i hi => by
        by_cases hiu : i = u
        · subst hiu; simp [h0]
        · simp only [hiu, if_false]
          obtain ⟨xi, hxi, exi⟩ := val i hi
          have hn := h.near i u xi xu hxi hxu
          rw [exu, h0, exi] at hn
          have hb := (h.base.2 i hi).1
          by_cases hg : g i ≤ 1
          · exact hg
          · exfalso
            have : cost wt * 2 ≤ cost wt * g i := Nat.mul_le_mul_left _ (by omega)
            omega
      have h1 := sumN_le k hle
      have h2 : sumN k (fun i => if i = u then 0 else 1) + 1 = sumN k (fun _ => 1) := sumN_dec (g := fun _ => 1) (h := fun i => if i = u then 0 else 1) k u hu (fun i hi => by simp [hi]) (by simp)
      have h3 : ∀ n, sumN n (fun _ => 1) = n := fun n => by
        induction n with
        | zero => rfl
        | succ n ih => rw [sumN, ih]
      rw [h3] at h2
      omega
    · exact h0
  · by_cases h3 : g u ≤ 2
    · exact h3
    · exfalso
      have hge : ∀ i, i < k → (if i = u then 2 else 1) ≤ g i := fun i hi => by
        by_cases hiu : i = u
        · subst hiu; simp; omega
        · simp only [hiu, if_false]
          obtain ⟨xi, hxi, exi⟩ := val i hi
          have hn := h.near u i xu xi hxu hxi
          rw [exu, exi] at hn
          have hb := (h.base.2 i hi).2
          have : cost wt * 3 ≤ cost wt * g u := Nat.mul_le_mul_left _ (by omega)
          rcases Nat.eq_zero_or_pos (g i) with hg | hg
          · rw [hg] at hn; omega
          · exact hg
      have h1 := sumN_le k hge
      have h2 : sumN k (fun _ => 1) + 1 = sumN k (fun i => if i = u then 2 else 1) := sumN_dec (g := fun i => if i = u then 2 else 1) (h := fun _ => 1) k u hu (fun i hi => by simp [hi]) (by simp)
      have h3 : ∀ n, sumN n (fun _ => 1) = n := fun n => by
        induction n with
        | zero => rfl
        | succ n ih => rw [sumN, ih]
      rw [h3] at h2
      omega
end Go.Proofs.Ytpafafleepcjdaa
