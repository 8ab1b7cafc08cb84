/- Plain laws and memory of the law SleepHands: how urgent each of a row is. No condition. -/
import Derived.Test.YthbkmjigplolgaaLocked
namespace Go.Proofs.Ythbkmjigplolgaa
open Go.ChangeShapes Go.WideShapes Go.ChangeAt Go.RowKit
set_option linter.unusedVariables false
/-- How urgent each of a row is, as a map. -/
def effF (g : Int → Int) (l : List Int) : Int → Option Value := fun x => if x ∈ l then some (.int .i64 (g x)) else none
theorem effF_put (g : Int → Int) (l : List Int) (j : Nat) (h : j < l.length) : updM (effF g (l.take j)) l[j] (some (.int .i64 (g l[j]))) = effF g (l.take (j + 1)) := by
  have hm : ∀ x, x ∈ l.take (j + 1) ↔ x ∈ l.take j ∨ x = l[j] := fun x => by rw [List.take_succ_eq_append_getElem h, List.mem_append, List.mem_singleton]
  funext x
  unfold updM effF
  by_cases e : x = l[j]
  · rw [if_pos e, if_pos ((hm x).2 (.inr e)), e]
  · rw [if_neg e]
    by_cases e2 : x ∈ l.take j
    · rw [if_pos e2, if_pos ((hm x).2 (.inl e2))]
    · rw [if_neg e2, if_neg (fun h => ((hm x).1 h).elim e2 e)]
/-- The greatest of the first j of a row; -1: there is none. -/
def mostM (g : Int → Int) (l : List Int) : Int := l.foldl (fun a x => max a (g x)) (-1)
theorem mostM_snoc (g : Int → Int) (l : List Int) (j : Nat) (h : j < l.length) : mostM g (l.take (j + 1)) = max (mostM g (l.take j)) (g l[j]) := by
  unfold mostM
  rw [List.take_succ_eq_append_getElem h, List.foldl_append]
  rfl
/-- The greatest of a row is that of whoever is the greatest. -/
theorem mostM_is {g : Int → Int} {l : List Int} {b : Nat} (hb : b < l.length) (h0 : -1 ≤ g l[b]) (h : ∀ x (hx : x < l.length), g l[x] ≤ g l[b]) : mostM g l = g l[b] := by
  have h1 := foldl_max_ge (g := g) l (-1)
  have h2 := h1.2 _ (List.getElem_mem hb)
  have h3 := foldl_max_le (g := g) l (-1) (g l[b]) h0 (fun x hx => by obtain ⟨i, hi, rfl⟩ := List.mem_iff_getElem.1 hx; exact h i hi)
  unfold mostM
  omega
/-- All but one, by its place and by itself. -/
theorem keep_cut {l : List Int} (hn : l.Nodup) {b : Nat} (hb : b < l.length) : keepI l[b] l = cutI l b := by
  have e : l = l.take b ++ l[b] :: l.drop (b + 1) := by
    have := List.take_append_drop b l
    rw [List.drop_eq_getElem_cons hb] at this
    exact this.symm
  obtain ⟨v, hv⟩ : ∃ v, v = l[b] := ⟨_, rfl⟩
  rw [← hv] at e ⊢
  have hn2 := hn
  rw [e, List.nodup_append] at hn2
  obtain ⟨n1, n2, n3⟩ := hn2
  rw [List.nodup_cons] at n2
  unfold cutI
  have a1 : keepI v (l.take b) = l.take b := keepI_all (fun h => n3 _ h v List.mem_cons_self rfl)
  have a2 : keepI v (l.drop (b + 1)) = l.drop (b + 1) := keepI_all n2.1
  obtain ⟨m, hm⟩ : ∃ m, m = l := ⟨_, rfl⟩
  have e3 : keepI v l = keepI v (l.take b ++ v :: l.drop (b + 1)) := congrArg (keepI v) e
  rw [e3]
  unfold keepI at a1 a2 ⊢
  rw [List.filter_append, List.filter_cons, a1]
  simp only [bne_self_eq_false, Bool.false_eq_true, if_false]
  rw [a2]
section
variable {n : Nat} {pr : Int → Int} {o : Nat → Int} {q : Nat → List Int} {g g' : Int → Int}
/-- Who waits no more makes nobody more urgent whom he does not wait for; he himself is as urgent as he was. -/
theorem eff_drop (h : LkS n o q) (hg : IsEff n pr o q g) {j : Nat} (hj : j < 16) {t : Int} (ht : t ∈ q j) (hg' : IsEff n pr o (upN q j (keepI t (q j))) g') (h1 : 1 ≤ t) (h2 : t ≤ n) : g' t = g t := by
  obtain ⟨r, hr⟩ := h.acyc
  have hT := topR_le r n
  have key : ∀ (d : Nat) (x : Int), topR r n - r x < d → 1 ≤ x → x ≤ n → r t ≤ r x → g' x = g x := by
    intro d
    induction d with
    | zero => intro x hd; exact absurd hd (by omega)
    | succ d ih =>
      intro x hd x1 x2 hx
      rw [hg x x1 x2, hg' x x1 x2]
      have hrow : ∀ i, i < 16 → o i = x → upN q j (keepI t (q j)) i = q i := fun i hi ho => by
        by_cases e : i = j
        · subst e
          have := hr i hi t ht
          rw [ho] at this
          omega
        · exact upN_ne _ _ e
      have e1 : ∀ m, m ≤ 16 → accF pr o (upN q j (keepI t (q j))) g' x m = accF pr o q g x m := by
        intro m
        induction m with
        | zero => intro _; rfl
        | succ m ihm =>
          intro hm
          have e2 := ihm (by omega)
          by_cases ho : o m = x
          · rw [accF_in ho, accF_in ho, e2, hrow m (by omega) ho]
            unfold foldM
            have : ∀ (l : List Int) (a : Int), (∀ y ∈ l, g' y = g y) → l.foldl (fun a y => max a (g' y)) a = l.foldl (fun a y => max a (g y)) a := by
              intro l
              induction l with
              | nil => intro a _; rfl
              | cons y l ih2 =>
                intro a hl
                simp only [List.foldl_cons]
                rw [hl y (by simp)]
                exact ih2 _ (fun y hy => hl y (List.mem_cons_of_mem _ hy))
            refine this _ _ (fun y hy => ?_)
            have h3 := hr m (by omega) y hy
            rw [ho] at h3
            have h4 := h.row m (by omega) y hy
            have h5 := hT y (by omega) h4.2
            exact ih y (by omega) h4.1 h4.2 (by omega)
          · rw [accF_out ho, accF_out ho, e2]
      exact e1 16 (by omega)
  exact key (topR r n - r t + 1) t (by omega) h1 h2 (Nat.le_refl _)
/-- Behind a hand-over: nobody is more urgent than before but he who has the lock now; he is as urgent as each who waits for it still, and no less than he was. -/
theorem eff_hand (h : LkS n o q) (hg : IsEff n pr o q g) {k : Nat} (hk : k < 16) {b : Nat} (hb : b < (q k).length) (hmax : ∀ x (hx : x < (q k).length), g (q k)[x] ≤ g (q k)[b]) (hS : LkS n (upN o k (q k)[b]) (upN q k (cutI (q k) b))) (hg' : IsEff n pr (upN o k (q k)[b]) (upN q k (cutI (q k) b)) g') :
    (∀ x : Int, 1 ≤ x → x ≤ n → g' x ≤ g x) ∧ g (q k)[b] ≤ g' (q k)[b] := by
  obtain ⟨nx, hnx⟩ : ∃ nx, nx = (q k)[b] := ⟨_, rfl⟩
  rw [← hnx] at hS hg' hmax ⊢
  have hnm : nx ∈ q k := by rw [hnx]; exact List.getElem_mem hb
  have hnb := h.row k hk nx hnm
  have hsub : ∀ i, i < 16 → ∀ y ∈ upN q k (cutI (q k) b) i, y ∈ q i := fun i hi y hy => by
    by_cases e : i = k
    · subst e; rw [upN_same] at hy; exact (cutI_sub _ _).subset hy
    · rw [upN_ne _ _ e] at hy; exact hy
  refine ⟨?_, ?_⟩
  · obtain ⟨r, hr⟩ := hS.acyc
    have hT := topR_le r n
    have key : ∀ (d : Nat) (x : Int), topR r n - r x < d → 1 ≤ x → x ≤ n → g' x ≤ g x := by
      intro d
      induction d with
      | zero => intro x hd; exact absurd hd (by omega)
      | succ d ih =>
        intro x hd x1 x2
        rw [hg' x x1 x2]
        refine accF_le 16 (hg.own x1 x2) (fun i hi ho y hy => ?_)
        have h3 := hr i hi y hy
        rw [ho] at h3
        have hyq := hsub i hi y hy
        have h4 := h.row i hi y hyq
        have h5 := hT y (by omega) h4.2
        have h6 := ih y (by omega) h4.1 h4.2
        by_cases e : i = k
        · subst e
          rw [upN_same] at ho
          subst ho
          obtain ⟨c, hc, hcy⟩ := List.mem_iff_getElem.1 hyq
          have := hmax c hc
          rw [hcy] at this
          omega
        · rw [upN_ne _ _ e] at ho
          have := hg.row x1 x2 hi ho hyq
          omega
    exact fun x x1 x2 => key (topR r n - r x + 1) x (by omega) x1 x2
  · obtain ⟨r, hr⟩ := h.acyc
    have hT := topR_le r n
    -- whoever waits for nx, on and on, does so still
    have key : ∀ (d : Nat) (x : Int), topR r n - r x < d → 1 ≤ x → x ≤ n → r nx ≤ r x → g x ≤ g' x := by
      intro d
      induction d with
      | zero => intro x hd; exact absurd hd (by omega)
      | succ d ih =>
        intro x hd x1 x2 hx
        rw [hg x x1 x2]
        refine accF_le 16 (hg'.own x1 x2) (fun i hi ho y hy => ?_)
        have h3 := hr i hi y hy
        rw [ho] at h3
        have h4 := h.row i hi y hy
        have h5 := hT y (by omega) h4.2
        have h6 := ih y (by omega) h4.1 h4.2 (by omega)
        have hik : i ≠ k := by
          rintro rfl
          have := hr i hi nx hnm
          rw [ho] at this
          omega
        have := hg'.row x1 x2 hi (by rw [upN_ne _ _ hik]; exact ho) (x := y) (by rw [upN_ne _ _ hik]; exact hy)
        omega
    exact key (topR r n - r nx + 1) nx (by omega) hnb.1 hnb.2 (Nat.le_refl _)
end
end Go.Proofs.Ythbkmjigplolgaa
