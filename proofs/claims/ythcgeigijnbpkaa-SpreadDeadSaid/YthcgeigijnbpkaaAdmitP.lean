/- Plain facts on uses of a processor: the round of their periods, their share, their demand. No program in sight; no condition. -/
import Derived.WalkKit
namespace Go.Proofs.Ythcgeigijnbpkaa
open Go.RowKit
/-- A use: so many ticks in each period. -/
structure Use where
  c : Nat
  p : Nat
def useCells (u : Use) : List Value := [.int .i64 u.c, .int .i64 u.p]
theorem use_len (u : Use) : (useCells u).length = 2 := rfl
theorem use_one (u : Use) : ∀ v ∈ useCells u, v.oneCell' = true := by
  intro v hv
  simp only [useCells, List.mem_cons, List.not_mem_nil, or_false] at hv
  rcases hv with rfl | rfl <;> rfl
def Use.ok (u : Use) : Prop := 1 ≤ u.c ∧ u.c ≤ u.p ∧ u.p ≤ 30
/-- In how many ticks all periods end together. -/
def rndF (n : Nat) (u : Use) : Nat := n / Nat.gcd n u.p * u.p
def rnd (l : List Use) : Nat := l.foldl rndF 1
/-- What is done in so many ticks. -/
def dem (t : Nat) (l : List Use) : Nat := (l.map (fun u => t / u.p * u.c)).sum
theorem rndF_lcm (n : Nat) (u : Use) : rndF n u = Nat.lcm n u.p := by
  unfold rndF Nat.lcm
  rw [Nat.mul_comm n u.p, Nat.mul_div_assoc _ (Nat.gcd_dvd_left n u.p), Nat.mul_comm]
theorem rnd_snoc (l : List Use) (u : Use) : rnd (l ++ [u]) = rndF (rnd l) u := by simp [rnd]
theorem rnd_take (l : List Use) (k : Nat) (h : k < l.length) : rnd (l.take (k + 1)) = rndF (rnd (l.take k)) l[k] := by
  rw [List.take_succ_eq_append_getElem h, rnd_snoc]
theorem dem_snoc (t : Nat) (l : List Use) (u : Use) : dem t (l ++ [u]) = dem t l + t / u.p * u.c := by simp [dem]
theorem dem_append (t : Nat) (l m : List Use) : dem t (l ++ m) = dem t l + dem t m := by simp [dem]
theorem dem_take (t : Nat) (l : List Use) (k : Nat) (h : k < l.length) : dem t (l.take (k + 1)) = dem t (l.take k) + t / l[k].p * l[k].c := by
  rw [List.take_succ_eq_append_getElem h, dem_snoc]
theorem foldl_dvd (M : Nat) : ∀ (l : List Use) (n : Nat), n ∣ M → (∀ u ∈ l, u.p ∣ M) → l.foldl rndF n ∣ M := by
  intro l
  induction l with
  | nil => intro n h _; exact h
  | cons u l ih =>
    intro n h hl
    rw [List.foldl_cons]
    refine ih _ ?_ (fun v hv => hl v (List.mem_cons_of_mem _ hv))
    rw [rndF_lcm]
    exact Nat.lcm_dvd h (hl u (by simp))
theorem rnd_dvd {M : Nat} {l : List Use} (h : ∀ u ∈ l, u.p ∣ M) : rnd l ∣ M := foldl_dvd M l 1 (Nat.one_dvd M) h
theorem foldl_mem : ∀ (l : List Use) (n : Nat), n ∣ l.foldl rndF n ∧ ∀ u ∈ l, u.p ∣ l.foldl rndF n := by
  intro l
  induction l with
  | nil => intro n; exact ⟨Nat.dvd_refl _, fun u hu => by cases hu⟩
  | cons v l ih =>
    intro n
    rw [List.foldl_cons]
    obtain ⟨h1, h2⟩ := ih (rndF n v)
    rw [rndF_lcm] at h1 h2 ⊢
    refine ⟨Nat.dvd_trans (Nat.dvd_lcm_left n v.p) h1, fun u hu => ?_⟩
    rcases List.mem_cons.1 hu with rfl | hu
    · exact Nat.dvd_trans (Nat.dvd_lcm_right n u.p) h1
    · exact h2 u hu
theorem mem_rnd {l : List Use} {u : Use} (h : u ∈ l) : u.p ∣ rnd l := (foldl_mem l 1).2 u h
/-- The least number into which all periods up to 30 go. -/
def all30 : Nat := 2329089562800
theorem dvd30 (p : Nat) (h1 : 1 ≤ p) (h2 : p ≤ 30) : p ∣ all30 := by
  have : ∀ q : Fin 31, 1 ≤ q.val → q.val ∣ all30 := by decide +kernel
  exact this ⟨p, by omega⟩ h1
theorem rnd_dvd30 {l : List Use} (h : ∀ u ∈ l, u.ok) : rnd l ∣ all30 := rnd_dvd fun u hu => dvd30 u.p (by have := h u hu; unfold Use.ok at this; omega) (h u hu).2.2
theorem rnd_pos {l : List Use} (h : ∀ u ∈ l, u.ok) : 1 ≤ rnd l := Nat.pos_of_dvd_of_pos (rnd_dvd30 h) (by decide)
theorem rnd_le {l : List Use} (h : ∀ u ∈ l, u.ok) : rnd l ≤ 2329089562800 := Nat.le_of_dvd (by decide) (rnd_dvd30 h)
theorem take_ok {l : List Use} (h : ∀ u ∈ l, u.ok) (k : Nat) : ∀ u ∈ l.take k, u.ok := fun u hu => h u (List.mem_of_mem_take hu)
theorem div_mul_le' (t c p : Nat) (h : c ≤ p) : t / p * c ≤ t := Nat.le_trans (Nat.mul_le_mul_left _ h) (Nat.div_mul_le_self t p)
theorem dem_le (t : Nat) : ∀ (l : List Use), (∀ u ∈ l, u.ok) → dem t l ≤ l.length * t := by
  intro l
  induction l with
  | nil => intro _; simp [dem]
  | cons u l ih =>
    intro h
    have h1 := ih (fun v hv => h v (List.mem_cons_of_mem _ hv))
    have h2 := div_mul_le' t u.c u.p (h u (by simp)).2.1
    have : dem t (u :: l) = t / u.p * u.c + dem t l := by simp [dem]
    rw [this, List.length_cons, Nat.succ_mul]
    omega
theorem dem_take_le (t : Nat) (l : List Use) (h : ∀ u ∈ l, u.ok) (hl : l.length ≤ 16) (k : Nat) : dem t (l.take k) ≤ 16 * t := by
  have h1 := dem_le t (l.take k) (take_ok h k)
  have h2 : (l.take k).length ≤ 16 := by rw [List.length_take]; omega
  exact Nat.le_trans h1 (Nat.mul_le_mul_right t h2)
/-- A multiple of a common period. -/
theorem dem_mul (m t : Nat) : ∀ (l : List Use), (∀ u ∈ l, u.p ∣ t) → dem (m * t) l = m * dem t l := by
  intro l
  induction l with
  | nil => intro _; simp [dem]
  | cons u l ih =>
    intro h
    have h1 := ih (fun v hv => h v (List.mem_cons_of_mem _ hv))
    have e1 : dem (m * t) (u :: l) = m * t / u.p * u.c + dem (m * t) l := by simp [dem]
    have e2 : dem t (u :: l) = t / u.p * u.c + dem t l := by simp [dem]
    rw [e1, e2, h1, Nat.mul_div_assoc _ (h u (by simp)), Nat.mul_add, Nat.mul_assoc]
/-- By any time no more is wanted than the share of it. -/
theorem dem_share (t D : Nat) : ∀ (l : List Use), (∀ u ∈ l, u.p ∣ D) → dem t l * D ≤ dem D l * t := by
  intro l
  induction l with
  | nil => intro _; simp [dem]
  | cons u l ih =>
    intro h
    have h1 := ih (fun v hv => h v (List.mem_cons_of_mem _ hv))
    have e1 : dem t (u :: l) = t / u.p * u.c + dem t l := by simp [dem]
    have e2 : dem D (u :: l) = D / u.p * u.c + dem D l := by simp [dem]
    obtain ⟨q, hq⟩ := h u (by simp)
    rw [e1, e2, Nat.add_mul, Nat.add_mul]
    refine Nat.add_le_add ?_ h1
    rcases Nat.eq_zero_or_pos u.p with h0 | h0
    · rw [h0]; simp
    · rw [hq, Nat.mul_div_cancel_left _ h0]
      have h3 : t / u.p * u.p ≤ t := Nat.div_mul_le_self t u.p
      exact calc t / u.p * u.c * (u.p * q) = (t / u.p * u.p) * (q * u.c) := by simp only [Nat.mul_left_comm, Nat.mul_comm]
        _ ≤ t * (q * u.c) := Nat.mul_le_mul_right _ h3
        _ = q * u.c * t := Nat.mul_comm _ _
/-- Do they fit so many processors? -/
def fit (l : List Use) (k : Nat) : Prop := dem (rnd l) l ≤ k * rnd l
instance (l : List Use) (k : Nat) : Decidable (fit l k) := by unfold fit; exact inferInstance
/-- .. seen at any common period. -/
theorem fit_at {l : List Use} {k D : Nat} (hD : ∀ u ∈ l, u.p ∣ D) (h0 : 1 ≤ D) : fit l k ↔ dem D l ≤ k * D := by
  obtain ⟨m, hm⟩ := rnd_dvd hD
  have hm0 : 0 < m := by
    rcases Nat.eq_zero_or_pos m with h | h
    · rw [h] at hm; omega
    · exact h
  have h1 := dem_mul m (rnd l) l (fun u hu => mem_rnd hu)
  rw [Nat.mul_comm (rnd l) m] at hm
  rw [hm, h1]
  unfold fit
  constructor
  · intro h
    rw [Nat.mul_left_comm]
    exact Nat.mul_le_mul_left m h
  · intro h
    rw [Nat.mul_left_comm] at h
    exact Nat.le_of_mul_le_mul_left h hm0
/-- A share in lowest terms. -/
def lowN (l : List Use) : Nat := dem (rnd l) l / Nat.gcd (dem (rnd l) l) (rnd l)
def lowD (l : List Use) : Nat := rnd l / Nat.gcd (dem (rnd l) l) (rnd l)
theorem low_pos {l : List Use} (hok : ∀ u ∈ l, u.ok) : 0 < Nat.gcd (dem (rnd l) l) (rnd l) := Nat.gcd_pos_of_pos_right _ (rnd_pos hok)
theorem lowN_mul (l : List Use) : lowN l * Nat.gcd (dem (rnd l) l) (rnd l) = dem (rnd l) l := Nat.div_mul_cancel (Nat.gcd_dvd_left _ _)
theorem lowD_mul (l : List Use) : lowD l * Nat.gcd (dem (rnd l) l) (rnd l) = rnd l := Nat.div_mul_cancel (Nat.gcd_dvd_right _ _)
theorem fit_low {l : List Use} (hok : ∀ u ∈ l, u.ok) (k : Nat) : lowN l ≤ k * lowD l ↔ fit l k := by
  have h0 := low_pos hok
  unfold fit
  conv => rhs; rw [← lowN_mul l]
  conv => rhs; rhs; rw [← lowD_mul l, ← Nat.mul_assoc]
  constructor
  · intro h; exact Nat.mul_le_mul_right _ h
  · intro h; exact Nat.le_of_mul_le_mul_right h h0
theorem fit_nil (k : Nat) : k ≠ 0 → fit [] k := by intro h; simp [fit, dem, rnd]
theorem fit_more {l : List Use} {k m : Nat} (h : fit l k) (hkm : k ≤ m) : fit l m := Nat.le_trans h (Nat.mul_le_mul_right _ hkm)
theorem lowN_le {l : List Use} (hok : ∀ u ∈ l, u.ok) (hl : l.length ≤ 16) : lowN l ≤ 37265433004800 := by
  have h1 := dem_take_le (rnd l) l hok hl l.length
  rw [List.take_length] at h1
  have h2 := rnd_le hok
  have h3 : lowN l ≤ dem (rnd l) l := Nat.div_le_self _ _
  omega
theorem lowD_le {l : List Use} (hok : ∀ u ∈ l, u.ok) : lowD l ≤ 2329089562800 := Nat.le_trans (Nat.div_le_self _ _) (rnd_le hok)
end Go.Proofs.Ythcgeigijnbpkaa
