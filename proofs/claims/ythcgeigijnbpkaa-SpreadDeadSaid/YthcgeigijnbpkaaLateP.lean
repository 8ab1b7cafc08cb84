/- Plain facts on the earliest deadline first: what fits is never late; what is never late fits. No program in sight; no condition. -/
import Derived.Test.YthcgeigijnbpkaaAdmitP
namespace Go.Proofs.Ythcgeigijnbpkaa
open Go.RowKit
set_option linter.unusedVariables false
def sumN : Nat → (Nat → Nat) → Nat
  | 0, _ => 0
  | n + 1, g => sumN n g + g n
theorem sumN_le {g h : Nat → Nat} : ∀ n, (∀ i, i < n → g i ≤ h i) → sumN n g ≤ sumN n h
  | 0, _ => Nat.le_refl _
  | n + 1, H => Nat.add_le_add (sumN_le n fun i hi => H i (by omega)) (H n (by omega))
theorem sumN_congr {g h : Nat → Nat} : ∀ n, (∀ i, i < n → g i = h i) → sumN n g = sumN n h
  | 0, _ => rfl
  | n + 1, H => by rw [sumN, sumN, sumN_congr n fun i hi => H i (by omega), H n (by omega)]
theorem sumN_zero (n : Nat) : sumN n (fun _ => 0) = 0 := by
  induction n with
  | zero => rfl
  | succ n ih => rw [sumN, ih]
theorem sumN_mem {g : Nat → Nat} : ∀ n i, i < n → g i ≤ sumN n g
  | n + 1, i, hi => by
    rw [sumN]
    by_cases h : i = n
    · subst h; omega
    · have := sumN_mem (g := g) n i (by omega); omega
/-- One of them less by one. -/
theorem sumN_dec {g h : Nat → Nat} : ∀ n j, j < n → (∀ i, i ≠ j → h i = g i) → h j + 1 = g j → sumN n h + 1 = sumN n g
  | n + 1, j, hj, he, h1 => by
    rw [sumN, sumN]
    by_cases hjn : j = n
    · subst hjn
      rw [sumN_congr j fun i hi => he i (by omega)]; omega
    · have := sumN_dec (g := g) (h := h) n j (by omega) he h1
      have := he n (by omega)
      omega
theorem sumN_add (g h : Nat → Nat) : ∀ n, sumN n (fun i => g i + h i) = sumN n g + sumN n h
  | 0 => rfl
  | n + 1 => by rw [sumN, sumN, sumN, sumN_add g h n]; omega
def pe (l : List Use) (i : Nat) : Nat := (l.getD i ⟨1, 1⟩).p
def co (l : List Use) (i : Nat) : Nat := (l.getD i ⟨1, 1⟩).c
theorem pe_at (l : List Use) (i : Nat) (h : i < l.length) : pe l i = l[i].p := by unfold pe; rw [List.getD_eq_getElem?_getD, List.getElem?_eq_getElem h]; rfl
theorem co_at (l : List Use) (i : Nat) (h : i < l.length) : co l i = l[i].c := by unfold co; rw [List.getD_eq_getElem?_getD, List.getElem?_eq_getElem h]; rfl
theorem dem_sumN (t : Nat) (l : List Use) : dem t l = sumN l.length (fun i => t / pe l i * co l i) := by
  have : ∀ k, k ≤ l.length → dem t (l.take k) = sumN k (fun i => t / pe l i * co l i) := by
    intro k
    induction k with
    | zero => intro _; simp [dem, sumN]
    | succ k ih => intro hk; rw [dem_take t l k (by omega), ih (by omega), sumN, pe_at l k (by omega), co_at l k (by omega)]
  rw [← this l.length (Nat.le_refl _), List.take_length]
theorem pe_ok {l : List Use} (hok : ∀ u ∈ l, u.ok) (i : Nat) : 1 ≤ pe l i ∧ pe l i ≤ 30 ∧ 1 ≤ co l i ∧ co l i ≤ pe l i := by
  by_cases h : i < l.length
  · rw [pe_at l i h, co_at l i h]
    have := hok l[i] (List.getElem_mem h)
    unfold Use.ok at this
    omega
  · unfold pe co
    rw [List.getD_eq_getElem?_getD, List.getElem?_eq_none (by omega)]
    decide
theorem fit_dem {l : List Use} (hok : ∀ u ∈ l, u.ok) (h : fit l 1) (t : Nat) : dem t l ≤ t := by
  have h1 := dem_share t (rnd l) l (fun u hu => mem_rnd hu)
  unfold fit at h
  have h3 := rnd_pos hok
  have h4 : dem (rnd l) l * t ≤ rnd l * t := Nat.mul_le_mul_right _ (by omega)
  have h5 : dem t l * rnd l ≤ t * rnd l := by rw [Nat.mul_comm t]; exact Nat.le_trans h1 h4
  exact Nat.le_of_mul_le_mul_right h5 h3
/-- The deadline of what goes on at a time. -/
def dl (p now : Nat) : Nat := (now / p + 1) * p
/-- The next beginning of a period, from a time on. -/
def nx (p now : Nat) : Nat := (now + p - 1) / p * p
theorem dl_lt (p now : Nat) (h : 1 ≤ p) : now < dl p now := by
  unfold dl
  have h1 := Nat.div_add_mod now p
  have h2 := Nat.mod_lt now (show 0 < p by omega)
  rw [Nat.add_mul, Nat.mul_comm (now / p)]
  omega
theorem dl_le (p now : Nat) (h : 1 ≤ p) : dl p now ≤ now + p := by
  unfold dl
  have h1 := Nat.div_add_mod now p
  rw [Nat.add_mul, Nat.mul_comm (now / p)]
  omega
theorem nx_succ (p now : Nat) (h : 1 ≤ p) : nx p (now + 1) = dl p now := by
  unfold nx dl
  rw [show now + 1 + p - 1 = now + p by omega, Nat.add_div_right _ (by omega)]
theorem ceil_succ (p now : Nat) (h : 1 ≤ p) : (now + 1 + p - 1) / p = now / p + 1 := by
  rw [show now + 1 + p - 1 = now + p by omega, Nat.add_div_right _ (by omega)]
theorem ceil_mod (p now : Nat) (h : 1 ≤ p) : (now + p - 1) / p = if now % p = 0 then now / p else now / p + 1 := by
  have h1 := Nat.div_add_mod now p
  have h2 := Nat.mod_lt now (show 0 < p by omega)
  split
  · rename_i h0
    rw [h0, Nat.add_zero] at h1
    conv => lhs; rw [← h1]
    rw [show p * (now / p) + p - 1 = (p - 1) + p * (now / p) by omega, Nat.add_mul_div_left _ _ (by omega), Nat.div_eq_of_lt (by omega)]
    omega
  · rename_i h0
    conv => lhs; rw [← h1]
    rw [show p * (now / p) + now % p + p - 1 = (now % p - 1) + p * (now / p + 1) by rw [Nat.mul_add]; omega, Nat.add_mul_div_left _ _ (by omega), Nat.div_eq_of_lt (by omega)]
    omega
theorem nx_at (p now : Nat) (h : 1 ≤ p) (h0 : now % p = 0) : nx p now = now := by
  unfold nx
  rw [ceil_mod p now h, if_pos h0]
  exact Nat.div_mul_cancel (Nat.dvd_of_mod_eq_zero h0)
theorem nx_off (p now : Nat) (h : 1 ≤ p) (h0 : now % p ≠ 0) : nx p now = dl p now := by
  unfold nx dl
  rw [ceil_mod p now h, if_neg h0]
theorem dl_at (p now : Nat) (h : 1 ≤ p) (h0 : now % p = 0) : dl p now = now + p := by
  unfold dl
  rw [Nat.add_mul, Nat.div_mul_cancel (Nat.dvd_of_mod_eq_zero h0)]
  omega
/-- What must be done by a time d, if so much is left, and the next deadline is D. -/
def owe (p c D x d : Nat) : Nat := if D ≤ d then x + (d - D) / p * c else 0
/-- Before those that begin anew at a time do. -/
def Pre (l : List Use) (now : Nat) (f : Nat → Nat) : Prop := ∀ d, now ≤ d → sumN l.length (fun i => owe (pe l i) (co l i) (nx (pe l i) now) (f i) d) + now ≤ d
/-- .. and after that. -/
def Pst (l : List Use) (now : Nat) (f : Nat → Nat) : Prop := ∀ d, now ≤ d → sumN l.length (fun i => owe (pe l i) (co l i) (dl (pe l i) now) (f i) d) + now ≤ d
/-- What they are once those begin anew whose time it is, of the first k. -/
def repK (l : List Use) (now : Nat) (f : Nat → Nat) (k : Nat) : Nat → Nat := fun i => if i < k ∧ now % pe l i = 0 then co l i else f i
theorem pre_zero {l : List Use} (hok : ∀ u ∈ l, u.ok) (h : fit l 1) : Pre l 0 (fun _ => 0) := by
  intro d _
  have h1 := fit_dem hok h d
  rw [dem_sumN] at h1
  refine Nat.le_trans (Nat.add_le_add_right (sumN_le _ fun i hi => ?_) 0) h1
  have hp := pe_ok hok i
  rw [nx_at _ _ hp.1 (Nat.zero_mod _)]
  unfold owe
  rw [if_pos (by omega)]
  simp
theorem pre_late {l : List Use} (hok : ∀ u ∈ l, u.ok) {now : Nat} {f : Nat → Nat} (h : Pre l now f) (i : Nat) (hi : i < l.length) (h0 : now % pe l i = 0) : f i = 0 := by
  have h1 := h now (Nat.le_refl _)
  have h2 := sumN_mem (g := fun i => owe (pe l i) (co l i) (nx (pe l i) now) (f i) now) l.length i hi
  have hp := pe_ok hok i
  have h3 : owe (pe l i) (co l i) (nx (pe l i) now) (f i) now = f i := by simp [nx_at _ _ hp.1 h0, owe]
  simp only [h3] at h2
  omega
theorem pst_of_pre {l : List Use} (hok : ∀ u ∈ l, u.ok) {now : Nat} {f : Nat → Nat} (h : Pre l now f) : Pst l now (repK l now f l.length) := by
  intro d hd
  have h1 := h d hd
  refine Nat.le_trans (Nat.add_le_add_right (Nat.le_of_eq (sumN_congr _ fun i hi => ?_)) _) h1
  have hp := pe_ok hok i
  by_cases h0 : now % pe l i = 0
  · have hf := pre_late hok h i hi h0
    simp only [repK, h0, hi, and_self, if_true, nx_at _ _ hp.1 h0, dl_at _ _ hp.1 h0, hf, owe]
    by_cases hd2 : now + pe l i ≤ d
    · rw [if_pos hd2, if_pos hd]
      have : d - now = (d - (now + pe l i)) + pe l i := by omega
      rw [this, Nat.add_div_right _ (by omega), Nat.succ_mul]
      omega
    · rw [if_neg hd2, if_pos hd, Nat.div_eq_of_lt (by omega)]
      omega
  · simp only [repK, h0, and_false, if_false, nx_off _ _ hp.1 h0]
/-- A tick for the least deadline, of all that have something left. -/
theorem pre_tick {l : List Use} (hok : ∀ u ∈ l, u.ok) (hfit : fit l 1) {now : Nat} {f f' : Nat → Nat} (h : Pst l now f)
    (hc : ((∀ i, i < l.length → f i = 0) ∧ f' = f) ∨ ∃ j, j < l.length ∧ 0 < f j ∧ (∀ i, i < l.length → 0 < f i → dl (pe l j) now ≤ dl (pe l i) now) ∧ (∀ i, i ≠ j → f' i = f i) ∧ f' j + 1 = f j) : Pre l (now + 1) f' := by
  intro d hd
  have hnx : ∀ i, nx (pe l i) (now + 1) = dl (pe l i) now := fun i => nx_succ _ _ (pe_ok hok i).1
  simp only [hnx]
  have h1 := h d (by omega)
  by_cases hex : ∃ i, i < l.length ∧ 0 < f i ∧ dl (pe l i) now ≤ d
  · obtain ⟨i, hi, hfi, hdi⟩ := hex
    rcases hc with ⟨hc, _⟩ | ⟨j, hj, hfj, hmin, hoth, hdec⟩
    · have := hc i hi; omega
    · have hdj := Nat.le_trans (hmin i hi hfi) hdi
      have := sumN_dec (g := fun i => owe (pe l i) (co l i) (dl (pe l i) now) (f i) d) (h := fun i => owe (pe l i) (co l i) (dl (pe l i) now) (f' i) d) l.length j hj (fun i hne => by simp only [hoth i hne]) (by simp only [owe, hdj, if_true]; omega)
      omega
  · have hz : ∀ i, i < l.length → dl (pe l i) now ≤ d → f' i = 0 := by
      intro i hi hdi
      have hf0 : f i = 0 := by
        rcases Nat.eq_zero_or_pos (f i) with h | h
        · exact h
        · exact absurd ⟨i, hi, h, hdi⟩ hex
      rcases hc with ⟨_, rfl⟩ | ⟨j, hj, hfj, hmin, hoth, hdec⟩
      · exact hf0
      · by_cases hij : i = j
        · subst hij; omega
        · rw [hoth i hij]; exact hf0
    have h2 := fit_dem hok hfit (d - (now + 1))
    rw [dem_sumN] at h2
    have h3 : sumN l.length (fun i => owe (pe l i) (co l i) (dl (pe l i) now) (f' i) d) ≤ sumN l.length (fun i => (d - (now + 1)) / pe l i * co l i) := by
      refine sumN_le _ fun i hi => ?_
      unfold owe
      split
      · rename_i hdi
        rw [hz i hi hdi, Nat.zero_add]
        refine Nat.mul_le_mul_right _ (Nat.div_le_div_right ?_)
        have := dl_lt (pe l i) now (pe_ok hok i).1
        omega
      · exact Nat.zero_le _
    omega
/-- The account of what was done, so far as nobody was late. -/
def Acc (l : List Use) (now : Nat) (f : Nat → Nat) : Prop := sumN l.length (fun i => (now + pe l i - 1) / pe l i * co l i) ≤ now + sumN l.length f
theorem acc_zero {l : List Use} (hok : ∀ u ∈ l, u.ok) : Acc l 0 (fun _ => 0) := by
  unfold Acc
  have : sumN l.length (fun i => (0 + pe l i - 1) / pe l i * co l i) = sumN l.length (fun _ => 0) := sumN_congr _ fun i hi => by
    have hp := pe_ok hok i
    rw [Nat.div_eq_of_lt (by omega), Nat.zero_mul]
  rw [this]
  omega
theorem acc_rep {l : List Use} (hok : ∀ u ∈ l, u.ok) {now : Nat} {f : Nat → Nat} (h : Acc l now f) (hz : ∀ i, i < l.length → now % pe l i = 0 → f i = 0) :
    sumN l.length (fun i => (now / pe l i + 1) * co l i) ≤ now + sumN l.length (repK l now f l.length) := by
  unfold Acc at h
  have e : sumN l.length (fun i => (now / pe l i + 1) * co l i) + sumN l.length f = sumN l.length (fun i => (now + pe l i - 1) / pe l i * co l i) + sumN l.length (repK l now f l.length) := by
    rw [← sumN_add, ← sumN_add]
    refine sumN_congr _ fun i hi => ?_
    have hp := pe_ok hok i
    rw [ceil_mod _ _ hp.1]
    by_cases h0 : now % pe l i = 0
    · rw [if_pos h0, hz i hi h0]
      simp only [repK, h0, hi, and_self, if_true]
      rw [Nat.succ_mul]; omega
    · rw [if_neg h0]
      simp only [repK, h0, and_false, if_false]
  omega
theorem acc_tick {l : List Use} (hok : ∀ u ∈ l, u.ok) {now : Nat} {f f' : Nat → Nat} (h : sumN l.length (fun i => (now / pe l i + 1) * co l i) ≤ now + sumN l.length f) (hs : sumN l.length f ≤ sumN l.length f' + 1) : Acc l (now + 1) f' := by
  unfold Acc
  have e : sumN l.length (fun i => (now + 1 + pe l i - 1) / pe l i * co l i) = sumN l.length (fun i => (now / pe l i + 1) * co l i) := sumN_congr _ fun i hi => by rw [ceil_succ _ _ (pe_ok hok i).1]
  rw [e]
  omega
theorem acc_end {l : List Use} (hok : ∀ u ∈ l, u.ok) {now : Nat} {f : Nat → Nat} (h : Acc l now f) (hz : ∀ i, i < l.length → now % pe l i = 0 → f i = 0) (hd : ∀ u ∈ l, u.p ∣ now) : dem now l ≤ now := by
  have hm : ∀ i, i < l.length → now % pe l i = 0 := fun i hi => by rw [pe_at l i hi]; exact Nat.mod_eq_zero_of_dvd (hd _ (List.getElem_mem hi))
  unfold Acc at h
  rw [dem_sumN]
  have e1 : sumN l.length (fun i => (now + pe l i - 1) / pe l i * co l i) = sumN l.length (fun i => now / pe l i * co l i) := sumN_congr _ fun i hi => by rw [ceil_mod _ _ (pe_ok hok i).1, if_pos (hm i hi)]
  have e2 : sumN l.length f = sumN l.length (fun _ => 0) := sumN_congr _ fun i hi => hz i hi (hm i hi)
  rw [e1, e2, sumN_zero] at h
  omega
/-- What holds ahead of each tick of Late. -/
structure LI (l : List Use) (now : Nat) (f : Nat → Nat) (late : Nat) : Prop where
  small : ∀ i, f i ≤ 30
  yes : fit l 1 → late = 0 ∧ Pre l now f
  acc : late = 0 → Acc l now f
  no : late = 0 → ∀ t, t < now → (∀ u ∈ l, u.p ∣ t) → dem t l ≤ t
theorem li_zero {l : List Use} (hok : ∀ u ∈ l, u.ok) : LI l 0 (fun _ => 0) 0 := ⟨fun _ => Nat.zero_le _, fun h => ⟨rfl, pre_zero hok h⟩, fun _ => acc_zero hok, fun _ t ht => absurd ht (by omega)⟩
theorem repK_small {l : List Use} (hok : ∀ u ∈ l, u.ok) {now k : Nat} {f : Nat → Nat} (h : ∀ i, f i ≤ 30) (i : Nat) : repK l now f k i ≤ 30 := by
  unfold repK
  have := pe_ok hok i
  split
  · omega
  · exact h i
theorem li_step {l : List Use} (hok : ∀ u ∈ l, u.ok) {now late late' : Nat} {f f' : Nat → Nat} (h : LI l now f late) (hlate : late' = 0 ↔ late = 0 ∧ ∀ i, i < l.length → now % pe l i = 0 → f i = 0)
    (hc : ((∀ i, i < l.length → repK l now f l.length i = 0) ∧ f' = repK l now f l.length) ∨ ∃ j, j < l.length ∧ 0 < repK l now f l.length j ∧ (∀ i, i < l.length → 0 < repK l now f l.length i → dl (pe l j) now ≤ dl (pe l i) now) ∧ (∀ i, i ≠ j → f' i = repK l now f l.length i) ∧ f' j + 1 = repK l now f l.length j) : LI l (now + 1) f' late' := by
  refine ⟨fun i => ?_, fun hf => ?_, fun h0 => ?_, fun h0 t ht hd => ?_⟩
  · have hs := repK_small (now := now) (k := l.length) hok h.small
    rcases hc with ⟨_, rfl⟩ | ⟨j, _, _, _, ho, hj⟩
    · exact hs i
    · by_cases hij : i = j
      · subst hij; have := hs i; omega
      · rw [ho i hij]; exact hs i
  · obtain ⟨y1, y2⟩ := h.yes hf
    exact ⟨hlate.2 ⟨y1, fun i hi h0 => pre_late hok y2 i hi h0⟩, pre_tick hok hf (pst_of_pre hok y2) hc⟩
  · obtain ⟨z1, z2⟩ := hlate.1 h0
    refine acc_tick hok (acc_rep hok (h.acc z1) z2) ?_
    rcases hc with ⟨_, rfl⟩ | ⟨j, hj, _, _, ho, hd⟩
    · omega
    · have := sumN_dec (g := repK l now f l.length) (h := f') l.length j hj ho hd
      omega
  · obtain ⟨z1, z2⟩ := hlate.1 h0
    by_cases htn : t = now
    · subst htn; exact acc_end hok (h.acc z1) z2 hd
    · exact h.no z1 t (by omega) hd
/-- What Late tells. -/
def LateOk (l : List Use) (t n : Nat) : Prop := (fit l 1 → n = 0) ∧ (n = 0 → (∀ u ∈ l, u.p ∣ t) → dem t l ≤ t)
theorem li_end {l : List Use} {t late : Nat} {f : Nat → Nat} (h : LI l (t + 1) f late) : LateOk l t late := ⟨fun hf => (h.yes hf).1, fun h0 hd => h.no h0 t (by omega) hd⟩
/-- Numbers by their places, as cells. -/
def cellsN (n : Nat) (f : Nat → Nat) : List Value := (List.range n).map (fun i => .int .i64 (f i : Int))
theorem cellsN_len (n : Nat) (f : Nat → Nat) : (cellsN n f).length = n := by simp [cellsN]
theorem cellsN_get (n : Nat) (f : Nat → Nat) (i : Nat) (h : i < n) : (cellsN n f)[i]? = some (.int .i64 (f i : Int)) := by simp [cellsN, List.getElem?_range h]
theorem cellsN_set (n : Nat) (f g : Nat → Nat) (k : Nat) (v : Int) (hv : v = (g k : Int)) (h : ∀ i, i ≠ k → g i = f i) : (cellsN n f).set k (.int .i64 v) = cellsN n g := by
  subst hv
  apply List.ext_getElem?
  intro i
  by_cases hi : i < n
  · rw [cellsN_get n g i hi]
    by_cases hk : i = k
    · subst hk; rw [List.getElem?_set_self (by rw [cellsN_len]; exact hi)]
    · rw [List.getElem?_set_ne (by omega), cellsN_get n f i hi, h i hk]
  · rw [List.getElem?_eq_none (by rw [List.length_set, cellsN_len]; omega), List.getElem?_eq_none (by rw [cellsN_len]; omega)]
theorem cellsN_zero (n : Nat) : cellsN n (fun _ => 0) = List.replicate n (.int .i64 0) := by
  unfold cellsN
  rw [List.map_const']
  simp
end Go.Proofs.Ythcgeigijnbpkaa
