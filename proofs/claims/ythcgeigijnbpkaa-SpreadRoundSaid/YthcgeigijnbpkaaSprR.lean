/- Plain model of package spread: tasks of one priority go round. No program in sight; no condition. -/
import Derived.Test.YthcgeigijnbpkaaSpreadFullWalk
namespace Go.Proofs.Ythcgeigijnbpkaa
open Go.ChangeShapes Go.WideShapes Go.ChangeAt Go.RowKit
set_option linter.unusedVariables false
/-- How many are ahead of the i-th, from the h-th on round; on which processor the one behind r others runs. -/
def rr (n h i : Nat) : Nat := if h ≤ i then i - h else i + n - h
def cq (c q r : Nat) : Nat := if q + r < c then q + r else q + r - c
theorem rr_is (n h i : Nat) : (h ≤ i ∧ rr n h i = i - h) ∨ (i < h ∧ rr n h i = i + n - h) := by unfold rr; split <;> omega
theorem cq_is (c q r : Nat) : (q + r < c ∧ cq c q r = q + r) ∨ (c ≤ q + r ∧ cq c q r = q + r - c) := by unfold cq; split <;> omega
/-- Tasks of one priority, that go round. -/
structure RoS (c n : Nat) (v : Int) (h q : Nat) (s : SR) : Prop where
  nn : s.n = c
  len : s.ts.length = n
  each : ∀ (i : Nat) (x : ST), s.ts[i]? = some x → x.t = (i : Int) + 1 ∧ x.cl = 2 ∧ x.va = v ∧ x.mo = 0 ∧ x.r = true ∧ x.o = false ∧ x.pin = 2 ^ c - 1 ∧ x.si ≤ s.st ∧ x.cpu = if rr n h i < c then (cq c q (rr n h i) : Int) else -1
  fifo : ∀ (i j : Nat) (x y : ST), s.ts[i]? = some x → s.ts[j]? = some y → c ≤ rr n h i → rr n h i < rr n h j → x.si < y.si
theorem RoS.run {c n : Nat} {v : Int} {h q : Nat} {s : SR} (hs : RoS c n v h q s) {i : Nat} {x : ST} (hx : s.ts[i]? = some x) : (rr n h i < c ∧ x.cpu = (cq c q (rr n h i) : Int)) ∨ (c ≤ rr n h i ∧ x.cpu = -1) := by
  have := (hs.each i x hx).2.2.2.2.2.2.2.2
  split at this
  · exact .inl ⟨‹_›, this⟩
  · exact .inr ⟨by omega, this⟩
theorem all_pin {c k : Nat} {x : ST} (h : x.pin = 2 ^ c - 1) (hk : k < c) : pinB x k = true := by
  unfold pinB
  rw [h, Nat.testBit_two_pow_sub_one]
  simpa using hk
theorem prio_better {x y : ST} (hx : x.cl = 2 ∧ x.mo = 0) (hy : y.cl = 2 ∧ y.mo = 0) (hv : x.va = y.va) (hs : x.si < y.si) : Better x y := by
  have ax : asC x = 2 := by unfold asC; rw [hx.2, hx.1]; rfl
  have ay : asC y = 2 := by unfold asC; rw [hy.2, hy.1]; rfl
  have vx : asV x = x.va := by unfold asV; rw [hx.2]; rfl
  have vy : asV y = y.va := by unfold asV; rw [hy.2]; rfl
  have k1 : key1 x = - x.va := by unfold key1; rw [ax, vx]; rfl
  have k2 : key1 y = - y.va := by unfold key1; rw [ay, vy]; rfl
  have k3 : key2 x = x.si := by unfold key2; rw [ax]; rfl
  have k4 : key2 y = y.si := by unfold key2; rw [ay]; rfl
  unfold Better
  omega
theorem on_some_of {ts : List ST} {i : Nat} {x : ST} {c : Int} (hx : ts[i]? = some x) (hc : x.cpu = c) : ∃ j, onI ts c = some j := by
  cases h : onI ts c with
  | some j => exact ⟨j, rfl⟩
  | none => exact (on_none_iff h i x hx hc).elim
/-- One processor is idle: the best of all gets it. -/
theorem fill_gap {us : List ST} {c q b : Nat} (hq : q < c) (hb : bestI us q = some b) (hon : onI us q = none) (hoth : ∀ k, k < c → k ≠ q → ∃ (j : Nat) (x : ST), us[j]? = some x ∧ x.cpu = (k : Int)) :
    fillK us c = upd us b (fun x => { x with cpu := q }) := by
  obtain ⟨_, xb, hxb, hwb, _⟩ := bestK_lt hb
  have hcb := (wait_cpu hwb).1
  have key : ∀ m, m ≤ c → fillK us m = if m ≤ q then us else upd us b (fun x => { x with cpu := q }) := by
    intro m
    induction m with
    | zero => intro _; rw [if_pos (by omega)]; rfl
    | succ m ih =>
      intro hm
      have ih := ih (by omega)
      by_cases h1 : m < q
      · rw [if_pos (by omega)] at ih
        obtain ⟨j, x, hx, hxc⟩ := hoth m (by omega) (by omega)
        obtain ⟨k, hk⟩ := on_some_of hx hxc
        rw [fillK_on k (by rw [ih]; exact hk), ih, if_pos (by omega)]
      · by_cases h2 : m = q
        · subst h2
          rw [if_pos (by omega)] at ih
          rw [fillK_to b (by rw [ih]; exact hon) (by rw [ih]; exact hb), ih, if_neg (by omega)]
        · rw [if_neg (by omega)] at ih
          obtain ⟨j, x, hx, hxc⟩ := hoth m (by omega) h2
          have hjb : b ≠ j := by
            rintro rfl
            rw [hxb] at hx
            injection hx with hx
            subst hx
            omega
          obtain ⟨k, hk⟩ := on_some_of (ts := upd us b (fun x => { x with cpu := q })) (i := j) (x := x) (by rw [upd_get, if_neg hjb]; exact hx) hxc
          rw [fillK_on k (by rw [ih]; exact hk), ih, if_neg (by omega)]
  have := key c (Nat.le_refl _)
  rwa [if_neg (by omega)] at this
/-- Those from q on are idle, and just one waits: it gets the first of them. -/
theorem fill_first {us : List ST} {c q b : Nat} {xb : ST} (hq : q < c) (hxb : us[b]? = some xb) (hwb : waitB xb = true) (hpb : ∀ k, k < c → pinB xb k = true) (honly : ∀ (j : Nat) (y : ST), us[j]? = some y → j ≠ b → waitB y = false)
    (hbusy : ∀ k, k < q → ∃ (j : Nat) (x : ST), us[j]? = some x ∧ x.cpu = (k : Int)) (hidle : ∀ (j : Nat) (y : ST), us[j]? = some y → y.cpu < (q : Int)) : fillK us c = upd us b (fun x => { x with cpu := q }) := by
  have hcb := (wait_cpu hwb).1
  have hbest : ∀ k, k < c → bestI us k = some b := fun k hk => best_is hxb hwb (hpb k hk) (fun j y hy hj hw => by rw [honly j y hy hj] at hw; cases hw)
  have key : ∀ m, m ≤ c → fillK us m = if m ≤ q then us else upd us b (fun x => { x with cpu := q }) := by
    intro m
    induction m with
    | zero => intro _; rw [if_pos (by omega)]; rfl
    | succ m ih =>
      intro hm
      have ih := ih (by omega)
      by_cases h1 : m < q
      · rw [if_pos (by omega)] at ih
        obtain ⟨j, x, hx, hxc⟩ := hbusy m h1
        obtain ⟨k, hk⟩ := on_some_of hx hxc
        rw [fillK_on k (by rw [ih]; exact hk), ih, if_pos (by omega)]
      · by_cases h2 : m = q
        · subst h2
          rw [if_pos (by omega)] at ih
          have hon : onI us m = none := on_no (fun j y hy hc => by have := hidle j y hy; omega)
          rw [fillK_to b (by rw [ih]; exact hon) (by rw [ih]; exact hbest m hq), ih, if_neg (by omega)]
        · rw [if_neg (by omega)] at ih
          have hon : onI (upd us b (fun x => { x with cpu := q })) m = none := on_no (fun j y hy hc => by
            rw [upd_get] at hy
            split at hy
            · rename_i hbj
              subst hbj
              rw [hxb] at hy
              simp at hy
              subst hy
              have : ((q : Nat) : Int) = m := hc
              omega
            · have := hidle j y hy; omega)
          have hno : bestI (upd us b (fun x => { x with cpu := q })) m = none := best_no (fun j y hy hw _ => by
            rw [upd_get] at hy
            split at hy
            · rename_i hbj
              subst hbj
              rw [hxb] at hy
              simp at hy
              subst hy
              have := (wait_cpu hw).1
              have h3 : ((q : Nat) : Int) < 0 := this
              omega
            · rename_i hbj
              rw [honly j y hy (fun hh => hbj hh.symm)] at hw
              cases hw)
          rw [fillK_no (by rw [ih]; exact hon) (by rw [ih]; exact hno), ih, if_neg (by omega)]
  have := key c (Nat.le_refl _)
  rwa [if_neg (by omega)] at this
theorem fill_busy {us : List ST} {c : Nat} (hbusy : ∀ k, k < c → ∃ (j : Nat) (x : ST), us[j]? = some x ∧ x.cpu = (k : Int)) : fillK us c = us := by
  have key : ∀ m, m ≤ c → fillK us m = us := by
    intro m
    induction m with
    | zero => intro _; rfl
    | succ m ih =>
      intro hm
      have ih := ih (by omega)
      obtain ⟨j, x, hx, hxc⟩ := hbusy m (by omega)
      obtain ⟨k, hk⟩ := on_some_of hx hxc
      rw [fillK_on k (by rw [ih]; exact hk), ih]
  exact key c (Nat.le_refl _)
theorem ro_new (c : Nat) (v : Int) : RoS c 0 v 0 0 ⟨c, 0, 0, []⟩ := ⟨rfl, rfl, fun i x h => by simp at h, fun i j x y h => by simp at h⟩
theorem gone_prio {x : ST} (h : x.cl = 2) (st : Int) : gone st x = { x with cpu := -1, si := st + 1 } := by
  unfold gone runT
  rw [if_neg (by omega), if_neg (by omega)]
theorem rr_lt {n h i : Nat} (hh : h < n) (hi : i < n) : rr n h i < n := by rcases rr_is n h i with h1 | h1 <;> omega
theorem ro_ar {c n h h' b i : Nat} (hc : c ≤ n) (hc0 : 0 < c) (hh : h < n) (hi : i < n) (hh' : (h + 1 = n ∧ h' = 0) ∨ (h + 1 < n ∧ h' = h + 1)) (hb : (h + c < n ∧ b = h + c) ∨ (n ≤ h + c ∧ b = h + c - n)) :
    (i = h → rr n h' i + 1 = n) ∧ (i ≠ h → rr n h' i + 1 = rr n h i) ∧ (i = b → rr n h' i + 1 = c) ∧ (rr n h' i + 1 = c → i = b) := by
  rcases rr_is n h i with ⟨a1, a2⟩ | ⟨a1, a2⟩ <;> rcases rr_is n h' i with ⟨b1, b2⟩ | ⟨b1, b2⟩ <;> rw [a2, b2] <;> clear a2 b2 <;> rcases hh' with ⟨c1, rfl⟩ | ⟨c1, rfl⟩ <;> rcases hb with ⟨d1, rfl⟩ | ⟨d1, rfl⟩ <;> (refine ⟨fun _ => ?_, fun _ => ?_, fun _ => ?_, fun _ => ?_⟩ <;> omega)
theorem cq_ar {c q q' r r' : Nat} (hq : q < c) (hq' : (q + 1 = c ∧ q' = 0) ∨ (q + 1 < c ∧ q' = q + 1)) (hr : r' + 1 = r) (hrc : r < c) : cq c q' r' = cq c q r := by
  rcases cq_is c q r with ⟨a1, a2⟩ | ⟨a1, a2⟩ <;> rcases cq_is c q' r' with ⟨b1, b2⟩ | ⟨b1, b2⟩ <;> rw [a2, b2] <;> clear a2 b2 <;> rcases hq' with ⟨c1, rfl⟩ | ⟨c1, rfl⟩ <;> omega
theorem cq_last {c q q' r' : Nat} (hq : q < c) (hq' : (q + 1 = c ∧ q' = 0) ∨ (q + 1 < c ∧ q' = q + 1)) (hr : r' + 1 = c) : cq c q' r' = q := by
  rcases cq_is c q' r' with ⟨b1, b2⟩ | ⟨b1, b2⟩ <;> rw [b2] <;> clear b2 <;> rcases hq' with ⟨c1, rfl⟩ | ⟨c1, rfl⟩ <;> omega
set_option maxHeartbeats 1000000 in
theorem ro_tick {c n : Nat} {v : Int} {h q h' q' : Nat} {s : SR} (hs : RoS c n v h q s) (hc : c ≤ n) (hh : h < n) (hq : q < c) (hh' : (h + 1 = n ∧ h' = 0) ∨ (h + 1 < n ∧ h' = h + 1)) (hq' : (q + 1 = c ∧ q' = 0) ∨ (q + 1 < c ∧ q' = q + 1)) :
    pickV s (q : Nat) = .tuple #[.int .i64 ((h : Int) + 1), .int .i64 0] ∧ RoS c n v h' q' (s.tick q) := by
  obtain ⟨x0, hx0⟩ : ∃ x, s.ts[h]? = some x := ⟨_, List.getElem?_eq_getElem (by rw [hs.len]; exact hh)⟩
  have hil : ∀ (i : Nat) (x : ST), s.ts[i]? = some x → i < n := fun i x hx => by have := (List.getElem?_eq_some_iff.1 hx).1; rw [hs.len] at this; exact this
  have e0 := hs.each h x0 hx0
  have hon : onI s.ts (q : Nat) = some h := by
    refine on_is hx0 ?_ (fun j y hy hcy => ?_)
    · have h1 := hs.run hx0
      have h2 := rr_is n h h
      have h3 := cq_is c q (rr n h h)
      omega
    · have h1 := hs.run hy
      have h2 := rr_is n h j
      have h3 := cq_is c q (rr n h j)
      have hj := hil j y hy
      omega
  refine ⟨by rw [pick_some hon hx0, e0.1], ?_⟩
  have et := tick_calm (c := (q : Int)) hon (fun x hx => by
    obtain ⟨i, hi⟩ := List.mem_iff_getElem?.1 hx
    exact (hs.each i x hi).2.2.2.2.2.1) (fun x hx => by have := (hs.each h x hx).2.1; omega)
  obtain ⟨us, hus⟩ : ∃ us, us = upd s.ts h (gone s.st) := ⟨_, rfl⟩
  rw [← hus] at et
  have hul : us.length = n := by rw [hus, upd_len, hs.len]
  have key : ∀ (i : Nat) (x : ST), us[i]? = some x → x.t = (i : Int) + 1 ∧ x.cl = 2 ∧ x.va = v ∧ x.mo = 0 ∧ x.r = true ∧ x.o = false ∧ x.pin = 2 ^ c - 1 ∧ ((i = h ∧ x.cpu = -1 ∧ x.si = s.st + 1) ∨ (i ≠ h ∧ s.ts[i]? = some x)) := by
    intro i x hx
    rw [hus, upd_get] at hx
    split at hx
    · rename_i hi
      subst hi
      rw [hx0] at hx
      simp only [Option.map_some, Option.some.injEq] at hx
      rw [gone_prio e0.2.1] at hx
      subst hx
      exact ⟨e0.1, e0.2.1, e0.2.2.1, e0.2.2.2.1, e0.2.2.2.2.1, e0.2.2.2.2.2.1, e0.2.2.2.2.2.2.1, .inl ⟨rfl, rfl, rfl⟩⟩
    · rename_i hi
      have e := hs.each i x hx
      exact ⟨e.1, e.2.1, e.2.2.1, e.2.2.2.1, e.2.2.2.2.1, e.2.2.2.2.2.1, e.2.2.2.2.2.2.1, .inr ⟨fun hh => hi hh.symm, hx⟩⟩
  have ulen : ∀ (i : Nat) (x : ST), us[i]? = some x → i < n := fun i x hx => by have := (List.getElem?_eq_some_iff.1 hx).1; omega
  -- where each stands: who ran waits as the last, all others as they were
  have ucpu : ∀ (i : Nat) (x : ST), us[i]? = some x → (i = h ∧ x.cpu = -1) ∨ (i ≠ h ∧ rr n h i < c ∧ x.cpu = (cq c q (rr n h i) : Int)) ∨ (i ≠ h ∧ c ≤ rr n h i ∧ x.cpu = -1) := by
    intro i x hx
    rcases (key i x hx).2.2.2.2.2.2.2 with h1 | ⟨h1, h2⟩
    · exact .inl ⟨h1.1, h1.2.1⟩
    · rcases hs.run h2 with h3 | h3
      · exact .inr (.inl ⟨h1, h3.1, h3.2⟩)
      · exact .inr (.inr ⟨h1, h3.1, h3.2⟩)
  obtain ⟨b, hb⟩ : ∃ b : Nat, (h + c < n ∧ b = h + c) ∨ (n ≤ h + c ∧ b = h + c - n) := by
    by_cases h1 : h + c < n
    · exact ⟨h + c, .inl ⟨h1, rfl⟩⟩
    · exact ⟨h + c - n, .inr ⟨by omega, rfl⟩⟩
  have hbn : b < n := by omega
  obtain ⟨xb, hxb⟩ : ∃ x, us[b]? = some x := ⟨_, List.getElem?_eq_getElem (by rw [hul]; exact hbn)⟩
  have kb := key b xb hxb
  have hbcpu : xb.cpu = -1 := by
    have h1 := ucpu b xb hxb
    have h2 := rr_is n h b
    omega
  have hbsi : ∀ (j : Nat) (y : ST), us[j]? = some y → j ≠ b → y.cpu = -1 → xb.si < y.si := by
    intro j y hy hj hyc
    have ky := key j y hy
    have hjn := ulen j y hy
    have u1 := ucpu j y hy
    have u2 := rr_is n h j
    have u3 := rr_is n h b
    rcases kb.2.2.2.2.2.2.2 with h1 | ⟨h1, h2⟩
    · exfalso
      have hbh := h1.1
      omega
    · rcases ky.2.2.2.2.2.2.2 with h3 | ⟨h3, h4⟩
      · rw [h3.2.2]
        have := (hs.each b xb h2).2.2.2.2.2.2.2.1
        omega
      · exact hs.fifo b j xb y h2 h4 (by omega) (by omega)
  have hbest : bestI us q = some b := by
    refine best_is hxb (one_wait kb.2.2.2.2.1 kb.2.2.2.2.2.1 hbcpu) (all_pin kb.2.2.2.2.2.2.1 hq) (fun j y hy hj hw _ => ?_)
    have ky := key j y hy
    have hyc : y.cpu = -1 := by
      have h1 := (wait_cpu hw).1
      have u1 := ucpu j y hy
      omega
    exact prio_better ⟨kb.2.1, kb.2.2.2.1⟩ ⟨ky.2.1, ky.2.2.2.1⟩ (by rw [kb.2.2.1, ky.2.2.1]) (hbsi j y hy hj hyc)
  have hon2 : onI us (q : Nat) = none := on_no (fun j y hy hcy => by
    have u1 := ucpu j y hy
    have u2 := rr_is n h j
    have u3 := cq_is c q (rr n h j)
    have := ulen j y hy
    omega)
  have hoth : ∀ k, k < c → k ≠ q → ∃ (j : Nat) (x : ST), us[j]? = some x ∧ x.cpu = (k : Int) := by
    intro k hk hkq
    obtain ⟨r, hr⟩ : ∃ r : Nat, (q ≤ k ∧ r = k - q) ∨ (k < q ∧ r = k + c - q) := by
      by_cases h1 : q ≤ k
      · exact ⟨k - q, .inl ⟨h1, rfl⟩⟩
      · exact ⟨k + c - q, .inr ⟨by omega, rfl⟩⟩
    obtain ⟨j, hj⟩ : ∃ j : Nat, (h + r < n ∧ j = h + r) ∨ (n ≤ h + r ∧ j = h + r - n) := by
      by_cases h1 : h + r < n
      · exact ⟨h + r, .inl ⟨h1, rfl⟩⟩
      · exact ⟨h + r - n, .inr ⟨by omega, rfl⟩⟩
    obtain ⟨y, hy⟩ : ∃ x, us[j]? = some x := ⟨_, List.getElem?_eq_getElem (by rw [hul]; omega)⟩
    refine ⟨j, y, hy, ?_⟩
    have u1 := ucpu j y hy
    have u2 := rr_is n h j
    have u3 := cq_is c q (rr n h j)
    omega
  have ef : s.tick (q : Nat) = ⟨s.n, s.tk + 1, s.st + 1, upd us b (fun x => { x with cpu := (q : Nat) })⟩ := by
    rw [et]
    unfold SR.fill
    show SR.mk s.n (s.tk + 1) (s.st + 1) (fillK us s.n) = _
    rw [hs.nn, fill_gap hq hbest hon2 hoth]
  rw [ef]
  have fin : ∀ (i : Nat) (x : ST), (upd us b (fun x => { x with cpu := (q : Nat) }))[i]? = some x → ∃ y, us[i]? = some y ∧ ((i = b ∧ x = { y with cpu := (q : Nat) }) ∨ (i ≠ b ∧ x = y)) := by
    intro i x hx
    rw [upd_get] at hx
    split at hx
    · rename_i hi
      subst hi
      rw [hxb] at hx
      simp only [Option.map_some, Option.some.injEq] at hx
      exact ⟨xb, hxb, .inl ⟨rfl, hx.symm⟩⟩
    · rename_i hi
      exact ⟨x, hx, .inr ⟨fun hh => hi hh.symm, rfl⟩⟩
  refine ⟨hs.nn, by show (upd us b _).length = n; rw [upd_len]; exact hul, fun i x hx => ?_, fun i j x y hx hy hri hrij => ?_⟩
  · obtain ⟨y, hy, hxy⟩ := fin i x hx
    have ky := key i y hy
    have hin := ulen i y hy
    have u1 := ucpu i y hy
    obtain ⟨v1, v2, v3, v4⟩ := ro_ar hc (by omega) hh hin hh' hb
    have hsi : x.si ≤ s.st + 1 := by
      have h1 : x.si = y.si := by rcases hxy with ⟨_, rfl⟩ | ⟨_, rfl⟩ <;> rfl
      rw [h1]
      rcases ky.2.2.2.2.2.2.2 with h3 | ⟨h3, h4⟩
      · omega
      · have := (hs.each i y h4).2.2.2.2.2.2.2.1; omega
    have hcpu : x.cpu = if rr n h' i < c then (cq c q' (rr n h' i) : Int) else -1 := by
      have hxc : (i = b ∧ x.cpu = (q : Int)) ∨ (i ≠ b ∧ x.cpu = y.cpu) := by
        rcases hxy with ⟨h1, rfl⟩ | ⟨h1, rfl⟩
        · exact .inl ⟨h1, rfl⟩
        · exact .inr ⟨h1, rfl⟩
      rcases hxc with ⟨h1, h2⟩ | ⟨h1, h2⟩
      · have h3 := v3 h1
        rw [h2, if_pos (by omega), cq_last hq hq' h3]
      · have h3 : ¬ rr n h' i + 1 = c := fun hh => h1 (v4 hh)
        rw [h2]
        rcases u1 with ⟨h4, h5⟩ | ⟨h4, h5, h6⟩ | ⟨h4, h5, h6⟩
        · have h7 := v1 h4
          rw [h5, if_neg (by omega)]
        · have h7 := v2 h4
          rw [h6, if_pos (by omega), cq_ar hq hq' h7 h5]
        · have h7 := v2 h4
          rw [h6, if_neg (by omega)]
    have hrest : x.t = y.t ∧ x.cl = y.cl ∧ x.va = y.va ∧ x.mo = y.mo ∧ x.r = y.r ∧ x.o = y.o ∧ x.pin = y.pin := by
      rcases hxy with ⟨_, rfl⟩ | ⟨_, rfl⟩ <;> exact ⟨rfl, rfl, rfl, rfl, rfl, rfl, rfl⟩
    obtain ⟨r1, r2, r3, r4, r5, r6, r7⟩ := hrest
    exact ⟨by rw [r1]; exact ky.1, by rw [r2]; exact ky.2.1, by rw [r3]; exact ky.2.2.1, by rw [r4]; exact ky.2.2.2.1, by rw [r5]; exact ky.2.2.2.2.1, by rw [r6]; exact ky.2.2.2.2.2.1, by rw [r7]; exact ky.2.2.2.2.2.2.1, hsi, hcpu⟩
  · obtain ⟨x', hx', hxx⟩ := fin i x hx
    obtain ⟨y', hy', hyy⟩ := fin j y hy
    have kx := key i x' hx'
    have ky := key j y' hy'
    have hin := ulen i x' hx'
    have hjn := ulen j y' hy'
    have hxs : x.si = x'.si := by rcases hxx with ⟨_, rfl⟩ | ⟨_, rfl⟩ <;> rfl
    have hys : y.si = y'.si := by rcases hyy with ⟨_, rfl⟩ | ⟨_, rfl⟩ <;> rfl
    rw [hxs, hys]
    obtain ⟨v1, v2, v3, v4⟩ := ro_ar hc (by omega) hh hin hh' hb
    obtain ⟨w1, w2, w3, w4⟩ := ro_ar hc (by omega) hh hjn hh' hb
    have hjl : rr n h' j < n := rr_lt (by omega) hjn
    rcases kx.2.2.2.2.2.2.2 with h3 | ⟨h3, h4⟩
    · exfalso
      have := v1 h3.1
      omega
    · have v5 := v2 h3
      rcases ky.2.2.2.2.2.2.2 with h5 | ⟨h5, h6⟩
      · rw [h5.2.2]
        have := (hs.each i x' h4).2.2.2.2.2.2.2.1
        omega
      · have w5 := w2 h5
        exact hs.fifo i j x' y' h4 h6 (by omega) (by omega)
end Go.Proofs.Ythcgeigijnbpkaa
