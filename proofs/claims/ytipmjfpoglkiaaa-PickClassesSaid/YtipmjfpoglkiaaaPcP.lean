/- Plain words for the law PickClasses: what the scheduler holds, and what each play makes of it. No program in sight; no condition. -/
import Derived.Test.YtipmjfpoglkiaaaPk11
namespace Go.Proofs.Ytipmjfpoglkiaaa
open Go.RowKit
set_option linter.unusedVariables false
def clsN (t : Nat) : Nat := if t ≤ 3 then 1 else if t ≤ 6 then 2 else 3
def qOf (o : Nat → Bool) (v : Nat) : List Int := if v < 3 ∧ o (v + 4) = false then [((v + 4 : Nat) : Int)] else []
def updO (o : Nat → Bool) (t : Nat) (b : Bool) : Nat → Bool := fun i => if i = t then b else o i
theorem updO_same (o : Nat → Bool) (t : Nat) : updO o t (o t) = o := by
  funext i
  unfold updO
  split
  · rename_i h; rw [h]
  · rfl
/-- Tasks 1 to 3 of fair shares, 4 to 6 of fixed priorities, 7 to 9 with deadlines; o tells who is off. -/
structure PcI (m : Nat) (o : Nat → Bool) (s : PKS) : Prop where
  tl : s.ts.length = 3
  tk : ∀ x ∈ s.ts, FOk (m * 1048576) x
  tt : ∀ (i : Nat) x, s.ts[i]? = some x → x.t = i + 1 ∧ x.r = !o (i + 1)
  dl : s.ds.length = 3
  dk : ∀ x ∈ s.ds, DOk s.nw x
  dt : ∀ (i : Nat) x, s.ds[i]? = some x → x.t = i + 7 ∧ x.r = !o (i + 7)
  b : s.b < 256
  bt : ∀ v, v < 8 → (s.b.testBit v = true ↔ s.q v ≠ [])
  q : ∀ v, v < 8 → s.q v = qOf o v
  cl : ∀ t : Nat, 1 ≤ t → t ≤ 9 → s.cl (t : Int) = some (.int .i64 (clsN t : Nat))
  c0 : s.cl 0 = none
  va : ∀ v : Nat, v < 3 → s.va ((v + 4 : Nat) : Int) = some (.int .i64 (v : Int))
  of : ∀ t : Nat, 1 ≤ t → t ≤ 9 → s.of (t : Int) = if o t then some (.bool true) else none
  nw : s.nw ≤ m
  u0 : 0 ≤ s.used
  u1 : s.used ≤ m
theorem FOk.upto {V V' : Nat} {x : FT} (h : FOk V x) (hV : V ≤ V') : FOk V' x := ⟨h.t1, h.t2, h.w1, h.w2, h.g0, Nat.le_trans h.v2 hV⟩
theorem qOf_len (o : Nat → Bool) (v : Nat) : (qOf o v).length ≤ 1 := by unfold qOf; split <;> simp
section
variable {m : Nat} {o : Nat → Bool} {s s' : PKS} {t : Nat}
theorem PcI.u_next (h : PcI m o s) : s.used ≤ ((m + 1 : Nat) : Int) := by have := h.u1; omega
theorem PcI.more (h : PcI m o s) : PcI (m + 1) o s :=
  ⟨h.tl, fun x hx => (h.tk x hx).upto (by omega), h.tt, h.dl, h.dk, h.dt, h.b, h.bt, h.q, h.cl, h.c0, h.va, h.of, Nat.le_succ_of_le h.nw, h.u0, h.u_next⟩
theorem of_upd {o : Nat → Bool} {f : Int → Option Value} {t : Nat} {b : Bool} (h : ∀ t : Nat, 1 ≤ t → t ≤ 9 → f (t : Int) = if o t then some (.bool true) else none) : ∀ k : Nat, 1 ≤ k → k ≤ 9 → updM f (t : Int) (if b then some (.bool true) else none) (k : Int) = if updO o t b k then some (.bool true) else none := by
  intro k h1 h2
  unfold updM updO
  by_cases hk : k = t
  · subst hk; rw [if_pos rfl, if_pos rfl]
  · rw [if_neg (by omega), if_neg hk]; exact h k h1 h2
theorem PcI.setF (h : PcI m o s) {i : Nat} (hi : i < 3) {y : FT} (hy : FOk (m * 1048576) y) (yt : y.t = i + 1) (b : Bool) (yr : y.r = !b) : PcI (m + 1) (updO o (i + 1) b) { s with ts := s.ts.set i y, of := updM s.of ((i + 1 : Nat) : Int) (if b then some (.bool true) else none) } := by
  refine ⟨by rw [List.length_set]; exact h.tl, fun x hx => ?_, fun j x hx => ?_, h.dl, h.dk, fun j x hx => ?_, h.b, h.bt, fun v hv => ?_, h.cl, h.c0, h.va, of_upd h.of, Nat.le_succ_of_le h.nw, h.u0, h.u_next⟩
  · rcases List.mem_or_eq_of_mem_set hx with h1 | h1
    · exact (h.tk x h1).upto (by omega)
    · subst h1; exact hy.upto (by omega)
  · have hx : (s.ts.set i y)[j]? = some x := hx
    rw [List.getElem?_set] at hx
    by_cases hij : i = j
    · subst hij
      rw [if_pos rfl, if_pos (by rw [h.tl]; exact hi)] at hx
      injection hx with hx
      subst hx
      exact ⟨yt, by rw [yr]; simp [updO]⟩
    · rw [if_neg hij] at hx
      have := h.tt j x hx
      exact ⟨this.1, by rw [this.2]; simp [updO]; omega⟩
  · have hj : j < 3 := by have := (List.getElem?_eq_some_iff.1 hx).1; rw [← h.dl]; exact this
    have := h.dt j x hx
    refine ⟨this.1, ?_⟩
    rw [this.2]
    unfold updO
    rw [if_neg (by omega)]
  · show s.q v = _
    rw [h.q v hv]
    unfold qOf updO
    rw [if_neg (show ¬ v + 4 = i + 1 by omega)]
theorem PcI.setD (h : PcI m o s) {i : Nat} (hi : i < 3) {y : DT} (hy : DOk s.nw y) (yt : y.t = i + 7) (b : Bool) (yr : y.r = !b) : PcI (m + 1) (updO o (i + 7) b) { s with ds := s.ds.set i y, of := updM s.of ((i + 7 : Nat) : Int) (if b then some (.bool true) else none) } := by
  refine ⟨h.tl, fun x hx => (h.tk x hx).upto (by omega), fun j x hx => ?_, by rw [List.length_set]; exact h.dl, fun x hx => ?_, fun j x hx => ?_, h.b, h.bt, fun v hv => ?_, h.cl, h.c0, h.va, of_upd h.of, Nat.le_succ_of_le h.nw, h.u0, h.u_next⟩
  · have hj : j < 3 := by have := (List.getElem?_eq_some_iff.1 hx).1; rw [← h.tl]; exact this
    have := h.tt j x hx
    refine ⟨this.1, ?_⟩
    rw [this.2]
    unfold updO
    rw [if_neg (by omega)]
  · rcases List.mem_or_eq_of_mem_set hx with h1 | h1
    · exact h.dk x h1
    · subst h1; exact hy
  · have hx : (s.ds.set i y)[j]? = some x := hx
    rw [List.getElem?_set] at hx
    by_cases hij : i = j
    · subst hij
      rw [if_pos rfl, if_pos (by rw [h.dl]; exact hi)] at hx
      injection hx with hx
      subst hx
      exact ⟨yt, by rw [yr]; simp [updO]⟩
    · rw [if_neg hij] at hx
      have := h.dt j x hx
      exact ⟨this.1, by rw [this.2]; simp [updO]; omega⟩
  · show s.q v = _
    rw [h.q v hv]
    unfold qOf updO
    by_cases hv3 : v < 3
    · rw [if_neg (show ¬ v + 4 = i + 7 by omega)]
    · rw [if_neg (fun hh => hv3 hh.1), if_neg (fun hh => hv3 hh.1)]
theorem PcI.setQ (h : PcI m o s) {v : Nat} (hv : v < 3) (b : Bool) (b' : Nat) (hb : b' < 256) (hbt : ∀ i, i < 8 → b'.testBit i = if i = v then !b else s.b.testBit i) : PcI (m + 1) (updO o (v + 4) b) { s with b := b', q := upF s.q v (if b then [] else [((v + 4 : Nat) : Int)]), of := updM s.of ((v + 4 : Nat) : Int) (if b then some (.bool true) else none) } := by
  refine ⟨h.tl, fun x hx => (h.tk x hx).upto (by omega), fun j x hx => ?_, h.dl, h.dk, fun j x hx => ?_, hb, fun i hi => ?_, fun i hi => ?_, h.cl, h.c0, h.va, of_upd h.of, Nat.le_succ_of_le h.nw, h.u0, h.u_next⟩
  · have hj : j < 3 := by have := (List.getElem?_eq_some_iff.1 hx).1; rw [← h.tl]; exact this
    have := h.tt j x hx
    refine ⟨this.1, ?_⟩
    rw [this.2]
    unfold updO
    rw [if_neg (by omega)]
  · have hj : j < 3 := by have := (List.getElem?_eq_some_iff.1 hx).1; rw [← h.dl]; exact this
    have := h.dt j x hx
    refine ⟨this.1, ?_⟩
    rw [this.2]
    unfold updO
    rw [if_neg (by omega)]
  · show b'.testBit i = true ↔ upF s.q v _ i ≠ []
    rw [hbt i hi]
    by_cases hiv : i = v
    · subst hiv
      rw [if_pos rfl, upF_same]
      cases b <;> simp
    · rw [if_neg hiv, upF_ne _ _ hiv]
      exact h.bt i hi
  · show upF s.q v _ i = _
    by_cases hiv : i = v
    · subst hiv
      rw [upF_same]
      unfold qOf updO
      cases b <;> simp [hv]
    · rw [upF_ne _ _ hiv, h.q i hi]
      unfold qOf updO
      rw [if_neg (show ¬ i + 4 = v + 4 by omega)]
theorem prOf_one (q : Nat → List Int) (t : Int) (v : Nat) (hv : t ∈ q v) (ho : ∀ i, i ≠ v → t ∉ q i) : ∀ k, prOf q t k = if v < k then (v : Int) else -1
  | 0 => by simp [prOf]
  | k + 1 => by
    unfold prOf
    rw [prOf_one q t v hv ho k]
    by_cases h1 : v < k
    · rw [if_pos h1, if_neg (by omega), if_pos (by omega)]
    · rw [if_neg h1, if_pos rfl]
      by_cases h2 : k = v
      · subst h2; rw [if_pos hv, if_pos (by omega)]
      · rw [if_neg (ho k h2), if_neg (by omega)]
theorem PcI.at (h : PcI m o s) {v : Nat} (hv : v < 3) (h0 : o (v + 4) = false) (q0 : ∀ i, 8 ≤ i → True) : s.q v = [((v + 4 : Nat) : Int)] := by
  rw [h.q v (by omega)]
  unfold qOf
  rw [if_pos ⟨hv, h0⟩]
theorem prOf_cong {q q' : Nat → List Int} (t : Int) : ∀ k, (∀ i, i < k → q i = q' i) → prOf q t k = prOf q' t k
  | 0, _ => rfl
  | k + 1, h => by
    unfold prOf
    rw [prOf_cong t k (fun i hi => h i (by omega)), h k (by omega)]
theorem qOf_mem {o : Nat → Bool} {i : Nat} {t : Int} (h : t ∈ qOf o i) : i < 3 ∧ o (i + 4) = false ∧ t = ((i + 4 : Nat) : Int) := by
  unfold qOf at h
  split at h
  · rename_i hh
    exact ⟨hh.1, hh.2, List.mem_singleton.1 h⟩
  · cases h
theorem PcI.prYes (h : PcI m o s) {v : Nat} (hv : v < 3) (h0 : o (v + 4) = false) : prOf s.q ((v + 4 : Nat) : Int) 8 = (v : Int) := by
  rw [prOf_cong _ 8 h.q, prOf_one (qOf o) _ v (by unfold qOf; rw [if_pos ⟨hv, h0⟩]; simp) (fun i hi hm => by have := (qOf_mem hm).2.2; omega), if_pos (by omega)]
theorem PcI.prNo (h : PcI m o s) {v : Nat} (h0 : o (v + 4) = true) : prOf s.q ((v + 4 : Nat) : Int) 8 = -1 := by
  rw [prOf_cong _ 8 h.q]
  refine prOf_none _ _ (fun i hi hm => ?_) 8 (by omega)
  obtain ⟨a1, a2, a3⟩ := qOf_mem hm
  have : i = v := by omega
  subst this
  rw [h0] at a2; cases a2
theorem PcI.numF (h : PcI m o s) {i : Nat} (hi : i < 3) : ∃ x, NumF s.ts i x ((i + 1 : Nat) : Int) ∧ x.t = i + 1 ∧ x.r = !o (i + 1) ∧ FOk (m * 1048576) x := by
  have hlt : i < s.ts.length := by rw [h.tl]; exact hi
  have hx := List.getElem?_eq_getElem hlt
  have ht := h.tt i _ hx
  exact ⟨_, ⟨hx, by rw [ht.1], fun j y hj hy => by have := (h.tt j y hy).1; omega⟩, ht.1, ht.2, h.tk _ (List.getElem_mem hlt)⟩
theorem PcI.numD (h : PcI m o s) {i : Nat} (hi : i < 3) : ∃ x, Numbered s.ds i x ((i + 7 : Nat) : Int) ∧ x.t = i + 7 ∧ x.r = !o (i + 7) ∧ DOk s.nw x := by
  have hlt : i < s.ds.length := by rw [h.dl]; exact hi
  have hx := List.getElem?_eq_getElem hlt
  have ht := h.dt i _ hx
  exact ⟨_, ⟨hx, by rw [ht.1], fun j y hj hy => by have := (h.dt j y hy).1; omega⟩, ht.1, ht.2, h.dk _ (List.getElem_mem hlt)⟩
/-- Who is the best, and what is so then. -/
theorem PcI.best (h : PcI m o s) (hb : BestIs s t) : t ≤ 9 ∧ (t ≠ 0 → o t = false) ∧ (∀ x, 1 ≤ x → x ≤ 6 → o x = false → t ≠ 0 ∧ (x - 1) / 3 ≤ (t - 1) / 3) ∧ ClsIs s t := by
  rcases hb with ⟨j, x, ⟨y, hj, hy, he, _⟩, hx, rfl⟩ | ⟨_, h0, r, hr⟩ | ⟨_, h0, b, hb, rfl⟩
  · rw [hx] at hy
    injection hy with hy
    subst hy
    obtain ⟨e1, e2⟩ := h.dt j x hx
    have hj3 : j < 3 := by rw [← h.dl]; exact hj
    have hr : x.r = true := by unfold elig at he; simp at he; exact he.1
    rw [e2] at hr
    have ho : o (j + 7) = false := by simpa using hr
    rw [e1]
    refine ⟨by omega, fun _ => ho, fun x h1 h2 _ => ⟨by omega, by omega⟩, .inr (.inr (.inl ?_))⟩
    have := h.cl (j + 7) (by omega) (by omega)
    rw [this]
    unfold clsN
    rw [if_neg (by omega), if_neg (by omega)]
    rfl
  · obtain ⟨_, v2, _, v4, _⟩ := topB_ok s.b h.b h0
    have hq := h.q _ v2
    have hm : (t : Int) ∈ qOf o (topB s.b) := by rw [← hq, hr]; exact List.mem_cons_self
    obtain ⟨a1, a2, a3⟩ := qOf_mem hm
    obtain rfl : t = topB s.b + 4 := by omega
    refine ⟨by omega, fun _ => a2, fun x h1 h2 _ => ⟨by omega, by omega⟩, .inr (.inr (.inr ⟨?_, topB s.b, r, v2, h.va _ a1, hr, ?_⟩))⟩
    · have := h.cl (topB s.b + 4) (by omega) (by omega)
      rw [this]
      unfold clsN
      rw [if_neg (by omega), if_pos (by omega)]
      rfl
    · rw [hq]; have := qOf_len o (topB s.b); omega
  · have hp : ∀ v, v < 3 → o (v + 4) = true := fun v hv => by
      have hq : s.q v = [] := by
        cases hh : s.q v with
        | nil => rfl
        | cons a l =>
          have := (h.bt v (by omega)).2 (by rw [hh]; simp)
          rw [h0, Nat.zero_testBit] at this; cases this
      rw [h.q v (by omega)] at hq
      unfold qOf at hq
      cases ho : o (v + 4) with
      | true => rfl
      | false => rw [if_pos ⟨hv, ho⟩] at hq; cases hq
    have hp2 : ∀ x, 4 ≤ x → x ≤ 6 → o x = true := fun x h1 h2 => by
      have := hp (x - 4) (by omega)
      rwa [show x - 4 + 4 = x by omega] at this
    cases b with
    | none =>
      have hf : ∀ x, 1 ≤ x → x ≤ 3 → o x = true := fun x h1 h2 => by
        have hlt : x - 1 < s.ts.length := by rw [h.tl]; omega
        have hx := List.getElem?_eq_getElem hlt
        have h3 := hb (x - 1) _ hlt hx
        have h4 := (h.tt _ _ hx).2
        rw [h3, show x - 1 + 1 = x by omega] at h4
        simpa using h4.symm
      refine ⟨Nat.zero_le _, fun hh => absurd rfl hh, fun x h1 h2 h3 => ?_, .inl ⟨rfl, h.c0⟩⟩
      by_cases h4 : x ≤ 3
      · rw [hf x h1 h4] at h3; cases h3
      · rw [hp2 x (by omega) h2] at h3; cases h3
    | some j =>
      obtain ⟨y, hj, hy, hr, _⟩ := hb
      obtain ⟨e1, e2⟩ := h.tt j y hy
      have hj3 : j < 3 := by rw [← h.tl]; exact hj
      have hn : Go.Proofs.Ytipmjfpoglkiaaa.numF s.ts (some j) = j + 1 := by simp [Go.Proofs.Ytipmjfpoglkiaaa.numF, hy, e1]
      rw [hn]
      rw [e2] at hr
      refine ⟨by omega, fun _ => by simpa using hr, fun x h1 h2 h3 => ⟨by omega, ?_⟩, .inr (.inl ?_)⟩
      · by_cases h4 : x ≤ 3
        · omega
        · rw [hp2 x (by omega) h2] at h3; cases h3
      · have := h.cl (j + 1) (by omega) (by omega)
        rw [this]
        unfold clsN
        rw [if_pos (by omega)]
        rfl
theorem runF_okP {V : Nat} {x : FT} (h : FOk V x) : FOk (V + 1048576) (runF x) := ⟨h.t1, h.t2, h.w1, h.w2, h.g0, by have := h.v2; have := cost_le x.w; show x.v + cost x.w ≤ _; omega⟩
theorem PcI.tick (h : PcI m o s) (ht : TickTo s s' t) : PcI (m + 1) o s' := by
  obtain ⟨t1, t2, t3, t4, t5, t6, t7, t8, t9, t10⟩ := ht
  have hV : m * 1048576 + 1048576 = (m + 1) * 1048576 := by omega
  have hu : pkU s t ≤ s.used + 1 ∧ 0 ≤ pkU s t := by have := h.u0; unfold pkU; split <;> omega
  have hq : ∀ v, s'.q v = s.q v := fun v => by
    rcases t10 with h1 | ⟨u, r, hu8, hr, h1⟩
    · rw [h1]
    · rw [h1]
      by_cases hvu : v = u
      · subst hvu
        rw [upF_same]
        have hl := qOf_len o v
        rw [← h.q v hu8, hr] at hl
        have : r = [] := by simpa using hl
        rw [hr, this]; rfl
      · rw [upF_ne _ _ hvu]
  have hts : s'.ts.length = 3 ∧ (∀ x ∈ s'.ts, FOk ((m + 1) * 1048576) x) ∧ ∀ (i : Nat) x, s'.ts[i]? = some x → x.t = i + 1 ∧ x.r = !o (i + 1) := by
    rcases t8 with h1 | ⟨b', hb', h1⟩
    · rw [h1]; exact ⟨h.tl, fun x hx => (h.tk x hx).upto (by omega), h.tt⟩
    · rw [h1]
      cases b' with
      | none => exact ⟨h.tl, fun x hx => (h.tk x hx).upto (by omega), h.tt⟩
      | some j =>
        obtain ⟨y, hj, hy, _, _⟩ := hb'
        have e : tickF s.ts (some j) = s.ts.set j (runF y) := by simp only [tickF]; rw [modify_of runF hy]
        rw [e]
        refine ⟨by rw [List.length_set]; exact h.tl, fun x hx => ?_, fun i x hx => ?_⟩
        · rcases List.mem_or_eq_of_mem_set hx with h2 | h2
          · exact (h.tk x h2).upto (by omega)
          · subst h2; rw [← hV]; exact runF_okP (h.tk y (List.mem_of_getElem? hy))
        · rw [List.getElem?_set] at hx
          by_cases hij : j = i
          · subst hij
            rw [if_pos rfl, if_pos hj] at hx
            injection hx with hx
            subst hx
            exact h.tt j y hy
          · rw [if_neg hij] at hx; exact h.tt i x hx
  have hpass : ∀ l : List DT, l.length = 3 → (∀ x ∈ l, DOk s.nw x) → (∀ (i : Nat) x, l[i]? = some x → x.t = i + 7 ∧ x.r = !o (i + 7)) → (l.map (passT (s.nw + 1))).length = 3 ∧ (∀ x ∈ l.map (passT (s.nw + 1)), DOk (s.nw + 1) x) ∧ ∀ (i : Nat) x, (l.map (passT (s.nw + 1)))[i]? = some x → x.t = i + 7 ∧ x.r = !o (i + 7) := by
    intro l h1 h2 h3
    refine ⟨by rw [List.length_map]; exact h1, fun x hx => ?_, fun i x hx => ?_⟩
    · obtain ⟨y, hy, rfl⟩ := List.mem_map.1 hx
      exact (h2 y hy).pass.1
    · rw [List.getElem?_map] at hx
      cases hy : l[i]? with
      | none => rw [hy] at hx; cases hx
      | some y =>
        rw [hy] at hx
        injection hx with hx
        subst hx
        have := h3 i y hy
        rw [passT_t]
        refine ⟨this.1, ?_⟩
        rw [← this.2]
        unfold passT
        split <;> rfl
  have hds : s'.ds.length = 3 ∧ (∀ x ∈ s'.ds, DOk (s.nw + 1) x) ∧ ∀ (i : Nat) x, s'.ds[i]? = some x → x.t = i + 7 ∧ x.r = !o (i + 7) := by
    rcases t9 with h1 | ⟨b', hb', h1⟩
    · rw [h1]; exact hpass s.ds h.dl h.dk h.dt
    · rw [h1]
      cases b' with
      | none => exact hpass s.ds h.dl h.dk h.dt
      | some j =>
        obtain ⟨y, hj, hy, hel, _⟩ := hb'
        have e : tickTs s.nw s.ds (some j) = (s.ds.set j (runT y)).map (passT (s.nw + 1)) := by simp only [tickTs]; rw [modify_of runT hy]
        rw [e]
        refine hpass _ (by rw [List.length_set]; exact h.dl) (fun x hx => ?_) (fun i x hx => ?_)
        · rcases List.mem_or_eq_of_mem_set hx with h2 | h2
          · exact h.dk x h2
          · subst h2; exact (h.dk y (List.mem_of_getElem? hy)).run hel
        · rw [List.getElem?_set] at hx
          by_cases hij : j = i
          · subst hij
            rw [if_pos rfl, if_pos hj] at hx
            injection hx with hx
            subst hx
            exact h.dt j y hy
          · rw [if_neg hij] at hx; exact h.dt i x hx
  refine ⟨hts.1, hts.2.1, hts.2.2, hds.1, by rw [t3]; exact hds.2.1, hds.2.2, by rw [t7]; exact h.b, fun v hv => by rw [t7, hq v]; exact h.bt v hv, fun v hv => by rw [hq v]; exact h.q v hv, by rw [t4]; exact h.cl, by rw [t4]; exact h.c0, by rw [t5]; exact h.va, by rw [t6]; exact h.of, by rw [t3]; have := h.nw; omega, by rw [t2]; exact hu.2, by rw [t2]; have := h.u1; omega⟩
end
end Go.Proofs.Ytipmjfpoglkiaaa
