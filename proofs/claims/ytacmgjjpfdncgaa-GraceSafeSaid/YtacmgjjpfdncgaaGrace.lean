/- Contracts of the readers and of what waits for them: New, Enter, Leave, Call, over, Run and Reads. Conditions: processors are 0 to 3, turns are below 2^40. -/
import Derived.Test.YtacmgjjpfdncgaaSlices
import Derived.Deep.RegionLaw
import Derived.RegionTactic
namespace Go.Proofs.Ytacmgjjpfdncgaa
open Go.ChangeShapes Go.WideShapes Go.ChangeAt Go.RowKit
set_option linter.unusedVariables false
def upI (f : Nat → Int) (i : Nat) (v : Int) : Nat → Int := fun j => if j = i then v else f j
/-- A call that waits: its number, and which turn of each processor it waits for. -/
structure GCall where
  id : Int
  wt : Nat → Int
def gcCells (x : GCall) : List Value := [.int .i64 x.id, .int .i64 (x.wt 0), .int .i64 (x.wt 1), .int .i64 (x.wt 2), .int .i64 (x.wt 3)]
theorem gc_len (x : GCall) : (gcCells x).length = 5 := rfl
theorem gc_one (x : GCall) : ∀ u ∈ gcCells x, u.oneCell' = true := by
  intro u hu
  simp only [gcCells, List.mem_cons, List.not_mem_nil, or_false] at hu
  rcases hu with rfl | rfl | rfl | rfl | rfl <;> rfl
def grCells (dp tn : Nat → Int) (l : Value) : List Value :=
  [.int .i64 (dp 0), .int .i64 (dp 1), .int .i64 (dp 2), .int .i64 (dp 3), .int .i64 (tn 0), .int .i64 (tn 1), .int .i64 (tn 2), .int .i64 (tn 3), l]
theorem gr_dp (dp tn : Nat → Int) (l : Value) {i : Nat} (hi : i < 4) : (grCells dp tn l)[i]? = some (.int .i64 (dp i)) := by
  rcases i with _ | _ | _ | _ | i <;> first | rfl | omega
theorem gr_tn (dp tn : Nat → Int) (l : Value) {i : Nat} (hi : i < 4) : (grCells dp tn l)[4 + i]? = some (.int .i64 (tn i)) := by
  rcases i with _ | _ | _ | _ | i <;> first | rfl | omega
theorem gr_set_dp (dp tn : Nat → Int) (l : Value) (v : Int) {i : Nat} (hi : i < 4) : (grCells dp tn l).set i (.int .i64 v) = grCells (upI dp i v) tn l := by
  rcases i with _ | _ | _ | _ | i <;> first | rfl | omega
theorem gr_set_tn (dp tn : Nat → Int) (l : Value) (v : Int) {i : Nat} (hi : i < 4) : (grCells dp tn l).set (4 + i) (.int .i64 v) = grCells dp (upI tn i v) l := by
  rcases i with _ | _ | _ | _ | i <;> first | rfl | omega
/-- In block p: how deep each processor reads, its turns, and what waits. -/
def GrAt (w : World) (F : Nat → Prop) (p : Nat) (dp tn : Nat → Int) (l : List GCall) : Prop :=
  ∃ a c G, Blk w p 83 (grCells dp tn (.slice a l.length c)) ∧ Sl w 86 5 a l.length c (l.flatMap gcCells) G ∧ F p ∧ (∀ g, G = some g → F g) ∧ (∀ k, F k → k < w.heap.size) ∧
    ∀ i, i < 4 → 0 ≤ dp i ∧ dp i ≤ 8 ∧ 0 ≤ tn i ∧ tn i ≤ 1099511627776
section
variable {w w' : World} {F H : Nat → Prop} {p : Nat} {dp tn : Nat → Int} {l : List GCall}
theorem GrAt.chg (h : GrAt w F p dp tn l) (hc : Chg H w w') (hd : Dj F H) : GrAt w' F p dp tn l := by
  obtain ⟨a, c, G, h1, h2, h3, h4, h5, h6⟩ := h
  exact ⟨a, c, G, h1.chg hc (hd p h3), h2.chg hc (fun g hg => hd g (h4 g hg)), h3, h4, fun k hk => Nat.lt_of_lt_of_le (h5 k hk) hc.size, h6⟩
theorem GrAt.lt (h : GrAt w F p dp tn l) : ∀ k, F k → k < w.heap.size := by
  obtain ⟨a, c, G, h1, h2, h3, h4, h5, h6⟩ := h
  exact h5
theorem GrAt.bd (h : GrAt w F p dp tn l) : ∀ i, i < 4 → 0 ≤ dp i ∧ dp i ≤ 8 ∧ 0 ≤ tn i ∧ tn i ≤ 1099511627776 := by
  obtain ⟨a, c, G, h1, h2, h3, h4, h5, h6⟩ := h
  exact h6
end
theorem newGrace_ok (w : World) : Calls Try.prog 31 #[] w fun e w' => ∃ F p, e = .returned (.pointer (some ⟨p, 0, none⟩)) ∧ GrAt w' F p (fun _ => 0) (fun _ => 0) [] ∧ Chg Nil w w' ∧ Grew w.heap.size Nil F := by
  go_enter Try.func31, Try.ntmps31
  go_wp2
  go_ret
  refine ⟨One w.heap.size, w.heap.size, rfl, ⟨none, 0, none, Blk.new w _ _, Sl.empty _ _ _ _, rfl, (fun g h => by cases h), ?_, fun i _ => by simp⟩, (Chg.refl _ _).alloc _, ?_⟩
  · intro k hk; rw [show k = w.heap.size from hk]; simp
  · intro k hk; exact .inr (Nat.le_of_eq (show k = w.heap.size from hk).symm)
theorem enter_full (w : World) (F : Nat → Prop) (p i : Nat) (dp tn : Nat → Int) (l : List GCall) (h : GrAt w F p dp tn l) (hi : i < 4) (hd : dp i = 8) :
    Calls Try.prog 34 #[.pointer (some ⟨p, 0, none⟩), .int .i64 i] w fun e w' => e = .returned (.int .i64 6) ∧ w = w' := by
  obtain ⟨a, c, G, hb, hs, h3, h4, h5, h6⟩ := h
  have d0 := hb.cell i
  rw [gr_dp _ _ _ hi, hd] at d0
  clear hb hs hd
  go_enter Try.func34, Try.ntmps34
  go_wp2
  go_ret
  exact ⟨rfl, rfl⟩
theorem GrAt.store (w : World) {F : Nat → Prop} {p : Nat} {dp tn dp' tn' : Nat → Int} {l : List GCall} {w' : World} (h : GrAt w F p dp tn l) (hb : ∀ v, Blk w p 83 (grCells dp tn v) → Blk w' p 83 (grCells dp' tn' v))
    (hc : Chg (One p) w w') (h6 : ∀ i, i < 4 → 0 ≤ dp' i ∧ dp' i ≤ 8 ∧ 0 ≤ tn' i ∧ tn' i ≤ 1099511627776) : GrAt w' F p dp' tn' l := by
  obtain ⟨a, c, G, h1, h2, h3, h4, h5, _⟩ := h
  exact ⟨a, c, G, hb _ h1, h2.chg hc (fun g hg hF => h2.ne_blk h1 (by decide) (by rw [hg, show g = p from hF])), h3, h4, fun k hk => Nat.lt_of_lt_of_le (h5 k hk) hc.size, h6⟩
def enterD (dp : Nat → Int) (i : Nat) : Nat → Int := upI dp i (dp i + 1)
def enterT (dp tn : Nat → Int) (i : Nat) : Nat → Int := if dp i = 0 then upI tn i (tn i + 1) else tn
theorem enter_ok (w : World) (F : Nat → Prop) (p i : Nat) (dp tn : Nat → Int) (l : List GCall) (h : GrAt w F p dp tn l) (hi : i < 4) (hd : dp i < 8) (ht : tn i < 1099511627776) :
    Calls Try.prog 34 #[.pointer (some ⟨p, 0, none⟩), .int .i64 i] w fun e w' => e = .returned (.int .i64 0) ∧ GrAt w' F p (enterD dp i) (enterT dp tn i) l ∧ Chg (One p) w w' := by
  have H := hid h
  obtain ⟨a, c, G, hb, hs, h3, h4, h5, h6⟩ := h
  have b6 := h6 i hi
  obtain ⟨b1, b2, b3, b4⟩ := b6
  have d0 := hb.cell i
  have d1 := hb.cell (4 + i)
  rw [gr_dp _ _ _ hi] at d0
  rw [gr_tn _ _ _ hi] at d1
  have f0 := hb.frozen i
  have f1 := hb.frozen (4 + i)
  have h6' := hid h6
  clear hb hs h6
  by_cases hz : dp i = 0
  · have hz0 : (dp i == 0) = true := by rw [beq_iff_eq]; exact hz
    have HZ := hid hz
    clear hz
    go_enter Try.func34, Try.ntmps34
    go_wp2
    go_region
    go_wp2
    go_region
    go_wp2
    go_ret
    have hc : Chg (One p) w ((w.setCell ⟨p, 4 + i, none⟩ (.int .i64 (tn i + 1))).setCell ⟨p, i, none⟩ (.int .i64 (dp i + 1))).drew.drew :=
      ((((Chg.refl (One p) w).setCell (p := ⟨p, 4 + i, none⟩) (.inl rfl) _).setCell (p := ⟨p, i, none⟩) (.inl rfl) _).drew).drew
    refine ⟨rfl, H.out.store w (fun v hv => ?_) hc ?_, hc⟩
    · have := (hv.set (4 + i) (.int .i64 (tn i + 1))).set i (.int .i64 (dp i + 1))
      rw [gr_set_tn _ _ _ _ hi, gr_set_dp _ _ _ _ hi] at this
      unfold enterD enterT
      rw [if_pos HZ.out]
      exact this
    · intro j hj
      have := h6'.out j hj
      unfold enterD enterT upI
      rw [if_pos HZ.out]
      constructor
      · split <;> omega
      · refine ⟨by split <;> omega, ?_⟩
        split <;> omega
  · have hz0 : (dp i == 0) = false := by rw [beq_eq_false_iff_ne]; exact hz
    have HZ := hid hz
    clear hz
    go_enter Try.func34, Try.ntmps34
    go_wp2
    go_region
    go_wp2
    go_ret
    refine ⟨rfl, H.out.store w (fun v hv => ?_) ?_ ?_, ?_⟩
    · have := hv.set i (.int .i64 (dp i + 1))
      rw [gr_set_dp _ _ _ _ hi] at this
      unfold enterD enterT
      rw [if_neg HZ.out]
      exact this
    · exact ((Chg.refl (One p) w).setCell (p := ⟨p, i, none⟩) (.inl rfl) (.int .i64 (dp i + 1))).drew
    · intro j hj
      have := h6'.out j hj
      unfold enterD enterT upI
      rw [if_neg HZ.out]
      split <;> omega
    · exact ((Chg.refl (One p) w).setCell (p := ⟨p, i, none⟩) (.inl rfl) (.int .i64 (dp i + 1))).drew
theorem leave_none (w : World) (F : Nat → Prop) (p i : Nat) (dp tn : Nat → Int) (l : List GCall) (h : GrAt w F p dp tn l) (hi : i < 4) (hd : dp i = 0) :
    Calls Try.prog 35 #[.pointer (some ⟨p, 0, none⟩), .int .i64 i] w fun e w' => e = .returned (.int .i64 8) ∧ w = w' := by
  obtain ⟨a, c, G, hb, hs, h3, h4, h5, h6⟩ := h
  have d0 := hb.cell i
  rw [gr_dp _ _ _ hi, hd] at d0
  clear hb hs hd
  go_enter Try.func35, Try.ntmps35
  go_wp2
  go_ret
  exact ⟨rfl, rfl⟩
theorem leave_ok (w : World) (F : Nat → Prop) (p i : Nat) (dp tn : Nat → Int) (l : List GCall) (h : GrAt w F p dp tn l) (hi : i < 4) (hd : 0 < dp i) :
    Calls Try.prog 35 #[.pointer (some ⟨p, 0, none⟩), .int .i64 i] w fun e w' => e = .returned (.int .i64 0) ∧ GrAt w' F p (upI dp i (dp i - 1)) tn l ∧ Chg (One p) w w' := by
  have H := hid h
  obtain ⟨a, c, G, hb, hs, h3, h4, h5, h6⟩ := h
  obtain ⟨b1, b2, b3, b4⟩ := h6 i hi
  have d0 := hb.cell i
  rw [gr_dp _ _ _ hi] at d0
  have f0 := hb.frozen i
  have h6' := hid h6
  clear hb hs h6
  have hz0 : (dp i == 0) = false := by rw [beq_eq_false_iff_ne]; omega
  go_enter Try.func35, Try.ntmps35
  go_wp2
  go_region
  go_wp2
  go_ret
  refine ⟨rfl, H.out.store w (fun v hv => ?_) ?_ ?_, ?_⟩
  · have := hv.set i (.int .i64 (dp i - 1))
    rw [gr_set_dp _ _ _ _ hi] at this
    exact this
  · exact ((Chg.refl (One p) w).setCell (p := ⟨p, i, none⟩) (.inl rfl) (.int .i64 (dp i - 1))).drew
  · intro j hj
    have := h6'.out j hj
    unfold upI
    split <;> omega
  · exact ((Chg.refl (One p) w).setCell (p := ⟨p, i, none⟩) (.inl rfl) (.int .i64 (dp i - 1))).drew
/-- Is a call of this number there? -/
def hasId (l : List GCall) (t : Int) : Bool := l.any (fun x => x.id == t)
theorem call1_any (x : GCall) (q : Nat) (t : Int) (w : World) (hq : w.cell? ⟨q, 0, none⟩ = some (.int .i64 t)) :
    Calls Try.prog 44 #[.agg (gcCells x).toArray, .pointer (some ⟨q, 0, none⟩)] w fun e w' => e = .returned (.bool (x.id == t)) ∧ Chg Nil w w' := by
  have hlt := (lt_of_cell hq).1
  unfold gcCells
  go_enter Try.func44, Try.ntmps44
  go_wp2
  go_ret
  exact ⟨rfl, (Chg.refl _ _).alloc _⟩
theorem eCall : ETy Try.prog 81 86 5 40 := ⟨Try.underlying81, info_of (z := .agg #[.int .i64 0, .int .i64 0, .int .i64 0, .int .i64 0, .int .i64 0]) (by kernel_rfl) rfl, by decide⟩
/-- The first place of a call of this number; -1: it is not there. -/
def idxId (l : List GCall) (t : Int) : Int := match l.findIdx? (fun x => x.id == t) with | some k => (k : Int) | none => -1
theorem idxId_of {l : List GCall} {t : Int} {k : Nat} (h : k < l.length) (he : l[k].id = t) (hb : ∀ j (hj : j < l.length), j < k → l[j].id ≠ t) : 0 ≤ idxId l t ∧ hasId l t = true := by
  have hm : hasId l t = true := by
    unfold hasId
    rw [List.any_eq_true]
    exact ⟨l[k], List.getElem_mem h, by simpa using he⟩
  refine ⟨?_, hm⟩
  unfold idxId
  cases hf : l.findIdx? (fun x => x.id == t) with
  | some k => simp
  | none =>
    rw [List.findIdx?_eq_none_iff] at hf
    have := hf l[k] (List.getElem_mem h)
    simp [he] at this
theorem hasId_false {l : List GCall} {t : Int} (h : ∀ j (hj : j < l.length), l[j].id ≠ t) : hasId l t = false := by
  unfold hasId
  rw [List.any_eq_false]
  intro x hx
  obtain ⟨i, hi, rfl⟩ := List.mem_iff_getElem.1 hx
  simpa using h i hi
theorem indexF_any (R : Nat → Prop) (a : Option Addr) (n c q : Nat) (l : List GCall) (t : Int) (w : World) (h : Rd w R 5 a n c (l.flatMap gcCells)) (hn : n = l.length) (hl : n < 4294967296) (hq : w.cell? ⟨q, 0, none⟩ = some (.int .i64 t)) :
    Calls Try.prog 47 #[.slice a n c, .func (.func 44) #[] #[.pointer (some ⟨q, 0, none⟩)]] w fun e w' => ∃ k : Int, e = .returned (.int .i64 k) ∧ (decide (0 ≤ k) = hasId l t) ∧ -1 ≤ k ∧ Chg Nil w w' := by
  subst hn
  have hlt := (lt_of_cell hq).1
  have H := hid h
  clear h
  go_enter Try.func47, Try.ntmps47
  go_wp2
  go_loopw [8] (fun i wr => ∃ k : Nat, k ≤ l.length ∧ i = .int .i64 k ∧ Hid (Chg Nil w wr) ∧ Hid (∀ j (hj : j < l.length), j < k → l[j].id ≠ t)) (fun i _ => l.length - (intOf i).toNat)
  case atStart => exact ⟨0, Nat.zero_le _, rfl, Chg.refl _ _, fun _ _ h => absurd h (by omega)⟩
  case round =>
    obtain ⟨k, hk, rfl, hw, hr⟩ := hrel
    by_cases hlt : k < l.length
    · obtain ⟨g, off, rfl, hg1, hg2, hc⟩ := (H.out.chg hw.out (fun _ _ _ h => h)).elem gc_len rfl (by omega)
      have e0 := hc k hlt 0 (by omega)
      have e1 := hc k hlt 1 (by omega)
      have e2 := hc k hlt 2 (by omega)
      have e3 := hc k hlt 3 (by omega)
      have e4 := hc k hlt 4 (by omega)
      clear hc
      simp only [gcCells, List.getElem?_cons_succ, List.getElem?_cons_zero, Nat.add_zero] at e0 e1 e2 e3 e4
      have hq' : wr.cell? ⟨q, 0, none⟩ = some (.int .i64 t) := (hw.out.cell (a := ⟨q, 0, none⟩) (lt_of_cell hq).1 (fun h => h)).trans hq
      by_cases he : l[k].id = t
      · have hb : (l[k].id == t) = true := by rw [beq_iff_eq]; exact he
        have HE := hid he
        clear he
        go_wp2_with (go_at_call 44; refine (call1_any l[k] q t _ hq').mono ?_; rw [hb]; rintro e w1 ⟨rfl, q1⟩)
        go_ret
        have := idxId_of hlt HE.out hr.out
        exact ⟨k, rfl, by rw [this.2]; simp, by omega, hw.out.trans q1 (fun _ _ h => h)⟩
      · have hb : (l[k].id == t) = false := by rw [beq_eq_false_iff_ne]; exact he
        have HE := hid he
        clear he
        go_wp2_with (go_at_call 44; refine (call1_any l[k] q t _ hq').mono ?_; rw [hb]; rintro e w1 ⟨rfl, q1⟩)
        go_roundw
        case rel =>
          refine ⟨k + 1, by omega, by go_num, hw.out.trans q1 (fun _ _ h => h), fun j hj hjk => ?_⟩
          by_cases hjk' : j = k
          · subst hjk'; exact HE.out
          · exact hr.out j hj (by omega)
        case measure => simp [intOf]; omega
    · go_wp2
      go_ret
      refine ⟨-1, rfl, ?_, by omega, hw.out⟩
      rw [hasId_false fun j hj => hr.out j hj (by omega)]
      simp
theorem containsF_any (R : Nat → Prop) (a : Option Addr) (n c q : Nat) (l : List GCall) (t : Int) (w : World) (h : Rd w R 5 a n c (l.flatMap gcCells)) (hn : n = l.length) (hl : n < 4294967296) (hq : w.cell? ⟨q, 0, none⟩ = some (.int .i64 t)) :
    Calls Try.prog 43 #[.slice a n c, .func (.func 44) #[] #[.pointer (some ⟨q, 0, none⟩)]] w fun e w' => e = .returned (.bool (hasId l t)) ∧ Chg Nil w w' := by
  subst hn
  have H := hid h
  clear h
  go_enter Try.func43, Try.ntmps43
  go_wp2_with fail
  refine (indexF_any R a _ c q l t _ H.out rfl hl hq).mono ?_
  rintro e w1 ⟨k, rfl, hk, hk2, hc⟩
  replace hk := hid hk
  go_wp2
  go_ret
  exact ⟨ret_bool hk.out, hc⟩
/-- What a call waits for, as readers stand. -/
def waitsFor (dp tn : Nat → Int) (i : Nat) : Int := if 0 < dp i then tn i else 0
theorem gcall_has (w : World) (F : Nat → Prop) (p : Nat) (dp tn : Nat → Int) (l : List GCall) (t : Int) (h : GrAt w F p dp tn l) (hl : l.length ≤ 256) (hm : hasId l t = true) :
    Calls Try.prog 32 #[.pointer (some ⟨p, 0, none⟩), .int .i64 t] w fun e w' => e = .returned (.int .i64 5) ∧ Chg Nil w w' := by
  obtain ⟨a, c, G, hb, hs, h3, h4, h5, h6⟩ := h
  have hb' := hb.alloc (.cells #[.int .i64 t] 3)
  have d8 : (w.alloc (.cells #[.int .i64 t] 3)).cell? ⟨p, 8, none⟩ = some (.slice a l.length c) := hb'.cell 8
  have hq : (w.alloc (.cells #[.int .i64 t] 3)).cell? ⟨w.heap.size, 0, none⟩ = some (.int .i64 t) := (Blk.new w 3 [.int .i64 t]).cell 0
  have HR := hid (hs.rd.alloc (.cells #[.int .i64 t] 3))
  have HQ := hid hq
  clear hb hs hb' h6 hq
  go_enter Try.func32, Try.ntmps32
  go_wp2_with (go_at_call 43; refine (containsF_any _ _ _ _ _ l t _ HR.out rfl (by omega) HQ.out).mono ?_; rw [hm]; rintro e w1 ⟨rfl, hc⟩)
  go_ret
  exact ⟨rfl, push_chg hc⟩
def wtTo (dp tn : Nat → Int) (i : Nat) : Nat → Int := fun j => if j < i then waitsFor dp tn j else 0
theorem gc_set (t v : Int) (f : Nat → Int) {i : Nat} (hi : i < 4) : (gcCells ⟨t, f⟩).set (1 + i) (.int .i64 v) = gcCells ⟨t, upI f i v⟩ := by
  rcases i with _ | _ | _ | _ | i <;> first | rfl | omega
theorem gc_wt (t : Int) (f : Nat → Int) {i : Nat} (hi : i < 4) : (gcCells ⟨t, f⟩)[1 + i]? = some (.int .i64 (f i)) := by
  rcases i with _ | _ | _ | _ | i <;> first | rfl | omega
theorem wtTo_pos {dp tn : Nat → Int} {i : Nat} (h : 0 < dp i) : upI (wtTo dp tn i) i (tn i) = wtTo dp tn (i + 1) := by
  funext j
  unfold upI wtTo
  by_cases hj : j = i
  · subst hj; simp [h, waitsFor]
  · rw [if_neg hj]
    by_cases hji : j < i
    · rw [if_pos hji, if_pos (by omega)]
    · rw [if_neg hji, if_neg (by omega)]
theorem wtTo_neg {dp tn : Nat → Int} {i : Nat} (h : ¬ 0 < dp i) : wtTo dp tn i = wtTo dp tn (i + 1) := by
  funext j
  unfold wtTo
  by_cases hj : j = i
  · subst hj; simp [h, waitsFor]
  · by_cases hji : j < i
    · rw [if_pos hji, if_pos (by omega)]
    · rw [if_neg hji, if_neg (by omega)]
theorem gc_four (t : Int) (dp tn : Nat → Int) : gcCells ⟨t, wtTo dp tn 4⟩ = gcCells ⟨t, waitsFor dp tn⟩ := rfl
theorem gcall_ok (w : World) (F : Nat → Prop) (p : Nat) (dp tn : Nat → Int) (l : List GCall) (t : Int) (h : GrAt w F p dp tn l) (hl : l.length < 256) (hm : hasId l t = false) :
    Calls Try.prog 32 #[.pointer (some ⟨p, 0, none⟩), .int .i64 t] w fun e w' => ∃ F', e = .returned (.int .i64 0) ∧ GrAt w' F' p dp tn (l ++ [⟨t, waitsFor dp tn⟩]) ∧ Chg F w w' ∧ Grew w.heap.size F F' := by
  have H := hid h
  obtain ⟨a, c, G, hb, hs, h3, h4, h5, h6⟩ := h
  have hb' := hb.alloc (.cells #[.int .i64 t] 3)
  have d8 : (w.alloc (.cells #[.int .i64 t] 3)).cell? ⟨p, 8, none⟩ = some (.slice a l.length c) := hb'.cell 8
  have hq : (w.alloc (.cells #[.int .i64 t] 3)).cell? ⟨w.heap.size, 0, none⟩ = some (.int .i64 t) := (Blk.new w 3 [.int .i64 t]).cell 0
  have HR := hid (hs.rd.alloc (.cells #[.int .i64 t] 3))
  have HS := hid hs
  have HB := hid hb'
  have HQ := hid hq
  have H6 := hid h6
  have hl2 : ((l.length : Int) == 256) = false := by rw [beq_eq_false_iff_ne]; omega
  clear hb hs hb' h6
  go_enter Try.func32, Try.ntmps32
  go_wp2_with (go_at_call 43; refine (containsF_any _ _ _ _ _ l t _ HR.out rfl (by omega) HQ.out).mono ?_; rw [hm]; rintro e w1 ⟨rfl, hc⟩; have B1 := HB.out.chg hc (fun h => h); have d81 : w1.cell? ⟨p, 8, none⟩ = some (.slice a l.length c) := B1.cell 8; have hq1 : w1.cell? ⟨w.heap.size, 0, none⟩ = some (.int .i64 t) := (hc.cell (a := ⟨w.heap.size, 0, none⟩) (lt_of_cell HQ.out).1 (fun h => h)).trans HQ.out; replace B1 := hid B1)
  obtain ⟨wa, hwa⟩ : ∃ wa : World, wa = w1.alloc (.cells #[.int .i64 t, .int .i64 0, .int .i64 0, .int .i64 0, .int .i64 0] 86) := ⟨_, rfl⟩
  rw [← hwa]
  have N1 : Blk wa w1.heap.size 86 (gcCells ⟨t, wtTo dp tn 0⟩) := by rw [hwa]; exact Blk.new w1 _ (gcCells ⟨t, wtTo dp tn 0⟩)
  have C1 : Chg Nil w wa := by rw [hwa]; exact (push_chg hc).alloc _
  have B2 : Blk wa p 83 (grCells dp tn (.slice a l.length c)) := by rw [hwa]; exact B1.out.alloc _
  have hlt1 : w.heap.size < w1.heap.size := by have := hc.size; simp at this; omega
  replace hwa := hid hwa
  have I0 := hid (show Chg Nil w wa ∧ Blk wa w1.heap.size 86 (gcCells ⟨t, wtTo dp tn 0⟩) ∧ Blk wa p 83 (grCells dp tn (.slice a l.length c)) from ⟨C1, N1, B2⟩)
  clear C1 N1 B2 d81 hq1 d8 hq
  go_loopw [21] (fun s21 wr => ∃ i : Nat, i ≤ 4 ∧ s21 = .int .i64 i ∧ Hid (Chg Nil w wr ∧ Blk wr w1.heap.size 86 (gcCells ⟨t, wtTo dp tn i⟩) ∧ Blk wr p 83 (grCells dp tn (.slice a l.length c)))) (fun s21 _ => 4 - (intOf s21).toNat)
  case atStart => exact ⟨0, by omega, rfl, I0⟩
  case round =>
    clear I0
    obtain ⟨i, hi, rfl, hJ⟩ := hrel
    obtain ⟨j1, j2, j3⟩ := id hJ.out
    by_cases hi4 : i < 4
    · have e0 := j3.cell i
      have e1 := j3.cell (4 + i)
      rw [gr_dp _ _ _ hi4] at e0
      rw [gr_tn _ _ _ hi4] at e1
      have e2 := j2.cell (1 + i)
      rw [gc_wt _ _ hi4] at e2
      have f2 := j2.frozen (1 + i)
      have i1 : (i : Int) < 4 := by omega
      have hne : p ≠ w1.heap.size := by have := h5 p h3; omega
      replace j1 := hid j1
      replace j2 := hid j2
      replace j3 := hid j3
      by_cases hd : 0 < dp i
      · go_wp2
        go_roundw
        case rel =>
          refine ⟨i + 1, by omega, by go_num, ?_, ?_, ?_⟩
          · exact j1.out.setCell (p := ⟨w1.heap.size, 1 + i, none⟩) (.inr (by dsimp only; omega)) _
          · have := j2.out.set (1 + i) (.int .i64 (tn i))
            rw [gc_set _ _ _ hi4, wtTo_pos hd] at this
            exact this
          · exact j3.out.far (p := ⟨w1.heap.size, 1 + i, none⟩) hne _
        case measure => simp [intOf]; omega
      · go_wp2
        go_roundw
        case rel =>
          refine ⟨i + 1, by omega, by go_num, ?_⟩
          rw [← wtTo_neg hd]
          exact hJ
        case measure => simp [intOf]; omega
    · obtain rfl : i = 4 := by omega
      rw [gc_four] at j2
      obtain ⟨X, hX⟩ : ∃ X : GCall, X = ⟨t, waitsFor dp tn⟩ := ⟨_, rfl⟩
      rw [← hX] at j2
      have x0 := j2.cell 0
      have x1 := j2.cell 1
      have x2 := j2.cell 2
      have x3 := j2.cell 3
      have x4 := j2.cell 4
      simp only [gcCells, List.getElem?_cons_succ, List.getElem?_cons_zero] at x0 x1 x2 x3 x4
      have y8 : wr.cell? ⟨p, 8, none⟩ = some (.slice a l.length c) := j3.cell 8
      have z8 : (wr.alloc (.cells #[.int .i64 X.id, .int .i64 (X.wt 0), .int .i64 (X.wt 1), .int .i64 (X.wt 2), .int .i64 (X.wt 3)] 86)).cell? ⟨p, 8, none⟩ = some (.slice a l.length c) := (j3.alloc _).cell 8
      have S1 := HS.out.chg j1 (fun _ _ h => h)
      have HS2 : Hid (Sl (wr.alloc (.cells #[.int .i64 X.id, .int .i64 (X.wt 0), .int .i64 (X.wt 1), .int .i64 (X.wt 2), .int .i64 (X.wt 3)] 86)).drew 86 5 a l.length c (l.flatMap gcCells) G) := S1.alloc _
      have HN2 : Hid (Rd (wr.alloc (.cells #[.int .i64 X.id, .int .i64 (X.wt 0), .int .i64 (X.wt 1), .int .i64 (X.wt 2), .int .i64 (X.wt 3)] 86)).drew (One wr.heap.size) 5 (some ⟨wr.heap.size, 0, none⟩) 1 1 (gcCells X)) := Rd.of_blk (n := 1) (s := 5) (Blk.new wr 86 (gcCells X)) rfl (by decide)
      have HNE := hid (S1.ne_blk j3 (by decide))
      have f8 := j3.frozen 8
      replace hX := hid hX
      replace S1 := hid S1
      replace j1 := hid j1
      replace j2 := hid j2
      replace j3 := hid j3
      clear hJ
      go_wp2
      go_region_law (refine step_append_sl rfl _ _ eCall rfl rfl rfl HS2.out HN2.out (gc_one _) (by omega) (by omega) ?_; intro a' c' w5 G' q1 q2 q3; have HB1 := (j3.out.alloc (.cells #[.int .i64 X.id, .int .i64 (X.wt 0), .int .i64 (X.wt 1), .int .i64 (X.wt 2), .int .i64 (X.wt 3)] 86)).drew.chg q2 HNE.out; have u8 : w5.cell? ⟨p, 8, none⟩ = some (.slice a l.length c) := HB1.cell 8; have v8 := HB1.frozen 8; replace HB1 := hid HB1; replace q3 := hid q3)
      all_goals
        go_wp2
        go_ret
        have hq1 := q1.ne_blk HB1.out (by decide)
        refine ⟨Or2 F (Opt G'), rfl, ⟨a', c', G', ?_, ?_, .inl h3, fun g hg => .inr hg, ?_, H6.out⟩, ?_, ?_⟩
        · have := HB1.out.set 8 (.slice a' (l.length + 1) c')
          simpa [grCells] using this
        · have h1 := q1.set_far (p := ⟨p, 8, none⟩) hq1 (.slice a' (l.length + 1) c')
          rw [hX.out] at h1
          simpa using h1
        · rintro k (hF | hG)
          · have h1 := h5 k hF; have h2 := q2.size; have h4 := j1.out.size; simp at h2 ⊢; omega
          · have := q1.lt k hG; simpa using this
        · have h0 : Chg F w w5 := (((j1.out.mono (G := F) (fun _ _ h => h.elim)).alloc _).drew).trans q2 (fun i _ h => h4 i h)
          exact h0.setCell (p := ⟨p, 8, none⟩) (.inl h3) _
        · rintro k (hF | hG)
          · exact .inl hF
          · rcases q3.out with h3 | h3 <;> rw [h3] at hG
            · exact .inl (h4 k hG)
            · have h7 := j1.out.size
              have : (wr.alloc (.cells #[.int .i64 X.id, .int .i64 (X.wt 0), .int .i64 (X.wt 1), .int .i64 (X.wt 2), .int .i64 (X.wt 3)] 86)).drew.heap.size = k := by injection hG
              simp at this; exact .inr (by omega)
/-- Does a call wait for a processor's readers still? -/
def blk1 (dp tn : Nat → Int) (x : GCall) (i : Nat) : Bool := decide (0 < x.wt i) && decide (0 < dp i) && (tn i == x.wt i)
/-- Does it wait for nobody any more? -/
def ovr (dp tn : Nat → Int) (x : GCall) : Bool := !(blk1 dp tn x 0 || blk1 dp tn x 1 || blk1 dp tn x 2 || blk1 dp tn x 3)
theorem over_any (w : World) (F : Nat → Prop) (p : Nat) (dp tn : Nat → Int) (l : List GCall) (x : GCall) (h : GrAt w F p dp tn l) :
    Calls Try.prog 45 #[.pointer (some ⟨p, 0, none⟩), .agg (gcCells x).toArray] w fun e w' => e = .returned (.bool (ovr dp tn x)) ∧ Chg Nil w w' := by
  obtain ⟨a, c, G, hb, hs, h3, h4, h5, h6⟩ := h
  have hb' := hb.alloc (.cells (gcCells x).toArray 86)
  have e0 := hb'.cell 0
  have e1 := hb'.cell 1
  have e2 := hb'.cell 2
  have e3 := hb'.cell 3
  have t0 := hb'.cell 4
  have t1 := hb'.cell 5
  have t2 := hb'.cell 6
  have t3 := hb'.cell 7
  simp only [grCells, List.getElem?_cons_succ, List.getElem?_cons_zero] at e0 e1 e2 e3 t0 t1 t2 t3
  clear hb hs hb' h4 h5 h6
  unfold gcCells at e0 e1 e2 e3 t0 t1 t2 t3 ⊢
  have i0 : ∀ w, (Instr.index 59 (.agg #[.int .i64 (x.wt 0), .int .i64 (x.wt 1), .int .i64 (x.wt 2), .int .i64 (x.wt 3)]) (.int .i64 0)).run Try.prog w = .ok (.int .i64 (x.wt 0)) w := fun _ => by kernel_rfl
  have i1 : ∀ w, (Instr.index 59 (.agg #[.int .i64 (x.wt 0), .int .i64 (x.wt 1), .int .i64 (x.wt 2), .int .i64 (x.wt 3)]) (.int .i64 1)).run Try.prog w = .ok (.int .i64 (x.wt 1)) w := fun _ => by kernel_rfl
  have i2 : ∀ w, (Instr.index 59 (.agg #[.int .i64 (x.wt 0), .int .i64 (x.wt 1), .int .i64 (x.wt 2), .int .i64 (x.wt 3)]) (.int .i64 2)).run Try.prog w = .ok (.int .i64 (x.wt 2)) w := fun _ => by kernel_rfl
  have i3 : ∀ w, (Instr.index 59 (.agg #[.int .i64 (x.wt 0), .int .i64 (x.wt 1), .int .i64 (x.wt 2), .int .i64 (x.wt 3)]) (.int .i64 3)).run Try.prog w = .ok (.int .i64 (x.wt 3)) w := fun _ => by kernel_rfl
  go_enter Try.func45, Try.ntmps45
  go_wp2
  go_loop [9] (fun s9 => ∃ i : Nat, i ≤ 4 ∧ s9 = .int .i64 i ∧ Hid (∀ j, j < i → blk1 dp tn x j = false)) (fun s9 => 4 - (intOf s9).toNat)
  case atStart => exact ⟨0, by omega, rfl, fun j hj => absurd hj (by omega)⟩
  case round =>
    obtain ⟨i, hi, rfl, hr⟩ := hrel
    rcases i with _ | _ | _ | _ | _ | i
    · by_cases ha : 0 < x.wt 0
      · by_cases hd : 0 < dp 0
        · cases hb : (tn 0 == x.wt 0) with
          | true =>
            have hv := hid (show ovr dp tn x = false by simp [ovr, blk1, ha, hd, hb])
            go_wp2
            go_ret
            exact ⟨ret_bool hv.out.symm, (Chg.refl _ _).alloc _⟩
          | false =>
            have hv := hid (show blk1 dp tn x 0 = false by simp [blk1, ha, hd, hb])
            go_wp2
            go_round
            case rel => exact ⟨1, by omega, rfl, fun j hj => by rcases Nat.lt_or_ge j 0 with h | h; exact hr.out j h; rw [show j = 0 by omega]; exact hv.out⟩
            case measure => simp [intOf]
        · have hv := hid (show blk1 dp tn x 0 = false by simp [blk1, hd])
          have hdd : decide (0 < dp 0) = false := by simpa using hd
          go_wp2
          go_round
          case rel => exact ⟨1, by omega, rfl, fun j hj => by rcases Nat.lt_or_ge j 0 with h | h; exact hr.out j h; rw [show j = 0 by omega]; exact hv.out⟩
          case measure => simp [intOf]
      · have hv := hid (show blk1 dp tn x 0 = false by simp [blk1, ha])
        have hdd : decide (0 < x.wt 0) = false := by simpa using ha
        go_wp2
        go_round
        case rel => exact ⟨1, by omega, rfl, fun j hj => by rcases Nat.lt_or_ge j 0 with h | h; exact hr.out j h; rw [show j = 0 by omega]; exact hv.out⟩
        case measure => simp [intOf]
    · by_cases ha : 0 < x.wt 1
      · by_cases hd : 0 < dp 1
        · cases hb : (tn 1 == x.wt 1) with
          | true =>
            have hv := hid (show ovr dp tn x = false by simp [ovr, blk1, ha, hd, hb])
            go_wp2
            go_ret
            exact ⟨ret_bool hv.out.symm, (Chg.refl _ _).alloc _⟩
          | false =>
            have hv := hid (show blk1 dp tn x 1 = false by simp [blk1, ha, hd, hb])
            go_wp2
            go_round
            case rel => exact ⟨2, by omega, rfl, fun j hj => by rcases Nat.lt_or_ge j 1 with h | h; exact hr.out j h; rw [show j = 1 by omega]; exact hv.out⟩
            case measure => simp [intOf]
        · have hv := hid (show blk1 dp tn x 1 = false by simp [blk1, hd])
          have hdd : decide (0 < dp 1) = false := by simpa using hd
          go_wp2
          go_round
          case rel => exact ⟨2, by omega, rfl, fun j hj => by rcases Nat.lt_or_ge j 1 with h | h; exact hr.out j h; rw [show j = 1 by omega]; exact hv.out⟩
          case measure => simp [intOf]
      · have hv := hid (show blk1 dp tn x 1 = false by simp [blk1, ha])
        have hdd : decide (0 < x.wt 1) = false := by simpa using ha
        go_wp2
        go_round
        case rel => exact ⟨2, by omega, rfl, fun j hj => by rcases Nat.lt_or_ge j 1 with h | h; exact hr.out j h; rw [show j = 1 by omega]; exact hv.out⟩
        case measure => simp [intOf]
    · by_cases ha : 0 < x.wt 2
      · by_cases hd : 0 < dp 2
        · cases hb : (tn 2 == x.wt 2) with
          | true =>
            have hv := hid (show ovr dp tn x = false by simp [ovr, blk1, ha, hd, hb])
            go_wp2
            go_ret
            exact ⟨ret_bool hv.out.symm, (Chg.refl _ _).alloc _⟩
          | false =>
            have hv := hid (show blk1 dp tn x 2 = false by simp [blk1, ha, hd, hb])
            go_wp2
            go_round
            case rel => exact ⟨3, by omega, rfl, fun j hj => by rcases Nat.lt_or_ge j 2 with h | h; exact hr.out j h; rw [show j = 2 by omega]; exact hv.out⟩
            case measure => simp [intOf]
        · have hv := hid (show blk1 dp tn x 2 = false by simp [blk1, hd])
          have hdd : decide (0 < dp 2) = false := by simpa using hd
          go_wp2
          go_round
          case rel => exact ⟨3, by omega, rfl, fun j hj => by rcases Nat.lt_or_ge j 2 with h | h; exact hr.out j h; rw [show j = 2 by omega]; exact hv.out⟩
          case measure => simp [intOf]
      · have hv := hid (show blk1 dp tn x 2 = false by simp [blk1, ha])
        have hdd : decide (0 < x.wt 2) = false := by simpa using ha
        go_wp2
        go_round
        case rel => exact ⟨3, by omega, rfl, fun j hj => by rcases Nat.lt_or_ge j 2 with h | h; exact hr.out j h; rw [show j = 2 by omega]; exact hv.out⟩
        case measure => simp [intOf]
    · by_cases ha : 0 < x.wt 3
      · by_cases hd : 0 < dp 3
        · cases hb : (tn 3 == x.wt 3) with
          | true =>
            have hv := hid (show ovr dp tn x = false by simp [ovr, blk1, ha, hd, hb])
            go_wp2
            go_ret
            exact ⟨ret_bool hv.out.symm, (Chg.refl _ _).alloc _⟩
          | false =>
            have hv := hid (show blk1 dp tn x 3 = false by simp [blk1, ha, hd, hb])
            go_wp2
            go_round
            case rel => exact ⟨4, by omega, rfl, fun j hj => by rcases Nat.lt_or_ge j 3 with h | h; exact hr.out j h; rw [show j = 3 by omega]; exact hv.out⟩
            case measure => simp [intOf]
        · have hv := hid (show blk1 dp tn x 3 = false by simp [blk1, hd])
          have hdd : decide (0 < dp 3) = false := by simpa using hd
          go_wp2
          go_round
          case rel => exact ⟨4, by omega, rfl, fun j hj => by rcases Nat.lt_or_ge j 3 with h | h; exact hr.out j h; rw [show j = 3 by omega]; exact hv.out⟩
          case measure => simp [intOf]
      · have hv := hid (show blk1 dp tn x 3 = false by simp [blk1, ha])
        have hdd : decide (0 < x.wt 3) = false := by simpa using ha
        go_wp2
        go_round
        case rel => exact ⟨4, by omega, rfl, fun j hj => by rcases Nat.lt_or_ge j 3 with h | h; exact hr.out j h; rw [show j = 3 by omega]; exact hv.out⟩
        case measure => simp [intOf]
    · have hv := hid (show ovr dp tn x = true by simp [ovr, hr.out 0 (by omega), hr.out 1 (by omega), hr.out 2 (by omega), hr.out 3 (by omega)])
      go_wp2
      go_ret
      exact ⟨ret_bool hv.out.symm, (Chg.refl _ _).alloc _⟩
    · omega
end Go.Proofs.Ytacmgjjpfdncgaa
