/- Contracts of the interrupts that are off for a while: NewOff, Save, Back, Come and On. Conditions: the stack has at most 16 places, fewer than 2^31 lines wait. -/
import Derived.Test.YtnbojhmlgnfneaaSlices
import Derived.Deep.RegionLaw
import Derived.RegionTactic
namespace Go.Proofs.Ytnbojhmlgnfneaa
open Go.ChangeShapes Go.WideShapes Go.ChangeAt Go.RowKit
set_option linter.unusedVariables false
/-- In block p: whether they are on, what was kept, and what came. -/
def OffAt (w : World) (F : Nat → Prop) (p : Nat) (stack : List Bool) (on : Bool) (came : List Int) : Prop :=
  ∃ a1 c1 G1 a3 c3 G3, Blk w p 76 [.int .i64 0, .slice a1 stack.length c1, .bool on, .slice a3 came.length c3, .int .u32 0] ∧ Sl w 4 1 a1 stack.length c1 (bools stack) G1 ∧ Sl w 3 1 a3 came.length c3 (ints .i64 came) G3 ∧
    F p ∧ (∀ g, G1 = some g → F g) ∧ (∀ g, G3 = some g → F g) ∧ ∀ k, F k → k < w.heap.size
theorem sl_ne {w : World} {e e' : TypeId} {s s' n n' c c' : Nat} {a a' : Option Addr} {xs xs' : List Value} {G G' : Option Nat} (h : Sl w e s a n c xs G) (h' : Sl w e' s' a' n' c' xs' G') (hne : e ≠ e') : ∀ g, G = some g → G' ≠ some g := by
  intro g hg hg'
  obtain ⟨_, _, _, ⟨_, h4⟩ | ⟨g1, off, cur, _, r2, r3, _⟩⟩ := h
  · rw [h4] at hg; cases hg
  · obtain ⟨_, _, _, ⟨_, h4⟩ | ⟨g2, off2, cur2, _, s2, s3, _⟩⟩ := h'
    · rw [h4] at hg'; cases hg'
    · rw [hg] at r2; rw [hg'] at s2
      injection r2 with r2; injection s2 with s2
      subst r2; subst s2
      rw [r3] at s3
      injection s3 with s3
      injection s3 with _ ht
      exact hne ht
section
variable {w w' : World} {F H : Nat → Prop} {p : Nat} {stack : List Bool} {on : Bool} {came : List Int}
theorem OffAt.chg (h : OffAt w F p stack on came) (hc : Chg H w w') (hd : Dj F H) : OffAt w' F p stack on came := by
  obtain ⟨a1, c1, G1, a3, c3, G3, h1, h2, h3, h4, h5, h6, h7⟩ := h
  exact ⟨a1, c1, G1, a3, c3, G3, h1.chg hc (hd p h4), h2.chg hc (fun g hg => hd g (h5 g hg)), h3.chg hc (fun g hg => hd g (h6 g hg)), h4, h5, h6, fun k hk => Nat.lt_of_lt_of_le (h7 k hk) hc.size⟩
theorem OffAt.lt (h : OffAt w F p stack on came) : ∀ k, F k → k < w.heap.size := by
  obtain ⟨a1, c1, G1, a3, c3, G3, h1, h2, h3, h4, h5, h6, h7⟩ := h
  exact h7
end
theorem newOff_ok (w : World) : Calls Try.prog 19 #[] w fun e w' => ∃ F p, e = .returned (.pointer (some ⟨p, 0, none⟩)) ∧ OffAt w' F p [] true [] ∧ Chg Nil w w' ∧ Grew w.heap.size Nil F := by
  go_enter Try.func19, Try.ntmps19
  go_wp2
  go_ret
  refine ⟨One w.heap.size, w.heap.size, rfl, ⟨none, 0, none, none, 0, none, Blk.new w _ _, Sl.empty _ _ _ _, Sl.empty _ _ _ _, rfl, (fun g h => by cases h), (fun g h => by cases h), ?_⟩, (Chg.refl _ _).alloc _, ?_⟩
  · intro k hk; rw [show k = w.heap.size from hk]; simp
  · intro k hk; exact .inr (Nat.le_of_eq (show k = w.heap.size from hk).symm)
theorem save_ok (w : World) (F : Nat → Prop) (p : Nat) (stack : List Bool) (on : Bool) (came : List Int) (h : OffAt w F p stack on came) (hl : stack.length < 16) :
    Calls Try.prog 20 #[.pointer (some ⟨p, 0, none⟩)] w fun e w' => ∃ F', e = .returned (.int .i64 0) ∧ OffAt w' F' p (stack ++ [on]) false came ∧ Chg F w w' ∧ Grew w.heap.size F F' := by
  obtain ⟨a1, c1, G1, a3, c3, G3, hb, hs1, hs3, hp, hg1, hg3, hk⟩ := h
  have d1 := hb.cell 1
  have d2 := hb.cell 2
  have f2 := hb.frozen 2
  simp only [List.getElem?_cons_succ, List.getElem?_cons_zero] at d1 d2
  have hn16 : ((stack.length : Int) == 16) = false := by rw [beq_eq_false_iff_ne]; omega
  have x1 := (hb.alloc (.cells #[.bool on] 4)).cell 1
  simp only [List.getElem?_cons_succ, List.getElem?_cons_zero] at x1
  have HS : Hid (Sl (w.alloc (.cells #[.bool on] 4)).drew 4 1 a1 stack.length c1 (bools stack) G1) := hs1.alloc _
  have HN : Hid (Rd (w.alloc (.cells #[.bool on] 4)).drew (One w.heap.size) 1 (some ⟨w.heap.size, 0, none⟩) 1 1 (bools [on])) := Rd.of_blk (n := 1) (s := 1) (Blk.new w 4 (bools [on])) rfl (by decide)
  have HNE := hid (hs1.ne_blk hb (by decide))
  have HB := hid hb
  have HS3 := hid hs3
  have HD := hid (sl_ne hs1 hs3 (by decide))
  clear hs1 hb hs3
  go_enter Try.func20, Try.ntmps20
  go_wp2
  go_region_law (refine step_append_sl rfl _ _ eBool rfl rfl rfl HS.out HN.out (bools_one _) (by omega) (by omega) ?_; intro a' c' w1 G' q1 q2 q3; have HB1 := (HB.out.alloc (.cells #[.bool on] 4)).drew.chg q2 HNE.out; have e1 := HB1.cell 1; have g1 := HB1.frozen 1; have e2 := HB1.cell 2; have g2 := HB1.frozen 2; simp only [List.getElem?_cons_succ, List.getElem?_cons_zero] at e1 e2; replace HB1 := hid HB1; replace q3 := hid q3)
  all_goals
    go_wp2
    go_ret
    have hq1 := q1.ne_blk HB1.out (by decide)
    refine ⟨Or2 F (Opt G'), rfl, ⟨a', c', G', a3, c3, G3, ?_, ?_, ?_, .inl hp, fun g hg => .inr hg, fun g hg => .inl (hg3 g hg), ?_⟩, ?_, ?_⟩
    · have := (HB1.out.set 1 (.slice a' (stack.length + 1) c')).set 2 (.bool false)
      simpa using this
    · have h1 := (q1.set_far (p := ⟨p, 1, none⟩) hq1 (.slice a' (stack.length + 1) c')).set_far (p := ⟨p, 2, none⟩) hq1 (.bool false)
      have h2 : bools stack ++ bools [on] = bools (stack ++ [on]) := by simp [bools]
      rw [h2] at h1
      simpa using h1
    · have h0 : Sl (w.alloc (.cells #[.bool on] 4)).drew 3 1 a3 came.length c3 (ints .i64 came) G3 := HS3.out.alloc _
      have h1 := h0.chg q2 (fun g hg hG => HD.out g hG hg)
      have h2 := h1.ne_blk HB1.out (by decide)
      exact (h1.set_far (p := ⟨p, 1, none⟩) h2 _).set_far (p := ⟨p, 2, none⟩) h2 _
    · rintro k (hF | hG)
      · have h1 := hk k hF; have h2 := q2.size; simp at h2 ⊢; omega
      · have := q1.lt k hG; simpa using this
    · have h0 : Chg F w w1 := (((Chg.refl F w).alloc _).drew).trans q2 (fun i _ h => hg1 i h)
      exact (h0.setCell (p := ⟨p, 1, none⟩) (.inl hp) _).setCell (p := ⟨p, 2, none⟩) (.inl hp) _
    · rintro k (hF | hG)
      · exact .inl hF
      · rcases q3.out with h3 | h3 <;> rw [h3] at hG
        · exact .inl (hg1 k hG)
        · have : (w.alloc (.cells #[.bool on] 4)).drew.heap.size = k := by injection hG
          simp at this; exact .inr (by omega)
theorem back_none (w : World) (F : Nat → Prop) (p : Nat) (on : Bool) (came : List Int) (h : OffAt w F p [] on came) :
    Calls Try.prog 24 #[.pointer (some ⟨p, 0, none⟩)] w fun e w' => e = .returned (.tuple #[.slice none 0 0, .int .i64 8]) ∧ w = w' := by
  obtain ⟨a1, c1, G1, a3, c3, G3, hb, hs1, hs3, hp, hg1, hg3, hk⟩ := h
  have d1 := hb.cell 1
  simp only [List.getElem?_cons_succ, List.getElem?_cons_zero, List.length_nil] at d1
  clear hb hs1 hs3
  go_enter Try.func24, Try.ntmps24
  go_wp2
  go_ret2
  exact ⟨rfl, rfl⟩
theorem back_off (w : World) (F : Nat → Prop) (p : Nat) (stack : List Bool) (on : Bool) (came : List Int) (h : OffAt w F p (stack ++ [false]) on came) (hl : stack.length < 16) :
    Calls Try.prog 24 #[.pointer (some ⟨p, 0, none⟩)] w fun e w' => e = .returned (.tuple #[.slice none 0 0, .int .i64 0]) ∧ OffAt w' F p stack false came ∧ Chg F w w' := by
  obtain ⟨a1, c1, G1, a3, c3, G3, hb, hs1, hs3, hp, hg1, hg3, hk⟩ := h
  simp only [List.length_append, List.length_singleton] at hb hs1
  have hcap := hs1.1
  obtain ⟨g, off, rfl, hgl, hgr, hcell⟩ := hs1.rd.cellAt (by omega)
  have e0 := hcell stack.length (by omega)
  have hel : (bools (stack ++ [false]))[stack.length]? = some (.bool false) := by simp [bools]
  rw [hel] at e0
  have d1 := hb.cell 1
  have d2 := hb.cell 2
  have f1 := hb.frozen 1
  have f2 := hb.frozen 2
  simp only [List.getElem?_cons_succ, List.getElem?_cons_zero] at d1 d2
  have HNE := hid (hs1.ne_blk hb (by decide))
  have hne : g ≠ p := fun he => HNE.out (by rw [show G1 = some g from hgr, he])
  have HB := hid hb
  have HS1 := hid (hs1.init (m := stack.length) (by omega))
  have HS3 := hid hs3
  have HNE3 := hid (hs3.ne_blk hb (by decide))
  clear hb hs1 hs3 hcell hel
  go_enter Try.func24, Try.ntmps24
  go_wp2
  go_ret2
  refine ⟨rfl, ⟨some ⟨g, off, none⟩, c1, G1, a3, c3, G3, ?_, ?_, ?_, hp, hg1, hg3, fun k hF => by simpa using hk k hF⟩, ?_⟩
  · have := (HB.out.set 2 (.bool false)).set 1 (.slice (some ⟨g, off, none⟩) stack.length c1)
    simpa using this
  · have h1 := (HS1.out.set_far (p := ⟨p, 2, none⟩) HNE.out (.bool false)).set_far (p := ⟨p, 1, none⟩) HNE.out (.slice (some ⟨g, off, none⟩) stack.length c1)
    have h2 : (bools (stack ++ [false])).take (stack.length * 1) = bools stack := by simp [bools]
    rw [h2] at h1
    exact h1
  · exact (HS3.out.set_far (p := ⟨p, 2, none⟩) HNE3.out _).set_far (p := ⟨p, 1, none⟩) HNE3.out _
  · exact ((Chg.refl F w).setCell (p := ⟨p, 2, none⟩) (.inl hp) _).setCell (p := ⟨p, 1, none⟩) (.inl hp) _
theorem back_on (w : World) (F : Nat → Prop) (p : Nat) (on : Bool) (came : List Int) (h : OffAt w F p [true] on came) :
    Calls Try.prog 24 #[.pointer (some ⟨p, 0, none⟩)] w fun e w' => ∃ a c G, e = .returned (.tuple #[.slice a came.length c, .int .i64 0]) ∧ OffAt w' F p [] true [] ∧ Sl w' 3 1 a came.length c (ints .i64 came) G ∧ (∀ g, G = some g → F g) ∧ Chg F w w' := by
  obtain ⟨a1, c1, G1, a3, c3, G3, hb, hs1, hs3, hp, hg1, hg3, hk⟩ := h
  simp only [List.length_singleton] at hb hs1
  have hcap := hs1.1
  obtain ⟨g, off, rfl, hgl, hgr, hcell⟩ := hs1.rd.cellAt (by omega)
  have e0 := hcell 0 (by omega)
  have hel : (bools [true])[0]? = some (.bool true) := by simp [bools]
  rw [hel, Nat.add_zero] at e0
  have d1 := hb.cell 1
  have d2 := hb.cell 2
  have d3 := hb.cell 3
  have f1 := hb.frozen 1
  have f2 := hb.frozen 2
  have f3 := hb.frozen 3
  simp only [List.getElem?_cons_succ, List.getElem?_cons_zero] at d1 d2 d3
  have HNE := hid (hs1.ne_blk hb (by decide))
  have hne : g ≠ p := fun he => HNE.out (by rw [show G1 = some g from hgr, he])
  have HB := hid hb
  have HS1 := hid (hs1.init (m := 0) (by omega))
  have HS3 := hid hs3
  have HNE3 := hid (hs3.ne_blk hb (by decide))
  clear hb hs1 hs3 hcell hel
  go_enter Try.func24, Try.ntmps24
  go_wp2
  go_ret2
  refine ⟨a3, c3, G3, rfl, ⟨some ⟨g, off, none⟩, c1, G1, none, 0, none, ?_, ?_, ?_, hp, hg1, (fun g h => by cases h), fun k hF => by simpa using hk k hF⟩, ?_, hg3, ?_⟩
  · have := ((HB.out.set 2 (.bool true)).set 1 (.slice (some ⟨g, off, none⟩) 0 c1)).set 3 (.slice none 0 0)
    simpa using this
  · have h1 := ((HS1.out.set_far (p := ⟨p, 2, none⟩) HNE.out (.bool true)).set_far (p := ⟨p, 1, none⟩) HNE.out (.slice (some ⟨g, off, none⟩) 0 c1)).set_far (p := ⟨p, 3, none⟩) HNE.out (.slice none 0 0)
    exact h1
  · exact Sl.empty _ _ _ _
  · exact ((HS3.out.set_far (p := ⟨p, 2, none⟩) HNE3.out _).set_far (p := ⟨p, 1, none⟩) HNE3.out _).set_far (p := ⟨p, 3, none⟩) HNE3.out _
  · exact (((Chg.refl F w).setCell (p := ⟨p, 2, none⟩) (.inl hp) _).setCell (p := ⟨p, 1, none⟩) (.inl hp) _).setCell (p := ⟨p, 3, none⟩) (.inl hp) _
theorem come_on (w : World) (F : Nat → Prop) (p : Nat) (line : Int) (stack : List Bool) (came : List Int) (h : OffAt w F p stack true came) (l0 : 0 ≤ line) (l1 : line ≤ 31) :
    Calls Try.prog 22 #[.pointer (some ⟨p, 0, none⟩), .int .i64 line] w fun e w' => e = .returned (.tuple #[.bool true, .int .i64 0]) ∧ w = w' := by
  obtain ⟨a1, c1, G1, a3, c3, G3, hb, hs1, hs3, hp, hg1, hg3, hk⟩ := h
  have d2 := hb.cell 2
  simp only [List.getElem?_cons_succ, List.getElem?_cons_zero] at d2
  clear hb hs1 hs3
  go_enter Try.func22, Try.ntmps22
  go_wp2
  go_ret2
  exact ⟨rfl, rfl⟩
theorem come_has (w : World) (F : Nat → Prop) (p : Nat) (line : Int) (stack : List Bool) (came : List Int) (h : OffAt w F p stack false came) (l0 : 0 ≤ line) (l1 : line ≤ 31) (hl : came.length < 2147483648) (hm : line ∈ came) :
    Calls Try.prog 22 #[.pointer (some ⟨p, 0, none⟩), .int .i64 line] w fun e w' => e = .returned (.tuple #[.bool false, .int .i64 0]) ∧ w = w' := by
  obtain ⟨a1, c1, G1, a3, c3, G3, hb, hs1, hs3, hp, hg1, hg3, hk⟩ := h
  have d2 := hb.cell 2
  have d3 := hb.cell 3
  simp only [List.getElem?_cons_succ, List.getElem?_cons_zero] at d2 d3
  have hh := hasI_true hm
  have HR := hid hs3.rd
  clear hb hs1 hs3
  go_enter Try.func22, Try.ntmps22
  go_wp2_with (go_at_call 23; refine (contains_int _ _ _ _ _ _ _ HR.out (by omega)).mono ?_; rintro e w' ⟨rfl, rfl⟩)
  go_ret2
  exact ⟨rfl, rfl⟩
theorem come_new (w : World) (F : Nat → Prop) (p : Nat) (line : Int) (stack : List Bool) (came : List Int) (h : OffAt w F p stack false came) (l0 : 0 ≤ line) (l1 : line ≤ 31) (hl : came.length < 2147483648) (hm : line ∉ came) :
    Calls Try.prog 22 #[.pointer (some ⟨p, 0, none⟩), .int .i64 line] w fun e w' => ∃ F', e = .returned (.tuple #[.bool false, .int .i64 0]) ∧ OffAt w' F' p stack false (came ++ [line]) ∧ Chg F w w' ∧ Grew w.heap.size F F' := by
  obtain ⟨a1, c1, G1, a3, c3, G3, hb, hs1, hs3, hp, hg1, hg3, hk⟩ := h
  have d2 := hb.cell 2
  have d3 := hb.cell 3
  simp only [List.getElem?_cons_succ, List.getElem?_cons_zero] at d2 d3
  have hh := hasI_false hm
  have HR := hid hs3.rd
  have HS := hid (hs3.alloc (.cells #[.int .i64 line] 3))
  have HB := hid (hb.alloc (.cells #[.int .i64 line] 3))
  have HN := hid (Rd.of_blk (n := 1) (s := 1) (Blk.new w 3 (ints .i64 [line])) rfl (by decide))
  have HNE := hid (hs3.ne_blk hb (by decide))
  have HD := hid (sl_ne hs3 hs1 (by decide))
  have HS1 := hid hs1
  clear hb hs1 hs3
  go_enter Try.func22, Try.ntmps22
  go_wp2_with (first | (go_at_call 23; refine (contains_int _ _ _ _ _ _ _ HR.out (by omega)).mono ?_; rintro e w' ⟨rfl, rfl⟩) | (at_builtin; refine wpList_append_sl rfl _ _ eInt rfl rfl rfl HS.out HN.out (ints_one _ _) (by omega) (by omega) ?_; intro a' c' w1 G' q1 q2 q3; have HB1 := HB.out.chg q2 HNE.out; have e3 := HB1.cell 3; have g3 := HB1.frozen 3; simp only [List.getElem?_cons_succ, List.getElem?_cons_zero] at e3; replace HB1 := hid HB1; replace q3 := hid q3))
  go_ret2
  have hq1 := q1.ne_blk HB1.out (by decide)
  refine ⟨Or2 F (Opt G'), rfl, ⟨a1, c1, G1, a', c', G', ?_, ?_, ?_, .inl hp, fun g hg => .inl (hg1 g hg), fun g hg => .inr hg, ?_⟩, ?_, ?_⟩
  · have := HB1.out.set 3 (.slice a' (came.length + 1) c')
    simpa using this
  · have h1 := (HS1.out.alloc (.cells #[.int .i64 line] 3)).chg q2 (fun g hg hG => HD.out g hG hg)
    exact h1.set_far (p := ⟨p, 3, none⟩) (h1.ne_blk HB1.out (by decide)) _
  · have := q1.set_far (p := ⟨p, 3, none⟩) hq1 (.slice a' (came.length + 1) c')
    rw [ints_append] at this
    simpa using this
  · rintro k (hF | hG)
    · have h1 := hk k hF; have h2 := q2.size; simp at h2 ⊢; omega
    · have := q1.lt k hG; simpa using this
  · exact ((push_chg q2).mono (fun i _ h => hg3 i h)).setCell (p := ⟨p, 3, none⟩) (.inl hp) _
  · rintro k (hF | hG)
    · exact .inl hF
    · rcases push_grew q3.out k hG with h | h
      · exact .inl (hg3 k h)
      · exact .inr h
theorem on_any (w : World) (F : Nat → Prop) (p : Nat) (stack : List Bool) (on : Bool) (came : List Int) (h : OffAt w F p stack on came) :
    Calls Try.prog 21 #[.pointer (some ⟨p, 0, none⟩)] w fun e w' => e = .returned (.tuple #[.bool on, .int .i64 stack.length]) ∧ ∃ k, w' = w.drewN k := by
  obtain ⟨a1, c1, G1, a3, c3, G3, hb, hs1, hs3, hp, hg1, hg3, hk⟩ := h
  have d1 := hb.cell 1
  have d2 := hb.cell 2
  simp only [List.getElem?_cons_succ, List.getElem?_cons_zero] at d1 d2
  clear hb hs1 hs3
  go_enter Try.func21, Try.ntmps21
  go_wp2
  go_quiet (fail)
  go_wp2
  go_ret2
  exact ⟨rfl, _, rfl⟩
end Go.Proofs.Ytnbojhmlgnfneaa
