/- Contracts of package dead: what each call returns, and what becomes of the tasks. Conditions: at most 1000 tasks, each as it may be; times below 2^30. -/
import Derived.Test.YtipmjfpoglkiaaaSlices
import Derived.Test.YtipmjfpoglkiaaaMem2
import Derived.Test.YtipmjfpoglkiaaaDeadP
import Derived.RegionTactic
import Derived.BigRegion
import Derived.Deep.RegionLaw
import Derived.Deep.RegionHeld3
namespace Go.Proofs.Ytipmjfpoglkiaaa
open Go.ChangeShapes Go.WideShapes Go.ChangeAt Go.RowKit
set_option linter.unusedVariables false
theorem eTask : ETy Try.prog 70 78 7 48 := ⟨Try.underlying70, info_of (z := .agg #[.int .i64 0, .int .i64 0, .int .i64 0, .int .i64 0, .int .i64 0, .bool false, .bool false]) (by kernel_rfl) rfl, by decide⟩
/-- In block p lies a class of tasks with deadlines: the time, and the tasks; its blocks are all of F. -/
structure DA (w : World) (F : Nat → Prop) (p now : Nat) (ts : List DT) (a : Option Addr) (c : Nat) (G : Option Nat) : Prop where
  blk : Blk w p 72 [.int .i64 now, .slice a ts.length c]
  sl : Sl w 78 7 a ts.length c (ts.flatMap dtCells) G
  fp : F p
  fg : ∀ g, G = some g → F g
  lt : ∀ k, F k → k < w.heap.size
def DeadAt (w : World) (F : Nat → Prop) (p now : Nat) (ts : List DT) : Prop := ∃ a c G, DA w F p now ts a c G
section
variable {w w' : World} {F H : Nat → Prop} {p now : Nat} {ts : List DT} {a : Option Addr} {c : Nat} {G : Option Nat}
theorem DA.chg (h : DA w F p now ts a c G) (hc : Chg H w w') (hd : Dj F H) : DA w' F p now ts a c G :=
  ⟨h.blk.chg hc (hd p h.fp), h.sl.chg hc (fun g hg => hd g (h.fg g hg)), h.fp, h.fg, fun k hk => Nat.lt_of_lt_of_le (h.lt k hk) hc.size⟩
theorem DeadAt.chg (h : DeadAt w F p now ts) (hc : Chg H w w') (hd : Dj F H) : DeadAt w' F p now ts := by
  obtain ⟨a, c, G, h⟩ := h
  exact ⟨a, c, G, h.chg hc hd⟩
theorem DeadAt.lt (h : DeadAt w F p now ts) : ∀ k, F k → k < w.heap.size := by
  obtain ⟨a, c, G, h⟩ := h
  exact h.lt
theorem DA.drewN (h : DA w F p now ts a c G) (n : Nat) : DA (w.drewN n) F p now ts a c G := ⟨h.blk.drewN n, h.sl.drewN n, h.fp, h.fg, h.lt⟩
theorem DA.c0 (h : DA w F p now ts a c G) : w.cell? ⟨p, 0, none⟩ = some (.int .i64 now) := h.blk.cell 0
theorem DA.c1 (h : DA w F p now ts a c G) : w.cell? ⟨p, 1, none⟩ = some (.slice a ts.length c) := h.blk.cell 1
theorem DA.f0 (h : DA w F p now ts a c G) (i : Nat) : w.frozen? ⟨p, i, none⟩ = false := h.blk.frozen i
theorem DA.ne (h : DA w F p now ts a c G) : G ≠ some p := h.sl.ne_blk h.blk (by decide)
/-- Where the tasks lie. -/
theorem DA.at (h : DA w F p now ts a c G) (h0 : 0 < ts.length) : ∃ g off, a = some ⟨g, off, none⟩ ∧ G = some g ∧ g < w.heap.size ∧ g ≠ p := by
  obtain ⟨g, off, h1, h2, h3⟩ := h.sl.block h0
  exact ⟨g, off, h1, h2, h3, fun he => h.ne (by rw [h2, he])⟩
theorem DA.cell {g off : Nat} (h : DA w F p now ts (some ⟨g, off, none⟩) c G) {i : Nat} {x : DT} (hx : ts[i]? = some x) (j : Nat) (hj : j < 7) : w.cell? ⟨g, off + i * 7 + j, none⟩ = (dtCells x)[j]? := by
  have hi : i < ts.length := (List.getElem?_eq_some_iff.1 hx).1
  obtain ⟨g', off', r1, r2, r3, r4⟩ := h.sl.rd.elem dt_len rfl (by omega)
  injection r1 with r1
  injection r1 with r1 r1'
  subst r1; subst r1'
  rw [r4 i hi j hj, (List.getElem?_eq_some_iff.1 hx).2]
theorem DA.free {g off : Nat} (h : DA w F p now ts (some ⟨g, off, none⟩) c G) (h0 : 0 < ts.length) (k : Nat) : w.frozen? ⟨g, k, none⟩ = false := h.sl.free k h0
theorem DA.put {g off : Nat} (h : DA w F p now ts (some ⟨g, off, none⟩) c (some g)) {i j : Nat} {x y : DT} {u : Value} (hx : ts[i]? = some x) (hj : j < 7) (hy : (dtCells x).set j u = dtCells y) :
    DA (w.setCell ⟨g, off + i * 7 + j, none⟩ u) F p now (ts.set i y) (some ⟨g, off, none⟩) c (some g) := by
  have hi : i < ts.length := (List.getElem?_eq_some_iff.1 hx).1
  have hne : p ≠ g := fun he => h.ne (by rw [he])
  have hlt : i * 7 + j < ts.length * 7 := by omega
  refine ⟨?_, ?_, h.fp, h.fg, fun k hk => by simpa [World.setCell] using h.lt k hk⟩
  · rw [List.length_set]; exact h.blk.far (p := ⟨g, _, none⟩) hne u
  · have := h.sl.putn hlt u
    rw [flat_set dtCells 7 dt_len ts i j x y u hx hj hy] at this
    rw [List.length_set, Nat.add_assoc]
    exact this
theorem DA.tick (h : DA w F p now ts a c G) (now' : Nat) (v : Int) (hv : v = (now' : Int)) : DA (w.setCell ⟨p, 0, none⟩ (.int .i64 v)) F p now' ts a c G := by
  subst hv
  exact ⟨h.blk.set 0 _, h.sl.set_far (p := ⟨p, 0, none⟩) h.ne _, h.fp, h.fg, fun k hk => by simpa [World.setCell] using h.lt k hk⟩
theorem set_setD {α : Type} (l : List α) (i : Nat) (x y : α) : (l.set i x).set i y = l.set i y := List.set_set x
end
theorem dnew_ok (w : World) : Calls Try.prog 23 #[] w fun e w' => ∃ F p, e = .returned (.pointer (some ⟨p, 0, none⟩)) ∧ DeadAt w' F p 0 [] ∧ Chg Nil w w' ∧ Grew w.heap.size Nil F := by
  go_enter Try.func23, Try.ntmps23
  go_wp2
  go_ret
  refine ⟨One w.heap.size, _, rfl, ⟨none, 0, none, Blk.new w _ _, Sl.empty _ _ _ _, rfl, (fun g h => by cases h), ?_⟩, (Chg.refl _ _).alloc _, ?_⟩
  · intro k hk; rw [show k = w.heap.size from hk]; simp
  · intro k hk; exact .inr (Nat.le_of_eq (show k = w.heap.size from hk).symm)
theorem dfind_no (w : World) (F : Nat → Prop) (p now : Nat) (ts : List DT) (a : Option Addr) (c : Nat) (G : Option Nat) (t : Int) (h : DA w F p now ts a c G) (hl : ts.length ≤ 1000) (ht : ∀ x ∈ ts, (x.t : Int) ≠ t) :
    Calls Try.prog 47 #[.pointer (some ⟨p, 0, none⟩), .int .i64 t] w fun e w' => e = .returned (.pointer none) ∧ w = w' := by
  have c1 := h.c1
  have H := hid h
  have HT := hid ht
  clear h ht
  go_enter Try.func47, Try.ntmps47
  go_wp2
  go_loop [11] (fun s11 => ∃ k : Nat, k ≤ ts.length ∧ s11 = .int .i64 k) (fun s11 => ts.length - (intOf s11).toNat)
  case atStart => exact ⟨0, by omega, rfl⟩
  case round =>
    obtain ⟨k, hk, rfl⟩ := hrel
    by_cases hlt : k < ts.length
    · obtain ⟨g, off, rfl, rfl, _, _⟩ := H.out.at (by omega)
      have hc := H.out.cell (List.getElem?_eq_getElem hlt) 0 (by omega)
      simp only [dtCells, List.getElem?_cons_zero, Nat.add_zero] at hc
      have hne : (((ts[k].t : Nat) : Int) == t) = false := by rw [beq_eq_false_iff_ne]; exact HT.out _ (List.getElem_mem hlt)
      go_wp2
      go_round
      case rel => exact ⟨k + 1, by omega, by go_num⟩
      case measure => simp [intOf]; omega
    · go_wp2
      go_ret
      exact ⟨rfl, rfl⟩
theorem dfind_yes (w : World) (F : Nat → Prop) (p now : Nat) (ts : List DT) (g off : Nat) (c : Nat) (G : Option Nat) (i : Nat) (x : DT) (t : Int) (h : DA w F p now ts (some ⟨g, off, none⟩) c G) (hl : ts.length ≤ 1000) (hx : ts[i]? = some x) (hxt : (x.t : Int) = t) (ht : ∀ j y, j < i → ts[j]? = some y → (y.t : Int) ≠ t) :
    Calls Try.prog 47 #[.pointer (some ⟨p, 0, none⟩), .int .i64 t] w fun e w' => e = .returned (.pointer (some ⟨g, off + i * 7, none⟩)) ∧ w = w' := by
  have c1 := h.c1
  have hi : i < ts.length := (List.getElem?_eq_some_iff.1 hx).1
  have H := hid h
  have HT := hid ht
  have HX := hid hx
  have HXT := hid hxt
  clear h ht hx hxt
  go_enter Try.func47, Try.ntmps47
  go_wp2
  go_loop [11] (fun s11 => ∃ k : Nat, k ≤ i ∧ s11 = .int .i64 k) (fun s11 => ts.length - (intOf s11).toNat)
  case atStart => exact ⟨0, by omega, rfl⟩
  case round =>
    obtain ⟨k, hk, rfl⟩ := hrel
    have hlt : k < ts.length := by omega
    by_cases hki : k = i
    · subst hki
      have hc := H.out.cell HX.out 0 (by omega)
      simp only [dtCells, List.getElem?_cons_zero, Nat.add_zero] at hc
      have hne : (((x.t : Nat) : Int) == t) = true := by rw [beq_iff_eq]; exact HXT.out
      go_wp2
      go_ret
      exact ⟨rfl, rfl⟩
    · have hc := H.out.cell (List.getElem?_eq_getElem hlt) 0 (by omega)
      simp only [dtCells, List.getElem?_cons_zero, Nat.add_zero] at hc
      have hne : (((ts[k].t : Nat) : Int) == t) = false := by rw [beq_eq_false_iff_ne]; exact HT.out k _ (by omega) (List.getElem?_eq_getElem hlt)
      go_wp2
      go_round
      case rel => exact ⟨k + 1, by omega, by go_num⟩
      case measure => simp [intOf]; omega
set_option maxHeartbeats 2000000 in
theorem dadd_ok (w : World) (F : Nat → Prop) (p now : Nat) (ts : List DT) (t b q : Nat) (h : DeadAt w F p now ts) (hl : ts.length < 1000) (hn : now ≤ 1073741824) (t1 : 1 ≤ t) (t2 : t ≤ 16) (b1 : 1 ≤ b) (b2 : b ≤ q) (q2 : q ≤ 30) (ht : ∀ x ∈ ts, x.t ≠ t) :
    Calls Try.prog 38 #[.pointer (some ⟨p, 0, none⟩), .int .i64 (t : Int), .int .i64 (b : Int), .int .i64 (q : Int)] w fun e w' => ∃ F', e = .returned (.int .i64 0) ∧ DeadAt w' F' p now (ts ++ [newT t b q now]) ∧ Chg F w w' ∧ Grew w.heap.size F F' := by
  obtain ⟨a, c, G, h⟩ := h
  have d0 := h.c0
  have d1 := h.c1
  have f1 := h.f0 1
  have HF := hid (dfind_no w F p now ts a c G (t : Int) h (by omega) (fun x hx he => ht x hx (by omega)))
  have hw := IntWalk.i64_in ((now : Int) + (q : Int)) (by omega)
  have hcl : [Value.int .i64 (t : Int), .int .i64 (b : Int), .int .i64 (q : Int), .int .i64 (b : Int), .int .i64 ((now : Int) + (q : Int)), .bool true, .bool false] = dtCells (newT t b q now) := rfl
  have x1 := (h.blk.alloc (.cells #[.int .i64 (t : Int), .int .i64 (b : Int), .int .i64 (q : Int), .int .i64 (b : Int), .int .i64 ((now : Int) + (q : Int)), .bool true, .bool false] 78)).cell 1
  simp only [List.getElem?_cons_succ, List.getElem?_cons_zero] at x1
  have HS : Hid (Sl (w.alloc (.cells #[.int .i64 (t : Int), .int .i64 (b : Int), .int .i64 (q : Int), .int .i64 (b : Int), .int .i64 ((now : Int) + (q : Int)), .bool true, .bool false] 78)).drew 78 7 a ts.length c (ts.flatMap dtCells) G) := h.sl.alloc _
  have HN : Hid (Rd (w.alloc (.cells #[.int .i64 (t : Int), .int .i64 (b : Int), .int .i64 (q : Int), .int .i64 (b : Int), .int .i64 ((now : Int) + (q : Int)), .bool true, .bool false] 78)).drew (One w.heap.size) 7 (some ⟨w.heap.size, 0, none⟩) 1 1 (dtCells (newT t b q now))) := Rd.of_blk (n := 1) (s := 7) (Blk.new w 78 (dtCells (newT t b q now))) rfl (by decide)
  have HNE := hid h.ne
  have H := hid h
  clear h ht
  replace hcl := hid hcl
  go_enter Try.func38, Try.ntmps38
  go_wp2_with (go_at_call 47; refine HF.out.mono ?_; rintro e w' ⟨rfl, rfl⟩)
  go_region_law (refine step_append_sl rfl _ _ eTask rfl rfl rfl HS.out HN.out (dt_one _) (by omega) (by omega) ?_; intro a' c' w1 G' q1 q2 q3; have HB1 := (H.out.blk.alloc (.cells #[.int .i64 (t : Int), .int .i64 (b : Int), .int .i64 (q : Int), .int .i64 (b : Int), .int .i64 ((now : Int) + (q : Int)), .bool true, .bool false] 78)).drew.chg q2 HNE.out; have e1 := HB1.cell 1; have e0 := HB1.cell 0; have g1 := HB1.frozen 1; simp only [List.getElem?_cons_succ, List.getElem?_cons_zero] at e0 e1; replace HB1 := hid HB1; replace q3 := hid q3)
  all_goals
    go_wp2
    go_ret
    have hq1 := q1.ne_blk HB1.out (by decide)
    refine ⟨Or2 F (Opt G'), rfl, ⟨a', c', G', ?_, ?_, .inl H.out.fp, fun g hg => .inr hg, ?_⟩, ?_, ?_⟩
    · have := HB1.out.set 1 (.slice a' (ts.length + 1) c')
      simpa using this
    · have h1 := q1.set_far (p := ⟨p, 1, none⟩) hq1 (.slice a' (ts.length + 1) c')
      have h2 : ts.flatMap dtCells ++ dtCells (newT t b q now) = (ts ++ [newT t b q now]).flatMap dtCells := by simp
      rw [h2] at h1
      simpa using h1
    · rintro k (hF | hG)
      · have h1 := H.out.lt k hF; have h2 := q2.size; simp at h2 ⊢; omega
      · have := q1.lt k hG; simpa using this
    · have h0 : Chg F w w1 := (((Chg.refl F w).alloc _).drew).trans q2 (fun i _ h => H.out.fg i h)
      exact h0.setCell (p := ⟨p, 1, none⟩) (.inl H.out.fp) _
    · rintro k (hF | hG)
      · exact .inl hF
      · rcases q3.out with h3 | h3 <;> rw [h3] at hG
        · exact .inl (H.out.fg k hG)
        · injection hG with hG
          simp at hG
          exact .inr (by omega)
/-- A task that is there, by its number. -/
def Numbered (ts : List DT) (i : Nat) (x : DT) (t : Int) : Prop := ts[i]? = some x ∧ (x.t : Int) = t ∧ ∀ j y, j < i → ts[j]? = some y → (y.t : Int) ≠ t
theorem dblock_no (w : World) (F : Nat → Prop) (p now : Nat) (ts : List DT) (t : Int) (h : DeadAt w F p now ts) (hl : ts.length ≤ 1000) (ht : ∀ x ∈ ts, (x.t : Int) ≠ t) :
    Calls Try.prog 31 #[.pointer (some ⟨p, 0, none⟩), .int .i64 t] w fun e w' => e = .returned (.int .i64 4) ∧ w = w' := by
  obtain ⟨a, c, G, h⟩ := h
  have HF := hid (dfind_no w F p now ts a c G t h hl ht)
  clear h ht
  go_enter Try.func31, Try.ntmps31
  go_wp2_with (go_at_call 47; refine HF.out.mono ?_; rintro e w' ⟨rfl, rfl⟩)
  go_ret
  exact ⟨rfl, rfl⟩
theorem dblock_ok (w : World) (F : Nat → Prop) (p now : Nat) (ts : List DT) (i : Nat) (x : DT) (t : Int) (h : DeadAt w F p now ts) (hl : ts.length ≤ 1000) (hx : Numbered ts i x t) :
    Calls Try.prog 31 #[.pointer (some ⟨p, 0, none⟩), .int .i64 t] w fun e w' => e = .returned (.int .i64 (if x.r then 0 else 8)) ∧ DeadAt w' F p now (ts.set i { x with r := false }) ∧ Chg F w w' := by
  obtain ⟨a, c, G, h⟩ := h
  obtain ⟨x1, x2, x3⟩ := hx
  have hi : i < ts.length := (List.getElem?_eq_some_iff.1 x1).1
  obtain ⟨g, off, rfl, rfl, hg, hne⟩ := h.at (by omega)
  have c5 := h.cell x1 5 (by omega)
  have f5 := h.free (by omega) (off + i * 7 + 5)
  simp only [dtCells, List.getElem?_cons_succ, List.getElem?_cons_zero] at c5
  have HF := hid (dfind_yes w F p now ts g off c _ i x t h hl x1 x2 x3)
  have H := hid h
  have X1 := hid x1
  clear h x1 x2 x3
  cases hr : x.r with
  | true =>
    rw [hr] at c5
    replace hr := hid hr
    go_enter Try.func31, Try.ntmps31
    go_wp2_with (go_at_call 47; refine HF.out.mono ?_; rintro e w' ⟨rfl, rfl⟩)
    go_ret
    exact ⟨rfl, ⟨_, _, _, H.out.put X1.out (j := 5) (by omega) rfl⟩, (Chg.refl F w).setCell (p := ⟨g, off + i * 7 + 5, none⟩) (.inl (H.out.fg g rfl)) _⟩
  | false =>
    have hxx : ({ x with r := false } : DT) = x := by cases x; cases hr; rfl
    have hs : ts.set i { x with r := false } = ts := by
      rw [hxx]
      have := (List.getElem?_eq_some_iff.1 X1.out).2
      rw [← this]; exact List.set_getElem_self _
    rw [hr] at c5
    replace hr := hid hr
    replace hxx := hid hxx
    replace hs := hid hs
    go_enter Try.func31, Try.ntmps31
    go_wp2_with (go_at_call 47; refine HF.out.mono ?_; rintro e w' ⟨rfl, rfl⟩)
    go_ret
    refine ⟨rfl, ?_, Chg.refl F w⟩
    rw [hs.out]
    exact ⟨_, _, _, H.out⟩
end Go.Proofs.Ytipmjfpoglkiaaa
