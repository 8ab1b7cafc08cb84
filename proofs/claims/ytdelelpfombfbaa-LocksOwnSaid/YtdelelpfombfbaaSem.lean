/- Contracts of the semaphore: what New, Down, Up and Count return, and what the semaphore is then. Conditions: the row is shorter than 2^31. -/
import Derived.Test.YtdelelpfombfbaaSlices
import Derived.Deep.RegionHeld3
namespace Go.Proofs.Ytdelelpfombfbaa
open Go.ChangeShapes Go.WideShapes Go.ChangeAt Go.RowKit
set_option linter.unusedVariables false
/-- In block p lies a semaphore: its count, and who waits; its blocks are all of F. -/
def SemAt (w : World) (F : Nat → Prop) (p : Nat) (n : Int) (row : List Int) : Prop :=
  ∃ a c G, Blk w p 91 [.int .i64 n, .slice a row.length c] ∧ Sl w 3 1 a row.length c (ints .i64 row) G ∧ F p ∧ (∀ g, G = some g → F g) ∧ ∀ k, F k → k < w.heap.size
section
variable {w w' : World} {F H : Nat → Prop} {p : Nat} {n : Int} {row : List Int}
theorem SemAt.chg (h : SemAt w F p n row) (hc : Chg H w w') (hd : Dj F H) : SemAt w' F p n row := by
  obtain ⟨a, c, G, h1, h2, h3, h4, h5⟩ := h
  exact ⟨a, c, G, h1.chg hc (hd p h3), h2.chg hc (fun g hg => hd g (h4 g hg)), h3, h4, fun k hk => Nat.lt_of_lt_of_le (h5 k hk) hc.size⟩
theorem SemAt.lt (h : SemAt w F p n row) : ∀ k, F k → k < w.heap.size := by
  obtain ⟨a, c, G, h1, h2, h3, h4, h5⟩ := h
  exact h5
end
theorem newSem_ok (n : Int) (w : World) (h0 : 0 ≤ n) (h1 : n ≤ 1000) :
    Calls Try.prog 16 #[.int .i64 n] w fun e w' => ∃ F p, e = .returned (.tuple #[.pointer (some ⟨p, 0, none⟩), .int .i64 0]) ∧ SemAt w' F p n [] ∧ Chg Nil w w' ∧ Grew w.heap.size Nil F := by
  go_enter Try.func16, Try.ntmps16
  go_wp2
  go_ret2
  refine ⟨One w.heap.size, _, rfl, ⟨none, 0, none, Blk.new w _ _, Sl.empty _ _ _ _, rfl, (fun g h => by cases h), ?_⟩, (Chg.refl _ _).alloc _, ?_⟩
  · intro k hk; rw [show k = w.heap.size from hk]; simp
  · intro k hk; exact .inr (Nat.le_of_eq (show k = w.heap.size from hk).symm)
theorem down_has (w : World) (F : Nat → Prop) (p : Nat) (n t : Int) (row : List Int) (h : SemAt w F p n row) (hl : row.length < 2147483648) (t1 : 1 ≤ t) (t2 : t ≤ 16) (ht : t ∈ row) :
    Calls Try.prog 25 #[.pointer (some ⟨p, 0, none⟩), .int .i64 t] w fun e w' => e = .returned (.int .i64 8) ∧ w = w' := by
  obtain ⟨a, c, G, hb, hs, hp, hg, hk⟩ := h
  have c1 := hb.cell 1
  simp only [List.getElem?_cons_succ, List.getElem?_cons_zero] at c1
  have hh := hasI_true ht
  have HR := hid hs.rd
  clear hs hb
  go_enter Try.func25, Try.ntmps25
  go_wp2_with (go_at_call 35; refine (contains_int _ _ _ _ _ _ _ HR.out (by omega)).mono ?_; rintro e w' ⟨rfl, rfl⟩)
  go_ret
  exact ⟨rfl, rfl⟩
theorem down_ok (w : World) (F : Nat → Prop) (p : Nat) (n t : Int) (row : List Int) (h : SemAt w F p n row) (hl : row.length < 2147483648) (t1 : 1 ≤ t) (t2 : t ≤ 16) (ht : t ∉ row) (hn : 0 < n) (hn2 : n ≤ 9223372036854775807) :
    Calls Try.prog 25 #[.pointer (some ⟨p, 0, none⟩), .int .i64 t] w fun e w' => e = .returned (.int .i64 0) ∧ SemAt w' F p (n - 1) row ∧ Chg F w w' := by
  obtain ⟨a, c, G, hb, hs, hp, hg, hk⟩ := h
  have c0 := hb.cell 0
  have c1 := hb.cell 1
  have f0 := hb.frozen 0
  simp only [List.getElem?_cons_succ, List.getElem?_cons_zero] at c0 c1
  have hh := hasI_false ht
  have HR := hid hs.rd
  have HS := hid hs
  have HB := hid hb
  clear hs hb
  go_enter Try.func25, Try.ntmps25
  go_wp2_with (go_at_call 35; refine (contains_int _ _ _ _ _ _ _ HR.out (by omega)).mono ?_; rintro e w' ⟨rfl, rfl⟩)
  go_ret
  refine ⟨rfl, ⟨a, c, G, HB.out.set 0 _, HS.out.set_far (p := ⟨p, 0, none⟩) (HS.out.ne_blk HB.out (by decide)) _, hp, hg, fun k hF => by simpa using hk k hF⟩, (Chg.refl F w).setCell (p := ⟨p, 0, none⟩) (.inl hp) _⟩
theorem down_wait (w : World) (F : Nat → Prop) (p : Nat) (t : Int) (row : List Int) (h : SemAt w F p 0 row) (hl : row.length < 2147483648) (t1 : 1 ≤ t) (t2 : t ≤ 16) (ht : t ∉ row) :
    Calls Try.prog 25 #[.pointer (some ⟨p, 0, none⟩), .int .i64 t] w fun e w' => ∃ F', e = .returned (.int .i64 9) ∧ SemAt w' F' p 0 (row ++ [t]) ∧ Chg F w w' ∧ Grew w.heap.size F F' := by
  obtain ⟨a, c, G, hb, hs, hp, hg, hk⟩ := h
  have c0 := hb.cell 0
  have c1 := hb.cell 1
  simp only [List.getElem?_cons_succ, List.getElem?_cons_zero] at c0 c1
  have hh := hasI_false ht
  have HR := hid hs.rd
  have HS := hid (hs.alloc (.cells #[.int .i64 t] 3))
  have HB := hid (hb.alloc (.cells #[.int .i64 t] 3))
  have HN := hid (Rd.of_blk (n := 1) (s := 1) (Blk.new w 3 (ints .i64 [t])) rfl (by decide))
  have HNE := hid (hs.ne_blk hb (by decide))
  clear hs hb
  go_enter Try.func25, Try.ntmps25
  go_wp2_with (first | (go_at_call 35; refine (contains_int _ _ _ _ _ _ _ HR.out (by omega)).mono ?_; rintro e w' ⟨rfl, rfl⟩) | (at_builtin; refine wpList_append_sl rfl _ _ eInt rfl rfl rfl HS.out HN.out (ints_one _ _) (by omega) (by omega) ?_; intro a' c' w1 G' q1 q2 q3; have HB1 := HB.out.chg q2 HNE.out; have d1 := HB1.cell 1; have g1 := HB1.frozen 1; simp only [List.getElem?_cons_succ, List.getElem?_cons_zero] at d1; replace HB1 := hid HB1; replace q3 := hid q3))
  go_ret
  refine ⟨Or2 F (Opt G'), rfl, ⟨a', c', G', ?_, ?_, .inl hp, fun g hg => .inr hg, ?_⟩, ?_, ?_⟩
  · have := HB1.out.set 1 (.slice a' (row.length + 1) c')
    simpa using this
  · have := q1.set_far (p := ⟨p, 1, none⟩) (q1.ne_blk HB1.out (by decide)) (.slice a' (row.length + 1) c')
    rw [ints_append] at this
    simpa using this
  · rintro k (hF | hG)
    · have h1 := hk k hF; have h2 := q2.size; simp at h2 ⊢; omega
    · have := q1.lt k hG; simpa using this
  · exact (((Chg.refl F w).alloc _).trans q2 (fun i _ h => hg i h)).setCell (p := ⟨p, 1, none⟩) (.inl hp) _
  · rintro k (hF | hG)
    · exact .inl hF
    · rcases q3.out with h3 | h3 <;> rw [h3] at hG
      · exact .inl (hg k hG)
      · have : (w.alloc (.cells #[.int .i64 t] 3)).heap.size = k := by injection hG
        simp at this; exact .inr (by omega)
theorem count_ok (w : World) (F : Nat → Prop) (p : Nat) (n : Int) (row : List Int) (h : SemAt w F p n row) (hl : row.length < 2147483648) :
    Calls Try.prog 32 #[.pointer (some ⟨p, 0, none⟩)] w fun e w' => ∃ a c G, e = .returned (.tuple #[.int .i64 n, .slice a row.length c]) ∧ Sl w' 3 1 a row.length c (ints .i64 row) G ∧ Chg Nil w w' ∧ ∀ g, G = some g → w.heap.size ≤ g := by
  obtain ⟨a, c, G, hb, hs, hp, hg, hk⟩ := h
  have c0 := hb.cell 0
  have c1 := hb.cell 1
  simp only [List.getElem?_cons_succ, List.getElem?_cons_zero] at c0 c1
  have HR := hid hs.rd
  have HB := hid hb
  clear hs hb
  go_enter Try.func32, Try.ntmps32
  go_wp2
  go_region_held3 (fun w' => w'.cell? ⟨p, 0, none⟩ = some (.int .i64 n) ∧ w'.cell? ⟨p, 1, none⟩ = some (.slice a row.length c)) (first | exact ⟨d0, d1⟩ | go_keep)
    (first | (go_at_call 50; refine (clone_int _ _ _ _ _ _ (HR.out.drewN 1) (ints_one _ _) (by omega)).mono ?_; rintro e w1 ⟨a1, c2, G1, rfl, q1, q2, q3⟩; have HB1 := HB.out.drew.chg q2 (fun h => h); have d0 := HB1.cell 0; have d1 := HB1.cell 1; clear HB1; simp only [List.getElem?_cons_succ, List.getElem?_cons_zero] at d0 d1))
  go_wp2
  go_ret2
  exact ⟨a1, c2, G1, rfl, q1, ((Chg.refl Nil w).drew).trans q2 (fun _ _ h => h), q3⟩
end Go.Proofs.Ytdelelpfombfbaa
