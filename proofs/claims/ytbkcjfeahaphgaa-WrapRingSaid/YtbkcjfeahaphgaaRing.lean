/- Contracts of package wrap's ring. -/
import Derived.Test.YtbkcjfeahaphgaaBytes
import Derived.Deep.RegionHeld3
import Derived.Deep.RegionLaw
namespace Go.Proofs.Ytbkcjfeahaphgaa
open Go.ChangeShapes Go.WideShapes Go.ChangeAt Go.RowKit
set_option linter.unusedVariables false
theorem sl_ne {w : World} {e e' : TypeId} {s s' n n' c c' : Nat} {a a' : Option Addr} {xs xs' : List Value} {G G' : Option Nat} (h : Sl w e s a n c xs G) (h' : Sl w e' s' a' n' c' xs' G') (hne : e ≠ e') : ∀ g, G = some g → G' ≠ some g := by
  intro g hg hg'
  obtain ⟨_, _, _, ⟨_, h4⟩ | ⟨g1, off, cur, _, r2, r3, _⟩⟩ := h
  · rw [h4] at hg; cases hg
  · obtain ⟨_, _, _, ⟨_, k4⟩ | ⟨g2, off', cur', _, s2, s3, _⟩⟩ := h'
    · rw [k4] at hg'; cases hg'
    · rw [r2] at hg; rw [s2] at hg'
      cases hg; cases hg'
      rw [r3] at s3
      cases s3
      exact hne rfl
/-- Row i of the lists rows is the slice vs[i], in a block H i of its own. -/
def Held (w : World) (H : Nat → Option Nat) (rows : List (List Int)) (vs : List Value) : Prop :=
  vs.length = rows.length ∧ (∀ i (h : i < rows.length), rows[i].length ≤ 32 ∧ ∃ a c, vs[i]? = some (.slice a rows[i].length c) ∧ Sl w 5 1 a rows[i].length c (ints .u8 rows[i]) (H i)) ∧
    ∀ i j g, i < rows.length → j < rows.length → H i = some g → H j = some g → i = j
theorem Held.chg {w w' : World} {F : Nat → Prop} {H : Nat → Option Nat} {rows : List (List Int)} {vs : List Value} (h : Held w H rows vs) (hc : Chg F w w') (hF : ∀ i g, i < rows.length → H i = some g → ¬ F g) : Held w' H rows vs := by
  refine ⟨h.1, fun i hi => ?_, h.2.2⟩
  obtain ⟨h1, a, c, h2, h3⟩ := h.2.1 i hi
  exact ⟨h1, a, c, h2, h3.chg hc (fun g hg => hF i g hi hg)⟩
theorem Held.lt {w : World} {H : Nat → Option Nat} {rows : List (List Int)} {vs : List Value} (h : Held w H rows vs) {i g : Nat} (hi : i < rows.length) (hg : H i = some g) : g < w.heap.size := by
  obtain ⟨h1, a, c, h2, h3⟩ := h.2.1 i hi
  exact h3.lt g hg
theorem Held.snoc {w : World} {H : Nat → Option Nat} {rows : List (List Int)} {vs : List Value} (h : Held w H rows vs) {l : List Int} {a : Option Addr} {c : Nat} {G : Option Nat} (hl : l.length ≤ 32) (hs : Sl w 5 1 a l.length c (ints .u8 l) G) (hG : ∀ i g, i < rows.length → H i = some g → G ≠ some g) :
    Held w (fun i => if i < rows.length then H i else G) (rows ++ [l]) (vs ++ [.slice a l.length c]) := by
  have hv := h.1
  refine ⟨by simp [h.1], fun i hi => ?_, fun i j g hi hj => ?_⟩
  · by_cases hlt : i < rows.length
    · obtain ⟨h1, a', c', h2, h3⟩ := h.2.1 i hlt
      rw [List.getElem_append_left hlt]
      refine ⟨h1, a', c', ?_, ?_⟩
      · rw [List.getElem?_append_left (by omega), h2]
      · simp only [hlt, if_true]; exact h3
    · have he : i = rows.length := by simp at hi; omega
      subst he
      simp only [List.getElem_append_right (Nat.le_refl _), Nat.sub_self, List.getElem_singleton, Nat.lt_irrefl, if_false]
      refine ⟨hl, a, c, ?_, hs⟩
      rw [List.getElem?_append_right (by omega)]
      simp [hv]
  · simp only [List.length_append, List.length_singleton] at hi hj
    by_cases hi' : i < rows.length
    · by_cases hj' : j < rows.length
      · simp only [hi', hj', if_true]; exact h.2.2 i j g hi' hj'
      · simp only [hi', hj', if_true, if_false]; intro h1 h2; exact absurd h2 (hG i g hi' h1)
    · by_cases hj' : j < rows.length
      · simp only [hi', hj', if_true, if_false]; intro h1 h2; exact absurd h1 (hG j g hj' h2)
      · intro _ _; omega
theorem Held.drop1 {w : World} {H : Nat → Option Nat} {rows : List (List Int)} {vs : List Value} (h : Held w H rows vs) : Held w (fun i => H (i + 1)) (rows.drop 1) (vs.drop 1) := by
  refine ⟨by simp [h.1], fun i hi => ?_, fun i j g hi hj h1 h2 => ?_⟩
  · have hi' : i + 1 < rows.length := by simp at hi; omega
    obtain ⟨h1, a', c', h2, h3⟩ := h.2.1 (i + 1) hi'
    have e : (rows.drop 1)[i] = rows[i + 1] := by simp
    rw [e]
    exact ⟨h1, a', c', by rw [List.getElem?_drop, Nat.add_comm, h2], h3⟩
  · have := h.2.2 (i + 1) (j + 1) g (by simp at hi; omega) (by simp at hj; omega) h1 h2
    omega
theorem Held.one {w : World} {H : Nat → Option Nat} {rows : List (List Int)} {vs : List Value} (h : Held w H rows vs) : ∀ u ∈ vs, u.oneCell' = true := by
  intro u hu
  obtain ⟨i, hi, rfl⟩ := List.mem_iff_getElem.1 hu
  obtain ⟨_, a, c, h2, _⟩ := h.2.1 i (by have := h.1; omega)
  rw [List.getElem?_eq_getElem hi] at h2
  have h3 := Option.some.inj h2
  rw [h3]
  rfl
theorem held_nil (w : World) (H : Nat → Option Nat) : Held w H [] [] := ⟨rfl, fun i hi => absurd hi (by simp), fun i j g hi => absurd hi (by simp)⟩
theorem slice_one (a : Option Addr) (n c : Nat) : ∀ u ∈ [Value.slice a n c], u.oneCell' = true := by
  intro u hu
  obtain rfl := List.mem_singleton.1 hu
  rfl
def RingAt (w : World) (F : Nat → Prop) (p : Nat) (size next : Int) (rows : List (List Int)) : Prop :=
  ∃ a c G vs H, Blk w p 66 [.int .i64 size, .int .u32 next, .slice a rows.length c] ∧ Sl w 46 1 a rows.length c vs G ∧ Held w H rows vs ∧ F p ∧ (∀ g, G = some g → F g) ∧ (∀ i g, i < rows.length → H i = some g → F g) ∧ ∀ k, F k → k < w.heap.size
theorem RingAt.chg {w w' : World} {F F' : Nat → Prop} {p : Nat} {size next : Int} {rows : List (List Int)} (h : RingAt w F p size next rows) (hc : Chg F' w w') (hF : ∀ k, F k → ¬ F' k) : RingAt w' F p size next rows := by
  obtain ⟨a, c, G, vs, H, h1, h2, h3, h4, h5, h6, h7⟩ := h
  exact ⟨a, c, G, vs, H, h1.chg hc (hF p h4), h2.chg hc (fun g hg => hF g (h5 g hg)), h3.chg hc (fun i g hi hg => hF g (h6 i g hi hg)), h4, h5, h6, fun k hk => Nat.lt_of_lt_of_le (h7 k hk) hc.size⟩
set_option maxHeartbeats 1000000 in
theorem new_ok (size first : Int) (w : World) (h1 : 1 ≤ size) (h2 : size ≤ 64) :
    Calls Try.prog 19 #[.int .i64 size, .int .u32 first] w fun e w' => e = .returned (.tuple #[.pointer (some ⟨w.heap.size, 0, none⟩), .int .i64 0]) ∧ RingAt w' (One w.heap.size) w.heap.size size first [] ∧ Chg Nil w w' := by
  go_enter Try.func19, Try.ntmps19
  go_wp2
  go_ret2
  refine ⟨rfl, ⟨none, 0, none, [], fun _ => none, Blk.new w _ _, Sl.empty _ _ _ _, held_nil _ _, rfl, (fun g hg => by cases hg), (fun i g hi => absurd hi (by simp)), fun k hk => ?_⟩, (Chg.refl _ _).alloc _⟩
  rw [hk]; exact (Blk.new w 66 _).lt
theorem put_fin {w w1 w3 : World} {F : Nat → Prop} {p : Nat} {size next : Int} {rows : List (List Int)} {a : Option Addr} {c : Nat} {G : Option Nat} {vs : List Value} {H : Nat → Option Nat} {l : List Int} {a1 : Option Addr} {d1 : Nat} {G1 : Option Nat} {a' : Option Addr} {c' : Nat} {G' : Option Nat} {o : Obj}
    (r1 : Blk w p 66 [.int .i64 size, .int .u32 next, .slice a rows.length c]) (r2 : Sl w 46 1 a rows.length c vs G) (r3 : Held w H rows vs) (r4 : F p) (r5 : ∀ g, G = some g → F g) (r6 : ∀ i g, i < rows.length → H i = some g → F g) (r7 : ∀ k, F k → k < w.heap.size)
    (hn : l.length ≤ 32) (q1 : Sl w1 5 1 a1 l.length d1 (ints .u8 l) G1) (q2 : Chg Nil w w1) (q3 : ∀ g, G1 = some g → w.heap.size ≤ g)
    (y1 : Sl w3 46 1 a' (rows.length + 1) c' (vs ++ [.slice a1 l.length d1]) G') (y2 : Chg (Opt G) (w1.alloc o) w3) (y3 : G' = G ∨ G' = some (w1.alloc o).heap.size) :
    ∃ F', RingAt (w3.setCell ⟨p, 2, none⟩ (.slice a' (rows.length + 1) c')) F' p size next (rows ++ [l]) ∧ Chg F w (w3.setCell ⟨p, 2, none⟩ (.slice a' (rows.length + 1) c')) ∧ Grew w.heap.size F F' := by
  have hGp := r2.ne_blk r1 (by decide)
  have x2 := push_chg y2
  have hw1 := q2.size
  have hw3 := x2.size
  have b3 := (r1.chg q2 (fun h => h)).chg x2 hGp
  have hh1 : Held w1 H rows vs := r3.chg q2 (fun _ _ _ _ h => h)
  have hr2 := r2.chg q2 (fun _ _ h => h)
  have hh3 : Held w3 H rows vs := hh1.chg x2 (fun i g hi hg h => by
    obtain ⟨_, a0, c0, _, h3⟩ := hh1.2.1 i hi
    exact sl_ne h3 hr2 (by decide) g hg h)
  have hs3 := q1.chg x2 (fun g hg h => sl_ne q1 hr2 (by decide) g hg h)
  have hne : G1 ≠ some p := hs3.ne_blk b3 (by decide)
  have hne' : G' ≠ some p := y1.ne_blk b3 (by decide)
  have hK := hh3.snoc hn hs3 (fun i g hi hg h => by have := r3.lt hi hg; have := q3 g h; omega)
  have hset : Chg (One p) w3 (w3.setCell ⟨p, 2, none⟩ (.slice a' (rows.length + 1) c')) := (Chg.refl (One p) w3).setCell (p := ⟨p, 2, none⟩) (.inl rfl) _
  refine ⟨fun k => F k ∨ G1 = some k ∨ G' = some k, ⟨a', c', G', _, _, ?_, ?_, hK.chg hset (fun i g hi hg h => ?_), .inl r4, fun g hg => .inr (.inr hg), fun i g hi hg => ?_, fun k hk => ?_⟩, ?_, fun k hk => ?_⟩
  · have := b3.set 2 (.slice a' (rows.length + 1) c')
    simpa using this
  · have := y1.chg hset (fun g hg h => hne' (by rw [hg, h]))
    simpa using this
  · obtain ⟨_, a0, c0, _, h3⟩ := hK.2.1 i hi
    exact h3.ne_blk b3 (by decide) (by rw [show g = p from h] at hg; exact hg)
  · by_cases hlt : i < rows.length
    · simp only [hlt, if_true] at hg; exact .inl (r6 i g hlt hg)
    · simp only [hlt, if_false] at hg; exact .inr (.inl hg)
  · have hz := hset.size
    rcases hk with hk | hk | hk
    · have := r7 k hk; omega
    · have := hs3.lt k hk; omega
    · have := y1.lt k hk; omega
  · refine ((((Chg.refl F w).trans q2 (fun _ _ h => h.elim)).trans x2 (fun i _ h => r5 i h)).trans hset (fun i _ h => ?_))
    rw [h]; exact r4
  · rcases hk with hk | hk | hk
    · exact .inl hk
    · exact .inr (q3 k hk)
    · rcases y3 with h | h
      · exact .inl (r5 k (h ▸ hk))
      · rw [h] at hk
        have hk' := Option.some.inj hk
        have := ((Chg.refl Nil w1).alloc o).size
        exact .inr (by omega)
theorem RingAt.setNext {w : World} {F : Nat → Prop} {p : Nat} {size next : Int} {rows : List (List Int)} (h : RingAt w F p size next rows) (n' : Int) : RingAt (w.setCell ⟨p, 1, none⟩ (.int .u32 n')) F p size n' rows ∧ Chg F w (w.setCell ⟨p, 1, none⟩ (.int .u32 n')) := by
  obtain ⟨a, c, G, vs, H, h1, h2, h3, h4, h5, h6, h7⟩ := h
  have hset : Chg (One p) w (w.setCell ⟨p, 1, none⟩ (.int .u32 n')) := (Chg.refl (One p) w).setCell (p := ⟨p, 1, none⟩) (.inl rfl) _
  refine ⟨⟨a, c, G, vs, H, ?_, h2.chg hset (fun g hg h => h2.ne_blk h1 (by decide) (by rw [hg, h])), h3.chg hset (fun i g hi hg h => ?_), h4, h5, h6, fun k hk => Nat.lt_of_lt_of_le (h7 k hk) hset.size⟩, hset.mono (fun i _ h => by rw [h]; exact h4)⟩
  · have := h1.set 1 (.int .u32 n')
    simpa using this
  · obtain ⟨_, a0, c0, _, k3⟩ := h3.2.1 i hi
    exact k3.ne_blk h1 (by decide) (by rw [hg, h])
theorem RingAt.cells {w : World} {F : Nat → Prop} {p : Nat} {size next : Int} {rows : List (List Int)} (h : RingAt w F p size next rows) : w.cell? ⟨p, 0, none⟩ = some (.int .i64 size) ∧ w.cell? ⟨p, 1, none⟩ = some (.int .u32 next) ∧ w.frozen? ⟨p, 1, none⟩ = false ∧ w.frozen? ⟨p, 2, none⟩ = false ∧ ∃ a c, rows.length ≤ c ∧ c ≤ maxLen ∧ w.cell? ⟨p, 2, none⟩ = some (.slice a rows.length c) := by
  obtain ⟨a, c, G, vs, H, h1, h2, h3, h4, h5, h6, h7⟩ := h
  exact ⟨h1.cell 0, h1.cell 1, h1.frozen 1, h1.frozen 2, a, c, h2.1, h2.2.1, h1.cell 2⟩
theorem put_chg {F F' : Nat → Prop} {w w1 w2 : World} (h : Chg F w w1) (h' : Chg F' w1 w2) (hg : Grew w.heap.size F F') : Chg F w w2 :=
  h.trans h' (fun i hi hF => by
    rcases hg i hF with h | h
    · exact h
    · omega)
theorem Rd.from1 {w : World} {R : Nat → Prop} {g off n c : Nat} {xs : List Value} (h : Rd w R 1 (some ⟨g, off, none⟩) n c xs) (hr : 1 ≤ n) : Rd w R 1 (some ⟨g, off + 1, none⟩) (n - 1) (c - 1) (xs.drop 1) := by
  obtain ⟨h1, h2, h3, h4⟩ := h
  refine ⟨by omega, by omega, by rw [List.length_drop]; omega, fun hn => ?_⟩
  obtain ⟨g', off', r1, r2, r3, r4⟩ := h4 (by omega)
  cases r1
  refine ⟨g, off + 1, rfl, r2, r3, fun j hj => ?_⟩
  rw [List.getElem?_drop, Nat.add_assoc]
  exact r4 (1 + j) (by omega)
theorem drop_fin {w w5 : World} {F : Nat → Prop} {p : Nat} {size next : Int} {rows : List (List Int)} {a : Option Addr} {c : Nat} {vs : List Value} {H : Nat → Option Nat} {a5 : Option Addr} {c5 n : Nat} {G5 : Option Nat}
    (r1 : Blk w p 66 [.int .i64 size, .int .u32 next, .slice a rows.length c]) (r3 : Held w H rows vs) (r4 : F p) (r6 : ∀ i g, i < rows.length → H i = some g → F g) (r7 : ∀ k, F k → k < w.heap.size)
    (hn : n = (rows.drop 1).length) (q1 : Sl w5 46 1 a5 n c5 (vs.drop 1) G5) (q2 : Chg Nil w w5) (q3 : ∀ g, G5 = some g → w.heap.size ≤ g) :
    ∃ F', RingAt (w5.setCell ⟨p, 2, none⟩ (.slice a5 n c5)) F' p size next (rows.drop 1) ∧ Chg F w (w5.setCell ⟨p, 2, none⟩ (.slice a5 n c5)) ∧ Grew w.heap.size F F' := by
  subst hn
  have b5 := r1.chg q2 (fun h => h)
  have hK : Held w5 (fun i => H (i + 1)) (rows.drop 1) (vs.drop 1) := r3.drop1.chg q2 (fun _ _ _ _ h => h)
  have hset : Chg (One p) w5 (w5.setCell ⟨p, 2, none⟩ (.slice a5 (rows.drop 1).length c5)) := (Chg.refl (One p) w5).setCell (p := ⟨p, 2, none⟩) (.inl rfl) _
  have hz := hset.size
  have hz2 := q2.size
  refine ⟨fun k => F k ∨ G5 = some k, ⟨a5, c5, G5, _, _, ?_, q1.chg hset (fun g hg h => ?_), hK.chg hset (fun i g hi hg h => ?_), .inl r4, fun g hg => .inr hg, fun i g hi hg => .inl (r6 (i + 1) g (by simp at hi; omega) hg), fun k hk => ?_⟩, ?_, fun k hk => ?_⟩
  · have := b5.set 2 (.slice a5 (rows.drop 1).length c5)
    simpa using this
  · exact q1.ne_blk b5 (by decide) (by rw [show g = p from h] at hg; exact hg)
  · obtain ⟨_, a0, c0, _, h3⟩ := hK.2.1 i hi
    exact h3.ne_blk b5 (by decide) (by rw [show g = p from h] at hg; exact hg)
  · rcases hk with hk | hk
    · have := r7 k hk; omega
    · have := q1.lt k hk; omega
  · refine (((Chg.refl F w).trans q2 (fun _ _ h => h.elim)).trans hset (fun i _ h => ?_))
    rw [h]; exact r4
  · rcases hk with hk | hk
    · exact .inl hk
    · exact .inr (q3 k hk)
set_option maxHeartbeats 2000000 in
theorem put_room (w : World) (F : Nat → Prop) (p : Nat) (size next : Int) (rows : List (List Int)) (R : Nat → Prop) (b : Option Addr) (n d : Nat) (l : List Int) (h : RingAt w F p size next rows) (hb : Rd w R 1 b n d (ints .u8 l)) (hn : n ≤ 32) (hr : (rows.length : Int) < size) (hs : size ≤ 64) (h0 : 0 ≤ next) (h1 : next < 4294967296) :
    Calls Try.prog 21 #[.pointer (some ⟨p, 0, none⟩), .slice b n d] w fun e w' => ∃ F', e = .returned (.tuple #[.int .u32 next, .int .i64 0]) ∧ RingAt w' F' p size ((next + 1) % 4294967296) (rows ++ [l]) ∧ Chg F w w' ∧ Grew w.heap.size F F' := by
  obtain ⟨a, c, G, vs, H, r1, r2, r3, r4, r5, r6, r7⟩ := h
  have c0 := r1.cell 0
  have c1 := r1.cell 1
  have c2 := r1.cell 2
  have f1 := r1.frozen 1
  have f2 := r1.frozen 2
  simp only [List.getElem?_cons_succ, List.getElem?_cons_zero] at c0 c1 c2
  obtain rfl := hb.ilen
  have hr63 : rows.length + 1 ≤ 4294967296 := by omega
  have h24 : 24 ≤ 4096 := by omega
  have hn63 : l.length ≤ 4294967296 := by omega
  have HNE := hid (r2.ne_blk r1 (by decide))
  have HB := hid hb
  have R1 := hid r1
  have R2 := hid r2
  have R3 := hid r3
  clear hb r1 r2 r3
  go_enter Try.func21, Try.ntmps21
  go_wp2
  go_region_law (first | (refine step_append_sl rfl _ _ eRows8 rfl rfl rfl HS.out HN.out hone hr63 h24 ?_; intro a' c' w3 G' y1 y2 y3; have HB2 := (HB1.out.alloc (.cells #[.slice a1 l.length d1] 46)).chg y2 HNE.out; have e0 := HB2.cell 0; have e1 := HB2.cell 1; have e2 := HB2.cell 2; have g1 := HB2.frozen 1; have g2 := HB2.frozen 2; simp only [List.getElem?_cons_succ, List.getElem?_cons_zero] at e0 e1 e2; replace HB2 := hid HB2; replace y3 := hid y3) | (go_simp; go_at_call 20; refine (clone_u8 _ _ _ _ _ _ (HB.out.drewN 1) (ints_one _ _) hn63).mono ?_; rintro e w1 ⟨a1, d1, G1, rfl, q1, q2, q3⟩; have HB1 := hid (R1.out.drew.chg q2 (fun h => h)); have k2 : w1.cell? ⟨p, 2, none⟩ = some (.slice a rows.length c) := HB1.out.cell 2; have k3 : (w1.alloc (.cells #[.slice a1 l.length d1] 46)).cell? ⟨p, 2, none⟩ = some (.slice a rows.length c) := (HB1.out.alloc (.cells #[.slice a1 l.length d1] 46)).cell 2; have HS := hid (((R2.out.drewN 1).chg q2 (fun _ _ h => h)).alloc (.cells #[.slice a1 l.length d1] 46)); have HN := hid (Rd.of_blk (n := 1) (s := 1) (Blk.new w1 46 [.slice a1 l.length d1]) rfl (by decide)); have hone := slice_one a1 l.length d1; replace q3 := hid q3))
  all_goals
    obtain ⟨F', z1, z2, z3⟩ := put_fin (o := .cells #[.slice a1 l.length d1] 46) R1.out R2.out R3.out r4 r5 r6 r7 hn q1 (((Chg.refl Nil w).drew).trans q2 (fun _ _ h => h)) q3.out y1 y2 y3.out
    obtain ⟨m0, m1, n1, n2, _⟩ := z1.cells
    have m2 : (w3.setCell ⟨p, 2, none⟩ (.slice a' (rows.length + 1) c')).cell? ⟨p, 2, none⟩ = some (.slice a' (rows.length + 1) c') := (HB2.out.set 2 (.slice a' (rows.length + 1) c')).cell 2
    generalize w3.setCell ⟨p, 2, none⟩ (.slice a' (rows.length + 1) c') = w4 at *
    have z1' : RingAt w4.drew F' p size next (rows ++ [l]) := z1
    have z4 := hid (z1'.setNext ((next + 1) % 4294967296))
    have hnx : ((next + 1) % 4294967296 - 1) % 4294967296 = next := by omega
    replace hnx := hid hnx
    go_wp2
    go_region_held3 (fun w' => w'.cell? ⟨p, 2, none⟩ = some (.slice a' (rows.length + 1) c') ∧ w'.cell? ⟨p, 0, none⟩ = some (.int .i64 size)) (go_keep) (fail)
    go_wp2
    go_ret2
    exact ⟨F', by rw [hnx.out]; rfl, z4.out.1, put_chg z2.drew z4.out.2 z3, z3⟩
set_option maxHeartbeats 2000000 in
theorem put_full (w : World) (F : Nat → Prop) (p : Nat) (size next : Int) (rows : List (List Int)) (R : Nat → Prop) (b : Option Addr) (n d : Nat) (l : List Int) (h : RingAt w F p size next rows) (hb : Rd w R 1 b n d (ints .u8 l)) (hn : n ≤ 32) (hr : (rows.length : Int) = size) (hs1 : 1 ≤ size) (hs : size ≤ 64) (h0 : 0 ≤ next) (h1 : next < 4294967296) :
    Calls Try.prog 21 #[.pointer (some ⟨p, 0, none⟩), .slice b n d] w fun e w' => ∃ F', e = .returned (.tuple #[.int .u32 next, .int .i64 0]) ∧ RingAt w' F' p size ((next + 1) % 4294967296) ((rows ++ [l]).drop 1) ∧ Chg F w w' ∧ Grew w.heap.size F F' := by
  obtain ⟨a, c, G, vs, H, r1, r2, r3, r4, r5, r6, r7⟩ := h
  have c0 := r1.cell 0
  have c1 := r1.cell 1
  have c2 := r1.cell 2
  have f1 := r1.frozen 1
  have f2 := r1.frozen 2
  simp only [List.getElem?_cons_succ, List.getElem?_cons_zero] at c0 c1 c2
  obtain rfl := hb.ilen
  have hr63 : rows.length + 1 ≤ 4294967296 := by omega
  have h24 : 24 ≤ 4096 := by omega
  have hn63 : l.length ≤ 4294967296 := by omega
  have HNE := hid (r2.ne_blk r1 (by decide))
  have HB := hid hb
  have R1 := hid r1
  have R2 := hid r2
  have R3 := hid r3
  clear hb r1 r2 r3
  go_enter Try.func21, Try.ntmps21
  go_wp2
  go_region_law (first | (refine step_append_sl rfl _ _ eRows8 rfl rfl rfl HS.out HN.out hone hr63 h24 ?_; intro a' c' w3 G' y1 y2 y3; have HB2 := (HB1.out.alloc (.cells #[.slice a1 l.length d1] 46)).chg y2 HNE.out; have e0 := HB2.cell 0; have e1 := HB2.cell 1; have e2 := HB2.cell 2; have g1 := HB2.frozen 1; have g2 := HB2.frozen 2; simp only [List.getElem?_cons_succ, List.getElem?_cons_zero] at e0 e1 e2; replace HB2 := hid HB2; replace y3 := hid y3) | (go_simp; go_at_call 20; refine (clone_u8 _ _ _ _ _ _ (HB.out.drewN 1) (ints_one _ _) hn63).mono ?_; rintro e w1 ⟨a1, d1, G1, rfl, q1, q2, q3⟩; have HB1 := hid (R1.out.drew.chg q2 (fun h => h)); have k2 : w1.cell? ⟨p, 2, none⟩ = some (.slice a rows.length c) := HB1.out.cell 2; have k3 : (w1.alloc (.cells #[.slice a1 l.length d1] 46)).cell? ⟨p, 2, none⟩ = some (.slice a rows.length c) := (HB1.out.alloc (.cells #[.slice a1 l.length d1] 46)).cell 2; have HS := hid (((R2.out.drewN 1).chg q2 (fun _ _ h => h)).alloc (.cells #[.slice a1 l.length d1] 46)); have HN := hid (Rd.of_blk (n := 1) (s := 1) (Blk.new w1 46 [.slice a1 l.length d1]) rfl (by decide)); have hone := slice_one a1 l.length d1; replace q3 := hid q3))
  all_goals
    obtain ⟨F', z1, z2, z3⟩ := put_fin (o := .cells #[.slice a1 l.length d1] 46) R1.out R2.out R3.out r4 r5 r6 r7 hn q1 (((Chg.refl Nil w).drew).trans q2 (fun _ _ h => h)) q3.out y1 y2 y3.out
    obtain ⟨m0, m1, n1, n2, _⟩ := z1.cells
    have m2 : (w3.setCell ⟨p, 2, none⟩ (.slice a' (rows.length + 1) c')).cell? ⟨p, 2, none⟩ = some (.slice a' (rows.length + 1) c') := (HB2.out.set 2 (.slice a' (rows.length + 1) c')).cell 2
    generalize w3.setCell ⟨p, 2, none⟩ (.slice a' (rows.length + 1) c') = w4 at *
    obtain ⟨a2, c2, G2, vs2, H2, t1, t2, t3, t4, t5, t6, t7⟩ := z1
    have u2 : w4.cell? ⟨p, 2, none⟩ = some (.slice a2 (rows ++ [l]).length c2) := t1.cell 2
    rw [m2] at u2
    simp only [Option.some.injEq, Value.slice.injEq] at u2
    obtain ⟨rfl, hlen, rfl⟩ := u2
    have hc1 := t2.1
    have hc2 := t2.2.1
    unfold maxLen at hc2
    rw [← hlen] at hc1
    have hr1 : 1 ≤ rows.length := by omega
    obtain ⟨g, off, rfl, _⟩ := t2.rd.cellAt (by rw [← hlen]; omega)
    have hlen0 := hlen
    rw [← hlen] at t1 t2
    have HV : Rd w4.drew (Opt G2) 1 (some ⟨g, off + 1, none⟩) rows.length (c' - 1) (vs2.drop 1) := (t2.rd.from1 (by omega)).drewN 1
    replace HV := hid HV
    have HO := hid (fun u (hu : u ∈ vs2.drop 1) => t3.one u (List.mem_of_mem_drop hu))
    have hv63 : rows.length ≤ 4294967296 := by omega
    have T1 := hid t1
    rw [hlen0] at t1
    have T1' := hid t1
    have T3 := hid t3
    replace hlen0 := hid hlen0
    clear t1 t2 t3 hlen
    have hnx : ((next + 1) % 4294967296 - 1) % 4294967296 = next := by omega
    replace hnx := hid hnx
    go_wp2
    go_region_held3 (fun w' => w'.cell? ⟨p, 2, none⟩ = some (.slice (some ⟨g, off, none⟩) (rows.length + 1) c') ∧ w'.cell? ⟨p, 0, none⟩ = some (.int .i64 size)) (go_keep) (fail)
    go_wp2_with (go_at_call 31; refine (clone_rows8 _ _ _ _ _ _ HV.out HO.out hv63).mono ?_; rintro e w5 ⟨a5, c5, G5, rfl, x1, x2, x3⟩; have B5 := T1.out.drew.chg x2 (fun h => h); have o1 := B5.cell 1; have o2 := B5.frozen 1; have o3 := B5.frozen 2; have o4 := B5.cell 2; simp only [List.getElem?_cons_succ, List.getElem?_cons_zero] at o1 o4; replace x3 := hid x3; replace B5 := hid B5)
    go_ret2
    obtain ⟨F'', v1, v2, v3⟩ := drop_fin (w := w4.drew) (n := rows.length) T1'.out T3.out t4 t6 t7 (by simp) x1 x2 x3.out
    have v4 := v1.setNext ((next + 1) % 4294967296)
    have v5 := z3.trans v3 z2.size
    exact ⟨F'', by rw [hnx.out]; rfl, v4.1, put_chg (put_chg z2.drew v2 z3) v4.2 v5, v5⟩
end Go.Proofs.Ytbkcjfeahaphgaa
