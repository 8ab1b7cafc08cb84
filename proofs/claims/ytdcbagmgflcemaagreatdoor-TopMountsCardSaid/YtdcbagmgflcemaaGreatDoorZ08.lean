/- Contracts of package disk: New, Size, goes, Read. Conditions: a disk of 16 to 256 sectors, whose power does not go. -/
import Derived.Test.YtdcbagmgflcemaaGreatDoorZ04
import Derived.Test.YtdcbagmgflcemaaGreatDoorZ07
import Derived.RegionTactic
import Derived.BigRegion
import Derived.Deep.RegionLaw
import Derived.Deep.RegionHeld3
import Derived.Deep.QuietTactic
import Derived.BigQuiet
namespace Go.Proofs.YtdcbagmgflcemaaGreatDoor
open Go.ChangeShapes Go.WideShapes Go.ChangeAt Go.RowKit
set_option linter.unusedVariables false
/-- Bytes, as cells. -/
abbrev bys (zs : List Int) : List Value := ints .u8 zs
theorem eWr : ETy Tryz.prog 105 221 2 32 := ⟨Tryz.underlying105, info_of (z := .agg #[.int .i64 0, .slice none 0 0]) (by kernel_rfl) rfl, by decide⟩
theorem wr_one (i : Int) (v : Value) (h : v.oneCell' = true := by rfl) : ∀ u ∈ [Value.int .i64 i, v], u.oneCell' = true := by
  intro u hu
  simp only [List.mem_cons, List.not_mem_nil, or_false] at hu
  rcases hu with rfl | rfl
  · rfl
  · exact h
/-- A sector's bytes. -/
def secS (zs : List Int) (i : Nat) : List Int := (zs.drop (i * 64)).take 64
/-- A sector is put anew. -/
def putS (zs : List Int) (i : Nat) (d : List Int) : List Int := zs.take (i * 64) ++ d ++ zs.drop (i * 64 + 64)
theorem secS_len {zs : List Int} {n i : Nat} (h : zs.length = n * 64) (hi : i < n) : (secS zs i).length = 64 := by
  unfold secS
  rw [List.length_take, List.length_drop, h]
  omega
theorem secS_put {zs d : List Int} {n i j : Nat} (h : zs.length = n * 64) (hi : i < n) (hj : j < n) (hd : d.length = 64) : secS (putS zs i d) j = if j = i then d else secS zs j := by
  have ht : (zs.take (i * 64)).length = i * 64 := by rw [List.length_take, h]; omega
  apply List.ext_getElem?
  intro k
  unfold secS putS
  by_cases hk : k < 64
  · rw [List.getElem?_take, if_pos hk, List.getElem?_drop]
    by_cases hji : j = i
    · subst hji
      rw [if_pos rfl, List.append_assoc, List.getElem?_append_right (by omega), ht, List.getElem?_append_left (by omega), Nat.add_sub_cancel_left]
    · rw [if_neg hji, List.getElem?_take, if_pos hk, List.getElem?_drop]
      by_cases hlt : j < i
      · rw [List.append_assoc, List.getElem?_append_left (by omega), List.getElem?_take, if_pos (by omega)]
      · rw [List.append_assoc, List.getElem?_append_right (by omega), ht, List.getElem?_append_right (by omega), List.getElem?_drop]
        congr 1
        omega
  · rw [List.getElem?_take, if_neg hk]
    split
    · rw [List.getElem?_eq_none (by omega)]
    · rw [List.getElem?_take, if_neg hk]
/-- A part of a row of cells. -/
theorem Rd.sub {w : World} {R : Nat → Prop} {g off n c lo k : Nat} {xs : List Value} (h : Rd w R 1 (some ⟨g, off, none⟩) n c xs) (hk : lo + k ≤ n) : Rd w R 1 (some ⟨g, off + lo, none⟩) k (c - lo) ((xs.drop lo).take k) := by
  obtain ⟨h1, h2, h3, h4⟩ := h
  refine ⟨by omega, by omega, by rw [List.length_take, List.length_drop, h3]; omega, fun hn => ?_⟩
  obtain ⟨g', off', r1, r2, r3, r4⟩ := h4 (by omega)
  injection r1 with r1
  injection r1 with r1 r1'
  subst r1; subst r1'
  refine ⟨g, off + lo, rfl, r2, r3, fun j hj => ?_⟩
  rw [List.getElem?_take, if_pos (by omega), List.getElem?_drop, Nat.add_assoc]
  exact r4 (lo + j) (by omega)
/-- A part of a row is laid anew. -/
theorem Sl.over {w : World} {e : TypeId} {g off n c lo : Nat} {xs vs : List Value} (h : Sl w e 1 (some ⟨g, off, none⟩) n c xs (some g)) (h0 : 0 < n) (hlo : lo + vs.length ≤ n) :
    Sl (w.setCells g (off + lo) vs) e 1 (some ⟨g, off, none⟩) n c (xs.take lo ++ vs ++ xs.drop (lo + vs.length)) (some g) := by
  obtain ⟨h1, h2, h3, ⟨h4, _⟩ | ⟨g', off', cur, r1, r2, r3, r4, r5⟩⟩ := h
  · omega
  injection r1 with r1
  injection r1 with r1 r1'
  subst r1; subst r1'
  obtain ⟨cur1, c1, c2, c3, c4, c5⟩ := set_row3 w r3 vs (off + lo) (by omega)
  have htl : (xs.take lo).length = lo := by rw [List.length_take]; omega
  refine ⟨h1, h2, by simp only [List.length_append, htl, List.length_drop]; omega, .inr ⟨g, off, cur1, rfl, rfl, c1, by omega, fun j hj => ?_⟩⟩
  by_cases j1 : j < lo
  · rw [c3 _ (by omega), r5 j hj, List.append_assoc, List.getElem?_append_left (by omega), List.getElem?_take, if_pos j1]
  · by_cases j2 : j < lo + vs.length
    · have := c4 (j - lo) (by omega)
      rw [show off + lo + (j - lo) = off + j by omega] at this
      rw [this, List.getElem?_append_left (by simp only [List.length_append, htl]; omega), List.getElem?_append_right (by omega), htl]
    · rw [c5 _ (by omega), r5 j hj, List.getElem?_append_right (by simp only [List.length_append, htl]; omega), List.getElem?_drop]
      congr 1
      simp only [List.length_append, htl]
      omega
theorem Sl.row {w : World} {e : TypeId} {g off n c : Nat} {xs : List Value} {G : Option Nat} (h : Sl w e 1 (some ⟨g, off, none⟩) n c xs G) (h0 : 0 < n) : ∃ cur, w.heap[g]? = some (.cells cur e (0, 0)) ∧ off + c ≤ cur.size := by
  obtain ⟨h1, h2, h3, ⟨h4, _⟩ | ⟨g', off', cur, r1, r2, r3, r4, r5⟩⟩ := h
  · omega
  injection r1 with r1
  injection r1 with r1 r1'
  subst r1; subst r1'
  exact ⟨cur, r3, by omega⟩
/-- In block p lies a disk of n sectors; what it reads as; how many writes wait. -/
structure DkA (w : World) (F : Nat → Prop) (p n : Nat) (zs : List Int) (m : Nat) (sa na wa : Option Addr) (sc nc wc : Nat) (sG nG wG : Option Nat) (ss : List Int) (ys : List Value) : Prop where
  blk : Blk w p 107 [.slice sa (n * 64) sc, .slice na (n * 64) nc, .slice wa m wc, .int .i64 (-1)]
  ssl : Sl w 5 1 sa (n * 64) sc (bys ss) sG
  nsl : Sl w 5 1 na (n * 64) nc (bys zs) nG
  wsl : Sl w 221 2 wa m wc ys wG
  fp : F p
  fs : ∀ g, sG = some g → F g
  fn : ∀ g, nG = some g → F g
  fw : ∀ g, wG = some g → F g
  dj : ∀ g, sG = some g → nG ≠ some g
  n1 : 16 ≤ n
  n2 : n ≤ 256
  lt : ∀ k, F k → k < w.heap.size
def DkAt (w : World) (F : Nat → Prop) (p n : Nat) (zs : List Int) (m : Nat) : Prop := ∃ sa na wa sc nc wc sG nG wG ss ys, DkA w F p n zs m sa na wa sc nc wc sG nG wG ss ys
section
variable {w w' : World} {F H : Nat → Prop} {p n : Nat} {zs : List Int} {m : Nat} {sa na wa : Option Addr} {sc nc wc : Nat} {sG nG wG : Option Nat} {ss : List Int} {ys : List Value}
theorem DkA.chg (h : DkA w F p n zs m sa na wa sc nc wc sG nG wG ss ys) (hc : Chg H w w') (hd : Dj F H) : DkA w' F p n zs m sa na wa sc nc wc sG nG wG ss ys :=
  ⟨h.blk.chg hc (hd p h.fp), h.ssl.chg hc (fun g hg => hd g (h.fs g hg)), h.nsl.chg hc (fun g hg => hd g (h.fn g hg)), h.wsl.chg hc (fun g hg => hd g (h.fw g hg)), h.fp, h.fs, h.fn, h.fw, h.dj, h.n1, h.n2, fun k hk => Nat.lt_of_lt_of_le (h.lt k hk) hc.size⟩
theorem DkAt.chg (h : DkAt w F p n zs m) (hc : Chg H w w') (hd : Dj F H) : DkAt w' F p n zs m := by
  obtain ⟨sa, na, wa, sc, nc, wc, sG, nG, wG, ss, ys, h⟩ := h
  exact ⟨sa, na, wa, sc, nc, wc, sG, nG, wG, ss, ys, h.chg hc hd⟩
theorem DkAt.nil (h : DkAt w F p n zs m) (hc : Chg Nil w w') : DkAt w' F p n zs m := h.chg hc (fun _ _ h => h)
theorem DkAt.lt (h : DkAt w F p n zs m) : ∀ k, F k → k < w.heap.size := by
  obtain ⟨sa, na, wa, sc, nc, wc, sG, nG, wG, ss, ys, h⟩ := h
  exact h.lt
theorem DkA.len (h : DkA w F p n zs m sa na wa sc nc wc sG nG wG ss ys) : zs.length = n * 64 := h.nsl.rd.ilen
theorem DkAt.len (h : DkAt w F p n zs m) : zs.length = n * 64 := by
  obtain ⟨sa, na, wa, sc, nc, wc, sG, nG, wG, ss, ys, h⟩ := h
  exact h.len
theorem DkAt.bd (h : DkAt w F p n zs m) : 16 ≤ n ∧ n ≤ 256 := by
  obtain ⟨sa, na, wa, sc, nc, wc, sG, nG, wG, ss, ys, h⟩ := h
  exact ⟨h.n1, h.n2⟩
end
theorem sl_apart {w : World} {e e' : TypeId} {s s' n n' c c' : Nat} {a a' : Option Addr} {xs xs' : List Value} {G G' : Option Nat} (h : Sl w e s a n c xs G) (h' : Sl w e' s' a' n' c' xs' G') (hne : e ≠ e') : ∀ g, G = some g → G' ≠ some g := by
  obtain ⟨_, _, _, ⟨_, h4⟩ | ⟨g, off, cur, _, r2, r3, _⟩⟩ := h
  · intro g hg; rw [h4] at hg; cases hg
  · obtain ⟨_, _, _, ⟨_, k4⟩ | ⟨g', off', cur', _, r2', r3', _⟩⟩ := h'
    · intro g hg hh; rw [k4] at hh; cases hh
    · intro x hx hh
      rw [r2] at hx; rw [r2'] at hh
      injection hx with hx; injection hh with hh
      rw [hx] at r3; rw [hh] at r3'
      rw [r3] at r3'
      injection r3' with r3'
      injection r3' with _ r3' _
      exact hne r3'
/-- One more write waits. -/
theorem DkA.wait {w wA w2 : World} {F : Nat → Prop} {p n : Nat} {zs : List Int} {m : Nat} {sa na wa a2 : Option Addr} {sc nc wc c2 : Nat} {sG nG wG G2 : Option Nat} {ss : List Int} {ys us : List Value} (h : DkA w F p n zs m sa na wa sc nc wc sG nG wG ss ys)
    (hA : Chg Nil w wA) (q1 : Sl w2 221 2 a2 (m + 1) c2 us G2) (q2 : Chg (Opt wG) wA w2) (q3 : G2 = wG ∨ G2 = some wA.heap.size) :
    DkA (w2.setCell ⟨p, 2, none⟩ (.slice a2 (m + 1) c2)) (Or2 F (Opt G2)) p n zs (m + 1) sa na a2 sc nc c2 sG nG G2 ss us ∧ Chg F w (w2.setCell ⟨p, 2, none⟩ (.slice a2 (m + 1) c2)) ∧ Grew w.heap.size F (Or2 F (Opt G2)) := by
  have hnw := h.wsl.ne_blk h.blk (by decide)
  have hns := h.ssl.ne_blk h.blk (by decide)
  have hnn := h.nsl.ne_blk h.blk (by decide)
  have hs := sl_apart h.ssl h.wsl (by decide)
  have hn := sl_apart h.nsl h.wsl (by decide)
  have hc : Chg (Opt wG) w w2 := (hA.mono (G := Opt wG) (fun _ _ h => h.elim)).trans q2 (fun _ _ h => h)
  have hb := h.blk.chg hc hnw
  have hst : Chg (One p) w2 (w2.setCell ⟨p, 2, none⟩ (.slice a2 (m + 1) c2)) := (Chg.refl (One p) w2).setCell (p := ⟨p, 2, none⟩) (.inl (show One p p from rfl)) _
  refine ⟨⟨hb.set 2 _, (h.ssl.chg hc (fun g hg hh => hs g hg hh)).set_far (p := ⟨p, 2, none⟩) hns _, (h.nsl.chg hc (fun g hg hh => hn g hg hh)).set_far (p := ⟨p, 2, none⟩) hnn _, q1.set_far (p := ⟨p, 2, none⟩) (q1.ne_blk hb (by decide)) _, .inl h.fp, fun g hg => .inl (h.fs g hg), fun g hg => .inl (h.fn g hg), fun g hg => .inr hg, h.dj, h.n1, h.n2, ?_⟩, ?_, ?_⟩
  · rintro k (hk | hk)
    · have := h.lt k hk; have := hc.size; have := hst.size; omega
    · have := q1.lt k hk; have := hst.size; omega
  · exact (hc.mono (G := F) (fun k _ hk => h.fw k hk)).trans hst (fun k _ hk => by rw [show k = p from hk]; exact h.fp)
  · rintro k (hk | hk)
    · exact .inl hk
    · rcases q3 with q3 | q3
      · exact .inl (h.fw k (by rw [← q3]; exact hk))
      · have : some wA.heap.size = some k := by rw [← q3]; exact hk
        injection this with this
        exact .inr (by rw [← this]; exact hA.size)
/-- A sector is laid anew. -/
theorem DkA.over {w : World} {F : Nat → Prop} {p n : Nat} {zs : List Int} {m : Nat} {sa wa : Option Addr} {sc nc wc g off : Nat} {sG wG : Option Nat} {ss : List Int} {ys : List Value} (h : DkA w F p n zs m sa (some ⟨g, off, none⟩) wa sc nc wc sG (some g) wG ss ys) {i : Nat} (hi : i < n) {d : List Int} (hd : d.length = 64) :
    DkA (w.setCells g (off + i * 64) (bys d)) F p n (putS zs i d) m sa (some ⟨g, off, none⟩) wa sc nc wc sG (some g) wG ss ys ∧ Chg F w (w.setCells g (off + i * 64) (bys d)) := by
  have hdl : (bys d).length = 64 := by simp [ints, hd]
  have n1 := h.n1
  have hs := h.nsl.over (lo := i * 64) (vs := bys d) (by omega) (by omega)
  have hc := setCells_chg w g (off + i * 64) (bys d) (One g) rfl
  have e : (bys zs).take (i * 64) ++ bys d ++ (bys zs).drop (i * 64 + (bys d).length) = bys (putS zs i d) := by
    rw [hdl]
    unfold putS
    simp [ints, List.map_take, List.map_drop]
  rw [e] at hs
  have hp : p ≠ g := fun hh => h.nsl.ne_blk h.blk (by decide) (by rw [hh])
  have hw := sl_apart h.nsl h.wsl (by decide)
  refine ⟨⟨h.blk.chg hc (fun hh => hp hh), h.ssl.chg hc (fun g' hg' hh => h.dj g' hg' (by rw [show g' = g from hh])), hs, h.wsl.chg hc (fun g' hg' hh => hw g rfl (by rw [hg', show g' = g from hh])), h.fp, h.fs, h.fn, h.fw, h.dj, h.n1, h.n2, fun k hk => Nat.lt_of_lt_of_le (h.lt k hk) hc.size⟩, hc.mono (fun k _ hk => by rw [show k = g from hk]; exact h.fn g rfl)⟩
/-- Both rows of bytes, in either order, and the disk. -/
theorem dknew_fin (w : World) (n i j : Nat) (hij : (i = w.heap.size ∧ j = w.heap.size + 1) ∨ (i = w.heap.size + 1 ∧ j = w.heap.size)) (h1 : 16 ≤ n) (h2 : n ≤ 256) :
    ∃ F p, Ending.returned (.tuple #[.pointer (some ⟨w.heap.size + 1 + 1, 0, none⟩), .int .i64 0]) = .returned (.tuple #[.pointer (some ⟨p, 0, none⟩), .int .i64 0]) ∧
      DkAt (((w.drew.alloc (.cells (List.replicate (n * 64) (.int .u8 0)).toArray 5)).alloc (.cells (List.replicate (n * 64) (.int .u8 0)).toArray 5)).alloc (.cells #[.slice (some ⟨i, 0, none⟩) (n * 64) (n * 64), .slice (some ⟨j, 0, none⟩) (n * 64) (n * 64), .slice none 0 0, .int .i64 (-1)] 107)) F p n (List.replicate (n * 64) 0) 0 ∧
      Chg Nil w (((w.drew.alloc (.cells (List.replicate (n * 64) (.int .u8 0)).toArray 5)).alloc (.cells (List.replicate (n * 64) (.int .u8 0)).toArray 5)).alloc (.cells #[.slice (some ⟨i, 0, none⟩) (n * 64) (n * 64), .slice (some ⟨j, 0, none⟩) (n * 64) (n * 64), .slice none 0 0, .int .i64 (-1)] 107)) ∧ Grew w.heap.size Nil F := by
  obtain ⟨zc, hzc⟩ : ∃ zc, zc = List.replicate (n * 64) (Value.int .u8 0) := ⟨_, rfl⟩
  rw [← hzc]
  have hz : zc = bys (List.replicate (n * 64) 0) := by rw [hzc]; simp [ints]
  have hzl : zc.length = n * 64 * 1 := by rw [hzc]; simp
  clear hzc
  have s1 : (w.drew.alloc (.cells zc.toArray 5)).heap.size = w.heap.size + 1 := by simp
  have s2 : ((w.drew.alloc (.cells zc.toArray 5)).alloc (.cells zc.toArray 5)).heap.size = w.heap.size + 1 + 1 := by simp
  have B1 := ((Blk.new w.drew 5 zc).alloc (.cells zc.toArray 5))
  have B2 := (Blk.new (w.drew.alloc (.cells zc.toArray 5)) 5 zc)
  rw [s1] at B2
  have B3 := Blk.new ((w.drew.alloc (.cells zc.toArray 5)).alloc (.cells zc.toArray 5)) 107 [.slice (some ⟨i, 0, none⟩) (n * 64) (n * 64), .slice (some ⟨j, 0, none⟩) (n * 64) (n * 64), .slice none 0 0, .int .i64 (-1)]
  rw [s2] at B3
  have hm : n * 64 ≤ maxLen := by unfold maxLen; omega
  have S1 := (Sl.of_blk (n := n * 64) (s := 1) B1 hzl hm).alloc (.cells #[.slice (some ⟨i, 0, none⟩) (n * 64) (n * 64), .slice (some ⟨j, 0, none⟩) (n * 64) (n * 64), .slice none 0 0, .int .i64 (-1)] 107)
  have S2 := (Sl.of_blk (n := n * 64) (s := 1) B2 hzl hm).alloc (.cells #[.slice (some ⟨i, 0, none⟩) (n * 64) (n * 64), .slice (some ⟨j, 0, none⟩) (n * 64) (n * 64), .slice none 0 0, .int .i64 (-1)] 107)
  rw [hz] at S1 S2 B3
  rw [hz]
  have hF : ∀ k, Or2 (One (w.heap.size + 1 + 1)) (Or2 (One w.heap.size) (One (w.heap.size + 1))) k → w.heap.size ≤ k ∧ k ≤ w.heap.size + 1 + 1 := by
    rintro k (hk | hk | hk)
    · rw [show k = w.heap.size + 1 + 1 from hk]; omega
    · rw [show k = w.heap.size from hk]; omega
    · rw [show k = w.heap.size + 1 from hk]; omega
  refine ⟨Or2 (One (w.heap.size + 1 + 1)) (Or2 (One w.heap.size) (One (w.heap.size + 1))), w.heap.size + 1 + 1, rfl, ?_, (((((Chg.refl Nil w).drew).alloc _).alloc _).alloc _), fun k hk => .inr (hF k hk).1⟩
  have hlt : ∀ k, Or2 (One (w.heap.size + 1 + 1)) (Or2 (One w.heap.size) (One (w.heap.size + 1))) k → k < (((w.drew.alloc (.cells (bys (List.replicate (n * 64) 0)).toArray 5)).alloc (.cells (bys (List.replicate (n * 64) 0)).toArray 5)).alloc (.cells #[.slice (some ⟨i, 0, none⟩) (n * 64) (n * 64), .slice (some ⟨j, 0, none⟩) (n * 64) (n * 64), .slice none 0 0, .int .i64 (-1)] 107)).heap.size := fun k hk => by have := (hF k hk).2; simp; omega
  rcases hij with ⟨rfl, rfl⟩ | ⟨rfl, rfl⟩
  · exact ⟨_, _, none, _, _, 0, _, _, none, _, [], B3, S1, S2, Sl.empty _ _ _ _, .inl rfl, (fun g hg => by injection hg with hg; exact .inr (.inl hg.symm)), (fun g hg => by injection hg with hg; exact .inr (.inr hg.symm)), (fun g hg => by cases hg), (fun g hg hh => by injection hg with hg; injection hh with hh; have : w.drew.heap.size = w.heap.size := rfl; omega), h1, h2, hlt⟩
  · exact ⟨_, _, none, _, _, 0, _, _, none, _, [], B3, S2, S1, Sl.empty _ _ _ _, .inl rfl, (fun g hg => by injection hg with hg; exact .inr (.inr hg.symm)), (fun g hg => by injection hg with hg; exact .inr (.inl hg.symm)), (fun g hg => by cases hg), (fun g hg hh => by injection hg with hg; injection hh with hh; have : w.drew.heap.size = w.heap.size := rfl; omega), h1, h2, hlt⟩
set_option maxRecDepth 100000 in
theorem dknew_ok (w : World) (n : Nat) (h1 : 16 ≤ n) (h2 : n ≤ 256) :
    Calls Tryz.prog 22 #[.int .i64 (n : Int)] w fun e w' => ∃ F p, e = .returned (.tuple #[.pointer (some ⟨p, 0, none⟩), .int .i64 0]) ∧ DkAt w' F p n (List.replicate (n * 64) 0) 0 ∧ Chg Nil w w' ∧ Grew w.heap.size Nil F := by
  have e1 : (n : Int) * 64 = ((n * 64 : Nat) : Int) := by omega
  have hmk : ∀ w : World, (Instr.makeSlice 22 (.int .i64 ((n : Int) * 64)) (.int .i64 ((n : Int) * 64))).run Tryz.prog w = .ok (.slice (some ⟨w.heap.size, 0, none⟩) (n * 64) (n * 64)) (w.alloc (.cells (List.replicate (n * 64) (.int .u8 0)).toArray 5)) := fun w => by
    rw [e1]
    exact run_make1 (P := Tryz.prog) (t := 22) (e := 5) (z := .int .u8 0) (bytes := 1) Tryz.underlying22 (by kernel_rfl) rfl (by omega) (n * 64) (by omega) w
  clear e1
  have n1 : ¬ (n : Int) < 16 := by omega
  have n2 : ¬ (256 : Int) < (n : Int) := by omega
  go_enter Tryz.func22, Tryz.ntmps22
  go_wp2
  go_region
  all_goals
    go_wp2
    go_ret2
    first
      | exact dknew_fin w n _ _ (.inl ⟨rfl, rfl⟩) h1 h2
      | exact dknew_fin w n _ _ (.inr ⟨rfl, rfl⟩) h1 h2
theorem dksize_ok (w : World) (F : Nat → Prop) (p n : Nat) (zs : List Int) (m : Nat) (h : DkAt w F p n zs m) :
    Calls Tryz.prog 43 #[.pointer (some ⟨p, 0, none⟩)] w fun e w' => e = .returned (.int .i64 (n : Int)) ∧ w = w' := by
  obtain ⟨sa, na, wa, sc, nc, wc, sG, nG, wG, ss, ys, h⟩ := h
  have d1 := h.blk.cell 1
  simp only [List.getElem?_cons_succ, List.getElem?_cons_zero] at d1
  have n1 := h.n1
  have n2 := h.n2
  clear h
  go_enter Tryz.func43, Tryz.ntmps43
  go_wp2
  go_ret
  exact ⟨rfl, rfl⟩
theorem dkgoes_ok (w : World) (F : Nat → Prop) (p n : Nat) (zs : List Int) (m : Nat) (h : DkAt w F p n zs m) :
    Calls Tryz.prog 107 #[.pointer (some ⟨p, 0, none⟩)] w fun e w' => e = .returned (.bool true) ∧ w = w' := by
  obtain ⟨sa, na, wa, sc, nc, wc, sG, nG, wG, ss, ys, h⟩ := h
  have d1 := h.blk.cell 3
  simp only [List.getElem?_cons_succ, List.getElem?_cons_zero] at d1
  clear h
  go_enter Tryz.func107, Tryz.ntmps107
  go_wp2
  go_ret
  exact ⟨rfl, rfl⟩
set_option maxHeartbeats 1000000 in
theorem dkread_ok (w : World) (F : Nat → Prop) (p n : Nat) (zs : List Int) (m : Nat) (h : DkAt w F p n zs m) (i : Nat) (hi : i < n) :
    Calls Tryz.prog 50 #[.pointer (some ⟨p, 0, none⟩), .int .i64 (i : Int)] w fun e w' => ∃ a c G, e = .returned (.tuple #[.slice a 64 c, .int .i64 0]) ∧ Sl w' 5 1 a 64 c (bys (secS zs i)) G ∧ Chg Nil w w' ∧ ∀ g, G = some g → w.heap.size ≤ g := by
  have HS := hid (dksize_ok w F p n zs m h)
  obtain ⟨sa, na, wa, sc, nc, wc, sG, nG, wG, ss, ys, h⟩ := h
  have d1 := h.blk.cell 1
  simp only [List.getElem?_cons_succ, List.getElem?_cons_zero] at d1
  have n1 := h.n1
  have n2 := h.n2
  have HR := hid h.nsl.rd
  obtain ⟨g, off, rfl, rfl, _⟩ := h.nsl.block (by omega)
  have hc1 := h.nsl.1
  have hin : (i : Int) < (n : Int) := by omega
  clear h
  go_enter Tryz.func50, Tryz.ntmps50
  go_wp2_with (go_at_call 43; refine HS.out.mono ?_; rintro e w' ⟨rfl, rfl⟩)
  obtain ⟨q, hq⟩ : ∃ q, q = (i + 1) * 64 - i * 64 := ⟨_, rfl⟩
  rw [← hq]
  have hq64 : q = 64 := by omega
  have HC := clone_u8 _ _ _ _ _ w (HR.out.sub (lo := i * 64) (k := q) (by omega)) (fun u hu => ints_one _ _ u (List.mem_of_mem_drop (List.mem_of_mem_take hu))) (by omega)
  refine HC.mono ?_
  rintro e w1 ⟨a, c, G, rfl, k1, k2, k3⟩
  replace k3 := hid k3
  have hx : (List.take q (List.drop (i * 64) (bys zs))) = bys (secS zs i) := by rw [hq64]; unfold secS; simp [ints]
  rw [hx, hq64] at k1
  replace k1 := hid k1
  clear hx HC
  replace hq := hid hq
  replace hq64 := hid hq64
  go_wp2
  go_ret2
  exact ⟨a, c, G, by rw [hq64.out]; rfl, k1.out, k2, k3.out⟩
set_option maxRecDepth 100000 in
set_option maxHeartbeats 2000000 in
theorem dkwrite_ok (w : World) (F : Nat → Prop) (p n : Nat) (zs : List Int) (m : Nat) (h : DkAt w F p n zs m) (hm : m ≤ 1000000) (i : Nat) (hi : i < n) (R : Nat → Prop) (b : Option Addr) (bc : Nat) (d : List Int) (hd : Rd w R 1 b 64 bc (bys d)) (hR : ∀ g, R g → ¬ F g) :
    Calls Tryz.prog 44 #[.pointer (some ⟨p, 0, none⟩), .int .i64 (i : Int), .slice b 64 bc] w fun e w' => e = .returned (.int .i64 0) ∧ ∃ F', DkAt w' F' p n (putS zs i d) (m + 1) ∧ Chg F w w' ∧ Grew w.heap.size F F' := by
  have HS := hid (dksize_ok w F p n zs m h)
  have HG := hid (dkgoes_ok w F p n zs m h)
  have hzl := h.len
  obtain ⟨sa, na, wa, sc, nc, wc, sG, nG, wG, ss, ys, h⟩ := h
  have d1 := h.blk.cell 1
  have d2 := h.blk.cell 2
  have f2 := h.blk.frozen 2
  simp only [List.getElem?_cons_succ, List.getElem?_cons_zero] at d1 d2
  have n1 := h.n1
  have n2 := h.n2
  obtain ⟨g, off, rfl, rfl, _⟩ := h.nsl.block (by omega)
  have hin : (i : Int) < (n : Int) := by omega
  have H := hid h
  have HD := hid hd
  clear h hd
  go_enter Tryz.func44, Tryz.ntmps44
  go_wp2_with (first | (go_at_call 43; refine HS.out.mono ?_; rintro e w' ⟨rfl, rfl⟩) | (go_at_call 107; refine HG.out.mono ?_; rintro e w' ⟨rfl, rfl⟩))
  have S0 : Hid (Sl w 221 2 wa m wc ys wG) := hid H.out.wsl
  have hnw := hid (H.out.wsl.ne_blk H.out.blk (by decide))
  have hplt := H.out.lt p H.out.fp
  have h1 : m + 1 ≤ 4294967296 := by omega
  have h32 : 32 ≤ 4096 := by omega
  go_region_law
    (first | (go_simp; go_at_call 108; refine (clone_u8 _ _ _ _ _ w.drew (HD.out.drewN 1) (ints_one _ _) (by decide)).mono ?_; rintro e w1 ⟨a1, c1, G1, rfl, k1, k2, k3⟩; have k4 : w1.cell? ⟨p, 2, none⟩ = some (.slice wa m wc) := (k2.cell (a := ⟨p, 2, none⟩) hplt (fun h => h)).trans d2; have k5 : (w1.alloc (.cells #[.int .i64 (i : Int), .slice a1 64 c1] 221)).cell? ⟨p, 2, none⟩ = some (.slice wa m wc) := (((Chg.refl Nil w1).alloc (.cells #[.int .i64 (i : Int), .slice a1 64 c1] 221)).cell (a := ⟨p, 2, none⟩) (Nat.lt_of_lt_of_le hplt k2.size) (fun h => h)).trans k4; have S1 := hid ((S0.out.chg (w' := w1) ((Chg.refl Nil w).drew.trans k2 (fun _ _ h => h)) (fun _ _ h => h)).alloc (.cells #[.int .i64 (i : Int), .slice a1 64 c1] 221)); have N1 := hid (Rd.of_blk (n := 1) (s := 2) (Blk.new w1 221 [.int .i64 (i : Int), .slice a1 64 c1]) rfl (by decide)); have O1 : Hid (∀ u ∈ [Value.int .i64 (i : Int), .slice a1 64 c1], u.oneCell' = true) := hid (wr_one _ _); have CW := hid (((Chg.refl Nil w).drew.trans k2 (fun _ _ h => h)).alloc (.cells #[.int .i64 (i : Int), .slice a1 64 c1] 221)); replace k1 := hid k1; replace k2 := hid k2; replace k3 := hid k3) | (refine step_append_sl rfl _ _ eWr rfl rfl rfl S1.out N1.out O1.out h1 h32 ?_; intro a2 c2 w2 G2 q1 q2 q3; have k6 : w2.cell? ⟨p, 2, none⟩ = some (.slice wa m wc) := (q2.cell (a := ⟨p, 2, none⟩) (Nat.lt_of_lt_of_le hplt CW.out.size) (fun h => hnw.out h)).trans k5; have g6 : w2.frozen? ⟨p, 2, none⟩ = false := (((H.out.blk.chg CW.out (fun h => h)).chg q2 (fun h => hnw.out h))).frozen 2; replace q1 := hid q1; replace q2 := hid q2; replace q3 := hid q3))
  all_goals
    obtain ⟨M1, M2, M3⟩ := H.out.wait CW.out q1.out q2.out q3.out
    have hdl : d.length = 64 := HD.out.ilen
    have HW := HD.out.chg M2 (fun k _ hk => hR k hk)
    obtain ⟨cur, hcur, hcs⟩ := M1.nsl.row (by omega)
    have hncc := M1.nsl.1
    obtain ⟨O1', O2'⟩ := M1.over hi hdl
    obtain ⟨W, hW⟩ : ∃ W, W = w2.setCell ⟨p, 2, none⟩ (.slice a2 (m + 1) c2) := ⟨_, rfl⟩
    have dW : W.cell? ⟨p, 1, none⟩ = some (.slice (some ⟨g, off, none⟩) (n * 64) nc) := by rw [hW]; exact M1.blk.cell 1
    have hcp : ∀ ty, (Builtin.copy_ #[22, 22] ty #[.slice (some ⟨g, off + i * 64, none⟩) (n * 64 - i * 64) (nc - i * 64), .slice b 64 bc]).run Tryz.prog W = .ok (goInt 64) (W.setCells g (off + i * 64) (bys d)) := fun ty => by
      rw [hW]
      exact copy_sl _ _ _ ty eU8 hcur (n * 64 - i * 64) (nc - i * 64) HW (by omega) (by omega) (by omega) (ints_one _ _)
    rw [← hW] at O1' O2' M2 ⊢
    have FIN : Hid (DkAt (W.setCells g (off + i * 64) (bys d)) (Or2 F (Opt G2)) p n (putS zs i d) (m + 1)) := hid ⟨_, _, _, _, _, _, _, _, _, _, _, O1'⟩
    have FC : Hid (Chg F w (W.setCells g (off + i * 64) (bys d))) := hid (M2.trans (setCells_chg W g (off + i * 64) (bys d) (One g) rfl) (fun k _ hk => by rw [show k = g from hk]; exact H.out.fn g rfl))
    have FG := hid M3
    replace hW := hid hW
    clear M1 M2 M3 O1' O2' HW hcur k4 k5 k6 g6 d1 d2 f2
    go_wp2
    go_ret
    exact ⟨rfl, _, FIN.out, FC.out, FG.out⟩
/-- All that waits lasts now. -/
theorem DkA.flush {w : World} {F : Nat → Prop} {p n : Nat} {zs : List Int} {m : Nat} {na wa : Option Addr} {sc nc wc g off : Nat} {nG wG : Option Nat} {ss : List Int} {ys : List Value} (h : DkA w F p n zs m (some ⟨g, off, none⟩) na wa sc nc wc (some g) nG wG ss ys) :
    DkAt ((w.setCells g off (bys zs)).setCell ⟨p, 2, none⟩ (.slice none 0 0)) F p n zs 0 ∧ Chg F w ((w.setCells g off (bys zs)).setCell ⟨p, 2, none⟩ (.slice none 0 0)) := by
  have n1 := h.n1
  have hzl := h.len
  have hsl := h.ssl.len
  have hdl : (bys zs).length = n * 64 := by simp [ints, hzl]
  have hs := h.ssl.over (lo := 0) (vs := bys zs) (by omega) (by omega)
  have hc := setCells_chg w g off (bys zs) (One g) rfl
  rw [Nat.add_zero, List.take_zero, List.nil_append, List.drop_eq_nil_of_le (by omega), List.append_nil] at hs
  have hp : p ≠ g := fun hh => h.ssl.ne_blk h.blk (by decide) (by rw [hh])
  have hb := h.blk.chg hc (fun hh => hp hh)
  have hn1 := h.nsl.chg hc (fun g' hg' hh => h.dj g rfl (by rw [hg', show g' = g from hh]))
  have hst : Chg (One p) (w.setCells g off (bys zs)) ((w.setCells g off (bys zs)).setCell ⟨p, 2, none⟩ (.slice none 0 0)) := (Chg.refl (One p) _).setCell (p := ⟨p, 2, none⟩) (.inl (show One p p from rfl)) _
  refine ⟨⟨_, _, none, _, _, 0, _, _, none, _, [], hb.set 2 _, hs.set_far (p := ⟨p, 2, none⟩) (h.ssl.ne_blk h.blk (by decide)) _, hn1.set_far (p := ⟨p, 2, none⟩) (h.nsl.ne_blk h.blk (by decide)) _, Sl.empty _ _ _ _, h.fp, h.fs, h.fn, (fun g hg => by cases hg), h.dj, h.n1, h.n2, fun k hk => Nat.lt_of_lt_of_le (h.lt k hk) (Nat.le_trans hc.size hst.size)⟩, (hc.mono (fun k _ hk => by rw [show k = g from hk]; exact h.fs g rfl)).trans hst (fun k _ hk => by rw [show k = p from hk]; exact h.fp)⟩
set_option maxRecDepth 100000 in
set_option maxHeartbeats 2000000 in
theorem dkflush_ok (w : World) (F : Nat → Prop) (p n : Nat) (zs : List Int) (m : Nat) (h : DkAt w F p n zs m) :
    Calls Tryz.prog 49 #[.pointer (some ⟨p, 0, none⟩)] w fun e w' => e = .returned (.tuple #[]) ∧ DkAt w' F p n zs 0 ∧ Chg F w w' := by
  have HG := hid (dkgoes_ok w F p n zs m h)
  have hzl := h.len
  obtain ⟨sa, na, wa, sc, nc, wc, sG, nG, wG, ss, ys, h⟩ := h
  have d0 := h.blk.cell 0
  have d1 := h.blk.cell 1
  simp only [List.getElem?_cons_succ, List.getElem?_cons_zero] at d0 d1
  have n1 := h.n1
  have n2 := h.n2
  obtain ⟨g, off, rfl, rfl, _⟩ := h.ssl.block (by omega)
  obtain ⟨cur, hcur, hcs⟩ := h.ssl.row (by omega)
  have hncc := h.ssl.1
  have hcp : ∀ ty, (Builtin.copy_ #[22, 22] ty #[.slice (some ⟨g, off, none⟩) (n * 64) sc, .slice na (n * 64) nc]).run Tryz.prog w.drew = .ok (goInt (n * 64)) (w.drew.setCells g off (bys zs)) := fun ty =>
    copy_sl _ _ _ ty eU8 (show w.drew.heap[g]? = _ from hcur) (n * 64) sc (h.nsl.rd.drewN 1) (by omega) (Nat.le_refl _) (by omega) (ints_one _ _)
  obtain ⟨F1, F2⟩ := (show DkA w.drew F p n zs m (some ⟨g, off, none⟩) na wa sc nc wc (some g) nG wG ss ys from h.chg (H := Nil) ((Chg.refl Nil w).drew) (fun _ _ h => h)).flush
  have hp : p ≠ g := fun hh => h.ssl.ne_blk h.blk (by decide) (by rw [hh])
  have hb2 := h.blk.chg (((Chg.refl (One g) w).drew).trans (setCells_chg w.drew g off (bys zs) (One g) rfl) (fun _ _ h => h)) (fun hh => hp hh)
  have d2 := hb2.cell 2
  have f2 := hb2.frozen 2
  simp only [List.getElem?_cons_succ, List.getElem?_cons_zero] at d2
  have FIN := hid F1
  have FC := hid (((Chg.refl F w).drew).trans F2 (fun _ _ h => h))
  clear F1 F2 h hcur hb2 hp
  go_enter Tryz.func49, Tryz.ntmps49
  go_wp2_with (go_at_call 107; refine HG.out.mono ?_; rintro e w' ⟨rfl, rfl⟩)
  go_region_law (fail)
  all_goals
    go_wp2
    go_end0
    exact ⟨rfl, FIN.out, FC.out⟩
end Go.Proofs.YtdcbagmgflcemaaGreatDoor
