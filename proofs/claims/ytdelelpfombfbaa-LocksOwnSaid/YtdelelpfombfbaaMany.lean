/- The lock that many may hold who read, in memory; NewMany and has. Conditions: at most 1000 hold it or wait. -/
import Derived.Test.YtdelelpfombfbaaManyP
import Derived.RegionTactic
import Derived.BigRegion
import Derived.Deep.RegionLaw
import Derived.Deep.RegionHeld3
import Derived.Deep.CutBlock
namespace Go.Proofs.Ytdelelpfombfbaa
open Go.ChangeShapes Go.WideShapes Go.ChangeAt Go.RowKit
set_option linter.unusedVariables false
def wnCells (x : WN) : List Value := [.int .i64 x.t, .bool x.w]
theorem wn_len (x : WN) : (wnCells x).length = 2 := rfl
theorem wn_one (x : WN) : ∀ v ∈ wnCells x, v.oneCell' = true := by
  intro v hv
  simp only [wnCells, List.mem_cons, List.not_mem_nil, or_false] at hv
  rcases hv with rfl | rfl <;> rfl
theorem wns_one (l : List WN) : ∀ v ∈ l.flatMap wnCells, v.oneCell' = true := flat_one _ wn_one l
theorem eWant : ETy Try.prog 80 98 2 16 := ⟨Try.underlying80, info_of (z := .agg #[.int .i64 0, .bool false]) (by kernel_rfl) rfl, by decide⟩
/-- In block p lies a lock. -/
structure MA (w : World) (F : Nat → Prop) (p : Nat) (s : MS) (a : Option Addr) (c : Nat) (G : Option Nat) (b : Option Addr) (d : Nat) (H : Option Nat) : Prop where
  blk : Blk w p 82 [.slice a s.rd.length c, .int .i64 s.wr, .slice b s.row.length d]
  rd : Sl w 3 1 a s.rd.length c (ints .i64 s.rd) G
  row : Sl w 98 2 b s.row.length d (s.row.flatMap wnCells) H
  fp : F p
  fg : ∀ g, G = some g → F g
  fh : ∀ g, H = some g → F g
  ne : ∀ g, G = some g → H ≠ some g
  lt : ∀ k, F k → k < w.heap.size
def MnAt (w : World) (F : Nat → Prop) (p : Nat) (s : MS) : Prop := ∃ a c G b d H, MA w F p s a c G b d H
section
variable {w w' : World} {F K : Nat → Prop} {p : Nat} {s : MS} {a : Option Addr} {c : Nat} {G : Option Nat} {b : Option Addr} {d : Nat} {H : Option Nat}
theorem MA.chg (h : MA w F p s a c G b d H) (hc : Chg K w w') (hd : Dj F K) : MA w' F p s a c G b d H :=
  ⟨h.blk.chg hc (hd p h.fp), h.rd.chg hc (fun g hg => hd g (h.fg g hg)), h.row.chg hc (fun g hg => hd g (h.fh g hg)), h.fp, h.fg, h.fh, h.ne, fun k hk => Nat.lt_of_lt_of_le (h.lt k hk) hc.size⟩
theorem MA.nil (h : MA w F p s a c G b d H) (hc : Chg Nil w w') : MA w' F p s a c G b d H := h.chg hc (fun _ _ h => h)
theorem MnAt.chg (h : MnAt w F p s) (hc : Chg K w w') (hd : Dj F K) : MnAt w' F p s := by
  obtain ⟨a, c, G, b, d, H, h⟩ := h
  exact ⟨a, c, G, b, d, H, h.chg hc hd⟩
theorem MA.c0 (h : MA w F p s a c G b d H) : w.cell? ⟨p, 0, none⟩ = some (.slice a s.rd.length c) := h.blk.cell 0
theorem MA.c1 (h : MA w F p s a c G b d H) : w.cell? ⟨p, 1, none⟩ = some (.int .i64 s.wr) := h.blk.cell 1
theorem MA.c2 (h : MA w F p s a c G b d H) : w.cell? ⟨p, 2, none⟩ = some (.slice b s.row.length d) := h.blk.cell 2
theorem MA.ng (h : MA w F p s a c G b d H) : G ≠ some p := h.rd.ne_blk h.blk (by decide)
theorem MA.nh (h : MA w F p s a c G b d H) : H ≠ some p := h.row.ne_blk h.blk (by decide)
theorem MnAt.lt (h : MnAt w F p s) : ∀ k, F k → k < w.heap.size := by
  obtain ⟨a, c, G, b, d, H, h⟩ := h
  exact h.lt
/-- Somebody else writes. -/
theorem MA.setW (h : MA w F p s a c G b d H) (v : Int) : MA (w.setCell ⟨p, 1, none⟩ (.int .i64 v)) F p { s with wr := v } a c G b d H :=
  ⟨h.blk.set 1 _, h.rd.set_far (p := ⟨p, 1, none⟩) h.ng _, h.row.set_far (p := ⟨p, 1, none⟩) h.nh _, h.fp, h.fg, h.fh, h.ne, fun k hk => by have := h.lt k hk; simpa using this⟩
/-- Another row of readers is laid. -/
theorem MA.setR {w1 : World} {rd' : List Int} {a' : Option Addr} {c' : Nat} {G' : Option Nat} (h : MA w F p s a c G b d H) (hc : Chg (Opt G) w w1) (hs : Sl w1 3 1 a' rd'.length c' (ints .i64 rd') G') (hG : ∀ g, G' = some g → G = some g ∨ w.heap.size ≤ g) :
    MA (w1.setCell ⟨p, 0, none⟩ (.slice a' rd'.length c')) (Or2 F (Opt G')) p { s with rd := rd' } a' c' G' b d H ∧ Chg F w (w1.setCell ⟨p, 0, none⟩ (.slice a' rd'.length c')) ∧ Grew w.heap.size F (Or2 F (Opt G')) := by
  have hb := h.blk.chg hc h.ng
  have hr := h.row.chg hc (fun g hg hx => h.ne g hx hg)
  have n1 := hs.ne_blk hb (by decide)
  refine ⟨⟨hb.set 0 _, hs.set_far (p := ⟨p, 0, none⟩) n1 _, hr.set_far (p := ⟨p, 0, none⟩) h.nh _, .inl h.fp, fun g hg => .inr hg, fun g hg => .inl (h.fh g hg), fun g hg hx => ?_, ?_⟩, (hc.mono (fun i _ hi => h.fg i hi)).setCell (p := ⟨p, 0, none⟩) (.inl h.fp) _, ?_⟩
  · rcases hG g hg with hh | hh
    · exact h.ne g hh hx
    · have := h.lt g (h.fh g hx); omega
  · rintro k (hF | hk)
    · have h1 := h.lt k hF; have h2 := hc.size; simp; omega
    · have := hs.lt k hk; simpa using this
  · rintro k (hF | hk)
    · exact .inl hF
    · rcases hG k hk with hh | hh
      · exact .inl (h.fg k hh)
      · exact .inr hh
/-- Another row of who waits is laid. -/
theorem MA.setQ {w1 : World} {row' : List WN} {b' : Option Addr} {d' : Nat} {H' : Option Nat} (h : MA w F p s a c G b d H) (hc : Chg (Opt H) w w1) (hs : Sl w1 98 2 b' row'.length d' (row'.flatMap wnCells) H') (hG : ∀ g, H' = some g → H = some g ∨ w.heap.size ≤ g) :
    MA (w1.setCell ⟨p, 2, none⟩ (.slice b' row'.length d')) (Or2 F (Opt H')) p { s with row := row' } a c G b' d' H' ∧ Chg F w (w1.setCell ⟨p, 2, none⟩ (.slice b' row'.length d')) ∧ Grew w.heap.size F (Or2 F (Opt H')) := by
  have hb := h.blk.chg hc h.nh
  have hr := h.rd.chg hc (fun g hg hx => h.ne g hg hx)
  have n1 := hs.ne_blk hb (by decide)
  refine ⟨⟨hb.set 2 _, hr.set_far (p := ⟨p, 2, none⟩) h.ng _, hs.set_far (p := ⟨p, 2, none⟩) n1 _, .inl h.fp, fun g hg => .inl (h.fg g hg), fun g hg => .inr hg, fun g hg hx => ?_, ?_⟩, (hc.mono (fun i _ hi => h.fh i hi)).setCell (p := ⟨p, 2, none⟩) (.inl h.fp) _, ?_⟩
  · rcases hG g hx with hh | hh
    · exact h.ne g hg hh
    · have := h.lt g (h.fg g hg); omega
  · rintro k (hF | hk)
    · have h1 := h.lt k hF; have h2 := hc.size; simp; omega
    · have := hs.lt k hk; simpa using this
  · rintro k (hF | hk)
    · exact .inl hF
    · rcases hG k hk with hh | hh
      · exact .inl (h.fh k hh)
      · exact .inr hh
end
theorem mnew_ok (w : World) : Calls Try.prog 13 #[] w fun e w' => ∃ F p, e = .returned (.pointer (some ⟨p, 0, none⟩)) ∧ MnAt w' F p ⟨[], 0, []⟩ ∧ Chg Nil w w' ∧ Grew w.heap.size Nil F := by
  go_enter Try.func13, Try.ntmps13
  go_wp2
  go_ret
  refine ⟨One w.heap.size, w.heap.size, rfl, ⟨none, 0, none, none, 0, none, ⟨?_, Sl.empty _ _ _ _, Sl.empty _ _ _ _, rfl, (fun g h => by cases h), (fun g h => by cases h), (fun g h => by cases h), ?_⟩⟩, (Chg.refl _ _).alloc _, ?_⟩
  · exact Blk.new w 82 [.slice none 0 0, .int .i64 0, .slice none 0 0]
  · intro k hk
    rw [show k = w.heap.size from hk]; simp
  · intro k hk
    exact .inr (Nat.le_of_eq (show k = w.heap.size from hk).symm)
theorem mhas1_any (x : WN) (q : Nat) (t : Int) (w : World) (hq : w.cell? ⟨q, 0, none⟩ = some (.int .i64 t)) :
    Calls Try.prog 60 #[.agg #[.int .i64 x.t, .bool x.w], .pointer (some ⟨q, 0, none⟩)] w fun e w' => e = .returned (.bool (x.t == t)) ∧ Chg Nil w w' := by
  have hlt := (lt_of_cell hq).1
  go_enter Try.func60, Try.ntmps60
  go_wp2
  go_ret
  exact ⟨rfl, (Chg.refl _ _).alloc _⟩
theorem indexN_any (R : Nat → Prop) (a : Option Addr) (n c q : Nat) (l : List WN) (t : Int) (w : World) (h : Rd w R 2 a n c (l.flatMap wnCells)) (hn : n = l.length) (hl : n < 4294967296) (hq : w.cell? ⟨q, 0, none⟩ = some (.int .i64 t)) :
    Calls Try.prog 71 #[.slice a n c, .func (.func 60) #[] #[.pointer (some ⟨q, 0, none⟩)]] w fun e w' => ∃ k : Int, e = .returned (.int .i64 k) ∧ (decide (0 ≤ k) = anyN l t) ∧ k ≤ 4294967296 ∧ Chg Nil w w' := by
  subst hn
  have H := hid h
  clear h
  go_enter Try.func71, Try.ntmps71
  go_wp2
  go_loopw [8] (fun i wr => ∃ k : Nat, k ≤ l.length ∧ i = .int .i64 k ∧ Hid (Chg Nil w wr) ∧ Hid (∀ j (hj : j < l.length), j < k → l[j].t ≠ t)) (fun i _ => l.length - (intOf i).toNat)
  case atStart => exact ⟨0, Nat.zero_le _, rfl, Chg.refl _ _, fun _ _ h => absurd h (by omega)⟩
  case round =>
    obtain ⟨k, hk, rfl, hw, hr⟩ := hrel
    by_cases hlt : k < l.length
    · obtain ⟨g, off, rfl, hg1, hg2, hc⟩ := (H.out.chg hw.out (fun _ _ _ h => h)).elem wn_len rfl (by omega)
      have e0 := hc k hlt 0 (by omega)
      have e1 := hc k hlt 1 (by omega)
      clear hc
      simp only [wnCells, List.getElem?_cons_succ, List.getElem?_cons_zero, Nat.add_zero] at e0 e1
      have hq' : wr.cell? ⟨q, 0, none⟩ = some (.int .i64 t) := (hw.out.cell (a := ⟨q, 0, none⟩) (lt_of_cell hq).1 (fun h => h)).trans hq
      by_cases he : l[k].t = t
      · have hb : (l[k].t == t) = true := by rw [beq_iff_eq]; exact he
        have HE := hid he
        clear he
        go_wp2_with (go_at_call 60; refine (mhas1_any l[k] q t _ hq').mono ?_; rw [hb]; rintro e w1 ⟨rfl, q1⟩)
        go_ret
        have hin : anyN l t = true := by
          unfold anyN
          rw [List.any_eq_true]
          exact ⟨l[k], List.getElem_mem hlt, by rw [beq_iff_eq]; exact HE.out⟩
        exact ⟨k, rfl, by rw [hin]; simp, by omega, hw.out.trans q1 (fun _ _ h => h)⟩
      · have hb : (l[k].t == t) = false := by rw [beq_eq_false_iff_ne]; exact he
        have HE := hid he
        clear he
        go_wp2_with (go_at_call 60; refine (mhas1_any l[k] q t _ hq').mono ?_; rw [hb]; rintro e w1 ⟨rfl, q1⟩)
        go_roundw
        case rel =>
          refine ⟨k + 1, by omega, by go_num, hw.out.trans q1 (fun _ _ h => h), fun j hj hjk => ?_⟩
          by_cases hjk' : j = k
          · subst hjk'; exact HE.out
          · exact hr.out j hj (by omega)
        case measure => simp [intOf]; omega
    · go_wp2
      go_ret
      refine ⟨-1, rfl, ?_, by omega, hw.out⟩
      have hin : anyN l t = false := by
        unfold anyN
        rw [List.any_eq_false]
        intro x hx he
        obtain ⟨j, hj, rfl⟩ := List.mem_iff_getElem.1 hx
        exact hr.out j hj (by omega) (by simpa using he)
      rw [hin]; simp
end Go.Proofs.Ytdelelpfombfbaa
