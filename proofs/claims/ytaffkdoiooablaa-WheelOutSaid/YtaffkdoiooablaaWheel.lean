/- Contracts of package wheel: New, find, Next. Conditions: at most 1000 timers. -/
import Derived.Test.YtaffkdoiooablaaIns
import Derived.Deep.QuietTactic
import Derived.BigQuiet
namespace Go.Proofs.Ytaffkdoiooablaa
open Go.ChangeShapes Go.WideShapes Go.ChangeAt Go.RowKit
set_option linter.unusedVariables false
/-- In block p lies a wheel: how late it is, and its timers. -/
structure WA (w : World) (F : Nat → Prop) (p : Nat) (now : Int) (l : List Tm) (a : Option Addr) (c : Nat) (G : Option Nat) : Prop where
  blk : Blk w p 83 [.int .u32 now, .slice a l.length c]
  sl : Sl w 85 2 a l.length c (l.flatMap tm) G
  fp : F p
  fg : ∀ g, G = some g → F g
  lt : ∀ k, F k → k < w.heap.size
def WhAt (w : World) (F : Nat → Prop) (p : Nat) (now : Int) (l : List Tm) : Prop := ∃ a c G, WA w F p now l a c G
section
variable {w w' : World} {F H : Nat → Prop} {p : Nat} {now : Int} {l : List Tm} {a : Option Addr} {c : Nat} {G : Option Nat}
theorem WA.chg (h : WA w F p now l a c G) (hc : Chg H w w') (hd : Dj F H) : WA w' F p now l a c G :=
  ⟨h.blk.chg hc (hd p h.fp), h.sl.chg hc (fun g hg => hd g (h.fg g hg)), h.fp, h.fg, fun k hk => Nat.lt_of_lt_of_le (h.lt k hk) hc.size⟩
theorem WA.nil (h : WA w F p now l a c G) (hc : Chg Nil w w') : WA w' F p now l a c G := h.chg hc (fun _ _ h => h)
theorem WhAt.chg (h : WhAt w F p now l) (hc : Chg H w w') (hd : Dj F H) : WhAt w' F p now l := by
  obtain ⟨a, c, G, h⟩ := h
  exact ⟨a, c, G, h.chg hc hd⟩
theorem WhAt.lt (h : WhAt w F p now l) : ∀ k, F k → k < w.heap.size := by
  obtain ⟨a, c, G, h⟩ := h
  exact h.lt
theorem WA.ne (h : WA w F p now l a c G) : G ≠ some p := h.sl.ne_blk h.blk (by decide)
theorem WA.c0 (h : WA w F p now l a c G) : w.cell? ⟨p, 0, none⟩ = some (.int .u32 now) := h.blk.cell 0
theorem WA.c1 (h : WA w F p now l a c G) : w.cell? ⟨p, 1, none⟩ = some (.slice a l.length c) := h.blk.cell 1
/-- Other timers are laid. -/
theorem WA.lay {w1 : World} {a' : Option Addr} {c' : Nat} {G' : Option Nat} {m : List Tm} (h : WA w F p now l a c G) (hc : Chg (Opt G) w w1) (hs : Sl w1 85 2 a' m.length c' (m.flatMap tm) G') :
    WA (w1.setCell ⟨p, 1, none⟩ (.slice a' m.length c')) (Or2 F (Opt G')) p now m a' c' G' := by
  have hb := h.blk.chg hc h.ne
  have hq1 := hs.ne_blk hb (by decide)
  refine ⟨hb.set 1 _, hs.set_far (p := ⟨p, 1, none⟩) hq1 _, .inl h.fp, fun g hg => .inr hg, ?_⟩
  rintro k (hF | hG')
  · have h1 := h.lt k hF; have := hc.size; simp [World.setCell]; omega
  · have := hs.lt k hG'; simpa [World.setCell] using this
theorem WA.late (h : WA w F p now l a c G) (n : Int) : WA (w.setCell ⟨p, 0, none⟩ (.int .u32 n)) F p n l a c G :=
  ⟨h.blk.set 0 _, h.sl.set_far (p := ⟨p, 0, none⟩) h.ne _, h.fp, h.fg, fun k hk => by simpa [World.setCell] using h.lt k hk⟩
end
theorem wnew_ok (now : Int) (w : World) : Calls Try.prog 36 #[.int .u32 now] w fun e w' => ∃ F p, e = .returned (.pointer (some ⟨p, 0, none⟩)) ∧ WhAt w' F p now [] ∧ Chg Nil w w' ∧ Grew w.heap.size Nil F := by
  go_enter Try.func36, Try.ntmps36
  go_wp2
  go_ret
  refine ⟨One w.heap.size, w.heap.size, rfl, ⟨none, 0, none, Blk.new w 83 [.int .u32 now, .slice none 0 0], Sl.empty _ _ _ _, rfl, (fun g h => by cases h), ?_⟩, (Chg.refl _ _).alloc _, ?_⟩
  · intro k hk; rw [show k = w.heap.size from hk]; simp
  · intro k hk; exact .inr (Nat.le_of_eq (show k = w.heap.size from hk).symm)
/-- Whose the timers are. -/
def idsT (l : List Tm) : List Int := l.map Tm.id
theorem find1_any (x : Tm) (q : Nat) (t : Int) (w : World) (hq : w.cell? ⟨q, 0, none⟩ = some (.int .i64 t)) :
    Calls Try.prog 63 #[.agg #[.int .u32 x.at_, .int .i64 x.id], .pointer (some ⟨q, 0, none⟩)] w fun e w' => e = .returned (.bool (x.id == t)) ∧ Chg Nil w w' := by
  have hlt := (lt_of_cell hq).1
  go_enter Try.func63, Try.ntmps63
  go_wp2
  go_ret
  exact ⟨rfl, (Chg.refl _ _).alloc _⟩
theorem indexT_any (R : Nat → Prop) (a : Option Addr) (n c q : Nat) (l : List Tm) (t : Int) (w : World) (h : Rd w R 2 a n c (l.flatMap tm)) (hn : n = l.length) (hl : n < 4294967296) (hq : w.cell? ⟨q, 0, none⟩ = some (.int .i64 t)) :
    Calls Try.prog 62 #[.slice a n c, .func (.func 63) #[] #[.pointer (some ⟨q, 0, none⟩)]] w fun e w' => e = .returned (.int .i64 (idxI (idsT l) t)) ∧ Chg Nil w w' := by
  subst hn
  have H := hid h
  clear h
  go_enter Try.func62, Try.ntmps62
  go_wp2
  go_loopw [8] (fun i wr => ∃ k : Nat, k ≤ l.length ∧ i = .int .i64 k ∧ Hid (Chg Nil w wr) ∧ Hid (∀ j (hj : j < l.length), j < k → l[j].id ≠ t)) (fun i _ => l.length - (intOf i).toNat)
  case atStart => exact ⟨0, Nat.zero_le _, rfl, Chg.refl _ _, fun _ _ h => absurd h (by omega)⟩
  case round =>
    obtain ⟨k, hk, rfl, hw, hr⟩ := hrel
    by_cases hlt : k < l.length
    · obtain ⟨g, off, rfl, hg1, hg2, hc⟩ := (H.out.chg hw.out (fun _ _ _ h => h)).elem tm_len rfl (by omega)
      have e0 := hc k hlt 0 (by omega)
      have e1 := hc k hlt 1 (by omega)
      clear hc
      simp only [tm, List.getElem?_cons_succ, List.getElem?_cons_zero, Nat.add_zero] at e0 e1
      have hq' : wr.cell? ⟨q, 0, none⟩ = some (.int .i64 t) := (hw.out.cell (a := ⟨q, 0, none⟩) (lt_of_cell hq).1 (fun h => h)).trans hq
      by_cases he : l[k].id = t
      · have hb : (l[k].id == t) = true := by rw [beq_iff_eq]; exact he
        have HE := hid he
        clear he
        go_wp2_with (go_at_call 63; refine (find1_any l[k] q t _ hq').mono ?_; rw [hb]; rintro e w1 ⟨rfl, q1⟩)
        go_ret
        have hix : idxI (idsT l) t = k := idxI_of (by simpa [idsT] using hlt) (by simpa [idsT] using HE.out) (fun j hj hjk => by simpa [idsT] using hr.out j (by simpa [idsT] using hj) hjk)
        exact ⟨ret_int hix.symm, hw.out.trans q1 (fun _ _ h => h)⟩
      · have hb : (l[k].id == t) = false := by rw [beq_eq_false_iff_ne]; exact he
        have HE := hid he
        clear he
        go_wp2_with (go_at_call 63; refine (find1_any l[k] q t _ hq').mono ?_; rw [hb]; rintro e w1 ⟨rfl, q1⟩)
        go_roundw
        case rel =>
          refine ⟨k + 1, by omega, by go_num, hw.out.trans q1 (fun _ _ h => h), fun j hj hjk => ?_⟩
          by_cases hjk' : j = k
          · subst hjk'; exact HE.out
          · exact hr.out j hj (by omega)
        case measure => simp [intOf]; omega
    · go_wp2
      go_ret
      have hix : idxI (idsT l) t = -1 := idxI_none (fun j hj => by
        have h5 : j < l.length := by simpa [idsT] using hj
        simpa [idsT] using hr.out j h5 (by omega))
      exact ⟨ret_int hix.symm, hw.out⟩
theorem wfind_ok (w : World) (F : Nat → Prop) (p : Nat) (now : Int) (l : List Tm) (id : Int) (h : WhAt w F p now l) (hl : l.length ≤ 1000) :
    Calls Try.prog 51 #[.pointer (some ⟨p, 0, none⟩), .int .i64 id] w fun e w' => e = .returned (.int .i64 (idxI (idsT l) id)) ∧ Chg Nil w w' := by
  obtain ⟨a, c, G, h⟩ := h
  have hA := (Chg.refl Nil w).alloc (.cells #[.int .i64 id] 3)
  have h1 := h.nil hA
  have hc := h1.c1
  have HX := hid (indexT_any _ a _ c w.heap.size l id _ h1.sl.rd rfl (by omega) ((Blk.new w 3 [.int .i64 id]).cell 0))
  have HA := hid hA
  clear h h1 hA
  go_enter Try.func51, Try.ntmps51
  go_wp2_with fail
  refine HX.out.mono ?_
  rintro e w1 ⟨rfl, c1⟩
  have C1 := hid (HA.out.trans c1 (fun _ _ h => h))
  clear c1
  go_wp2
  go_ret
  exact ⟨rfl, C1.out⟩
theorem wnext_none (w : World) (F : Nat → Prop) (p : Nat) (now : Int) (h : WhAt w F p now []) :
    Calls Try.prog 35 #[.pointer (some ⟨p, 0, none⟩)] w fun e w' => e = .returned (.tuple #[.int .u32 0, .int .i64 4]) ∧ w = w' := by
  obtain ⟨a, c, G, h⟩ := h
  have hc := h.c1
  simp only [List.length_nil] at hc
  clear h
  go_enter Try.func35, Try.ntmps35
  go_wp2
  go_ret2
  exact ⟨rfl, rfl⟩
theorem wnext_ok (w : World) (F : Nat → Prop) (p : Nat) (now : Int) (x : Tm) (l : List Tm) (h : WhAt w F p now (x :: l)) :
    Calls Try.prog 35 #[.pointer (some ⟨p, 0, none⟩)] w fun e w' => e = .returned (.tuple #[.int .u32 x.at_, .int .i64 0]) ∧ w = w' := by
  obtain ⟨a, c, G, h⟩ := h
  have hc := h.c1
  have hR := h.sl.rd
  simp only [List.length_cons] at hc hR
  obtain ⟨g, off, rfl, _, _, hr⟩ := hR.2.2.2 (by omega)
  have hcl := hr 0 (by omega)
  simp [tm] at hcl
  have hlen : (0 : Int) < (l.length : Int) + 1 := by omega
  have hlen2 : ((l.length : Int) + 1 == 0) = false := by rw [beq_eq_false_iff_ne]; omega
  clear h hR hr
  go_enter Try.func35, Try.ntmps35
  go_wp2
  go_ret2
  exact ⟨rfl, rfl⟩
end Go.Proofs.Ytaffkdoiooablaa
