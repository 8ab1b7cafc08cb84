/- Contracts of package wait: what each call returns, and what becomes of the queue. Conditions: at most 1000 wait; marks are few. -/
import Derived.Test.YtdelelpfombfbaaSlices
import Derived.Test.YtdelelpfombfbaaMem2
import Derived.Test.YtdelelpfombfbaaMaps
import Derived.RegionTactic
import Derived.BigRegion
import Derived.Deep.RegionLaw
import Derived.Deep.RegionHeld3
namespace Go.Proofs.Ytdelelpfombfbaa
open Go.ChangeShapes Go.WideShapes Go.ChangeAt Go.RowKit
set_option linter.unusedVariables false
/-- Who waits, and whether he wants to be woken alone. -/
structure WT where
  t : Int
  al : Bool
def wtCells (x : WT) : List Value := [.int .i64 x.t, .bool x.al]
theorem wt_len (x : WT) : (wtCells x).length = 2 := rfl
theorem wt_one (x : WT) : ∀ v ∈ wtCells x, v.oneCell' = true := by
  intro v hv
  simp only [wtCells, List.mem_cons, List.not_mem_nil, or_false] at hv
  rcases hv with rfl | rfl <;> rfl
theorem eWaiter : ETy Try.prog 69 95 2 16 := ⟨Try.underlying69, info_of (z := .agg #[.int .i64 0, .bool false]) (by kernel_rfl) rfl, by decide⟩
theorem zeroInt (w : World) : (zeroValue 3).run Try.prog w = .ok (.int .i64 0) w := by kernel_rfl
/-- Does one wait? -/
def waits (l : List WT) (t : Int) : Bool := decide (t ∈ l.map WT.t)
/-- In block p lies a queue: who waits, the marks, how often something happened. -/
structure QA (w : World) (F : Nat → Prop) (p : Nat) (l : List WT) (n : Int) (nm : Nat) (f : Int → Option Value) (a : Option Addr) (c : Nat) (G : Option Nat) (mb : Nat) : Prop where
  blk : Blk w p 71 [.slice a l.length c, .map (some mb), .int .i64 n]
  sl : Sl w 95 2 a l.length c (l.flatMap wtCells) G
  mp : MpAt w Try.prog 3 mb nm f
  fp : F p
  fm : F mb
  fg : ∀ g, G = some g → F g
  nmb : G ≠ some mb
  pm : mb ≠ p
  lt : ∀ k, F k → k < w.heap.size
def QAt (w : World) (F : Nat → Prop) (p : Nat) (l : List WT) (n : Int) (nm : Nat) (f : Int → Option Value) : Prop := ∃ a c G mb, QA w F p l n nm f a c G mb
section
variable {w w' : World} {F H : Nat → Prop} {p : Nat} {l : List WT} {n : Int} {nm : Nat} {f : Int → Option Value} {a : Option Addr} {c : Nat} {G : Option Nat} {mb : Nat}
theorem QA.chg (h : QA w F p l n nm f a c G mb) (hc : Chg H w w') (hd : Dj F H) : QA w' F p l n nm f a c G mb :=
  ⟨h.blk.chg hc (hd p h.fp), h.sl.chg hc (fun g hg => hd g (h.fg g hg)), h.mp.chg hc (hd mb h.fm), h.fp, h.fm, h.fg, h.nmb, h.pm, fun k hk => Nat.lt_of_lt_of_le (h.lt k hk) hc.size⟩
theorem QA.nil (h : QA w F p l n nm f a c G mb) (hc : Chg Nil w w') : QA w' F p l n nm f a c G mb := h.chg hc (fun _ _ h => h)
theorem QAt.chg (h : QAt w F p l n nm f) (hc : Chg H w w') (hd : Dj F H) : QAt w' F p l n nm f := by
  obtain ⟨a, c, G, mb, h⟩ := h
  exact ⟨a, c, G, mb, h.chg hc hd⟩
theorem QA.c0 (h : QA w F p l n nm f a c G mb) : w.cell? ⟨p, 0, none⟩ = some (.slice a l.length c) := h.blk.cell 0
theorem QA.c1 (h : QA w F p l n nm f a c G mb) : w.cell? ⟨p, 1, none⟩ = some (.map (some mb)) := h.blk.cell 1
theorem QA.c2 (h : QA w F p l n nm f a c G mb) : w.cell? ⟨p, 2, none⟩ = some (.int .i64 n) := h.blk.cell 2
theorem QA.ne (h : QA w F p l n nm f a c G mb) : G ≠ some p := h.sl.ne_blk h.blk (by decide)
theorem QAt.lt (h : QAt w F p l n nm f) : ∀ k, F k → k < w.heap.size := by
  obtain ⟨a, c, G, mb, h⟩ := h
  exact h.lt
/-- The queue with another list. -/
theorem QA.lay {w1 : World} {l' : List WT} {a' : Option Addr} {c' : Nat} {G' : Option Nat} {u : Nat} (h : QA w F p l n nm f a c G mb) (hb : Blk w1 p 71 [.slice a l.length c, .map (some mb), .int .i64 n]) (hs : Sl w1 95 2 a' l'.length c' (l'.flatMap wtCells) G') (hm : MpAt w1 Try.prog 3 mb nm f) (hsz : w.heap.size ≤ w1.heap.size) (hG : ∀ g, G' = some g → G = some g ∨ w.heap.size ≤ g) :
    QA (w1.setCell ⟨p, 0, none⟩ (.slice a' l'.length c')) (Or2 F (Opt G')) p l' n nm f a' c' G' mb := by
  have hq1 := hs.ne_blk hb (by decide)
  refine ⟨hb.set 0 _, hs.set_far (p := ⟨p, 0, none⟩) hq1 _, hm.chg ((Chg.refl (One p) w1).setCell (p := ⟨p, 0, none⟩) (.inl (show One p p from rfl)) _) (fun hh => h.pm hh), .inl h.fp, .inl h.fm, fun g hg => .inr hg, ?_, h.pm, ?_⟩
  · intro hh
    rcases hG mb hh with h1 | h1
    · exact h.nmb h1
    · have := h.mp.lt; omega
  · rintro k (hF | hG)
    · have h1 := h.lt k hF; simp [World.setCell]; omega
    · have := hs.lt k hG; simpa [World.setCell] using this
end
theorem qnew_ok (w : World) : Calls Try.prog 10 #[] w fun e w' => ∃ F p, e = .returned (.pointer (some ⟨p, 0, none⟩)) ∧ QAt w' F p [] 0 0 (fun _ => none) ∧ Chg Nil w w' ∧ Grew w.heap.size Nil F := by
  have hmm := @run_makeMap Try.prog
  go_enter Try.func10, Try.ntmps10
  go_wp2
  go_ret
  refine ⟨Or2 (One w.heap.size) (One (w.heap.size + 1)), w.heap.size + 1, rfl, ⟨none, 0, none, w.heap.size, ?_, Sl.empty _ _ _ _, (MpAt.made w _ _).alloc _, .inr rfl, .inl rfl, (fun g h => by cases h), (by simp), (by omega), ?_⟩, ((Chg.refl _ _).alloc _).alloc _, ?_⟩
  · have := Blk.new (w.alloc (.map #[] 0)) 71 [.slice none 0 0, .map (some w.heap.size), .int .i64 0]
    rw [show (w.alloc (.map #[] 0)).heap.size = w.heap.size + 1 by simp] at this
    exact this
  · rintro k (hk | hk)
    · rw [show k = w.heap.size from hk]; simp; omega
    · rw [show k = w.heap.size + 1 from hk]; simp
  · rintro k (hk | hk)
    · exact .inr (Nat.le_of_eq (show k = w.heap.size from hk).symm)
    · exact .inr (by rw [show k = w.heap.size + 1 from hk]; omega)
theorem has1_any (x : WT) (q : Nat) (t : Int) (w : World) (hq : w.cell? ⟨q, 0, none⟩ = some (.int .i64 t)) :
    Calls Try.prog 58 #[.agg #[.int .i64 x.t, .bool x.al], .pointer (some ⟨q, 0, none⟩)] w fun e w' => e = .returned (.bool (x.t == t)) ∧ Chg Nil w w' := by
  have hlt := (lt_of_cell hq).1
  go_enter Try.func58, Try.ntmps58
  go_wp2
  go_ret
  exact ⟨rfl, (Chg.refl _ _).alloc _⟩
theorem indexW_any (R : Nat → Prop) (a : Option Addr) (n c q : Nat) (l : List WT) (t : Int) (w : World) (h : Rd w R 2 a n c (l.flatMap wtCells)) (hn : n = l.length) (hl : n < 4294967296) (hq : w.cell? ⟨q, 0, none⟩ = some (.int .i64 t)) :
    Calls Try.prog 70 #[.slice a n c, .func (.func 58) #[] #[.pointer (some ⟨q, 0, none⟩)]] w fun e w' => ∃ k : Int, e = .returned (.int .i64 k) ∧ (decide (0 ≤ k) = waits l t) ∧ k ≤ 4294967296 ∧ Chg Nil w w' := by
  subst hn
  have H := hid h
  clear h
  go_enter Try.func70, Try.ntmps70
  go_wp2
  go_loopw [8] (fun i wr => ∃ k : Nat, k ≤ l.length ∧ i = .int .i64 k ∧ Hid (Chg Nil w wr) ∧ Hid (∀ j (hj : j < l.length), j < k → l[j].t ≠ t)) (fun i _ => l.length - (intOf i).toNat)
  case atStart => exact ⟨0, Nat.zero_le _, rfl, Chg.refl _ _, fun _ _ h => absurd h (by omega)⟩
  case round =>
    obtain ⟨k, hk, rfl, hw, hr⟩ := hrel
    by_cases hlt : k < l.length
    · obtain ⟨g, off, rfl, hg1, hg2, hc⟩ := (H.out.chg hw.out (fun _ _ _ h => h)).elem wt_len rfl (by omega)
      have e0 := hc k hlt 0 (by omega)
      have e1 := hc k hlt 1 (by omega)
      clear hc
      simp only [wtCells, List.getElem?_cons_succ, List.getElem?_cons_zero, Nat.add_zero] at e0 e1
      have hq' : wr.cell? ⟨q, 0, none⟩ = some (.int .i64 t) := (hw.out.cell (a := ⟨q, 0, none⟩) (lt_of_cell hq).1 (fun h => h)).trans hq
      by_cases he : l[k].t = t
      · have hb : (l[k].t == t) = true := by rw [beq_iff_eq]; exact he
        have HE := hid he
        clear he
        go_wp2_with (go_at_call 58; refine (has1_any l[k] q t _ hq').mono ?_; rw [hb]; rintro e w1 ⟨rfl, q1⟩)
        go_ret
        have hin : waits l t = true := by
          unfold waits
          rw [decide_eq_true_iff, List.mem_map]
          exact ⟨l[k], List.getElem_mem hlt, HE.out⟩
        exact ⟨k, rfl, by rw [hin]; simp, by omega, hw.out.trans q1 (fun _ _ h => h)⟩
      · have hb : (l[k].t == t) = false := by rw [beq_eq_false_iff_ne]; exact he
        have HE := hid he
        clear he
        go_wp2_with (go_at_call 58; refine (has1_any l[k] q t _ hq').mono ?_; rw [hb]; rintro e w1 ⟨rfl, q1⟩)
        go_roundw
        case rel =>
          refine ⟨k + 1, by omega, by go_num, hw.out.trans q1 (fun _ _ h => h), fun j hj hjk => ?_⟩
          by_cases hjk' : j = k
          · subst hjk'; exact HE.out
          · exact hr.out j hj (by omega)
        case measure => simp [intOf]; omega
    · go_wp2
      go_ret
      refine ⟨-1, rfl, ?_, by omega, hw.out⟩
      have hin : waits l t = false := by
        unfold waits
        rw [decide_eq_false_iff_not, List.mem_map]
        rintro ⟨x, hx, he⟩
        obtain ⟨j, hj, rfl⟩ := List.mem_iff_getElem.1 hx
        exact hr.out j hj (by omega) he
      rw [hin]; simp
theorem has_any (w : World) (F : Nat → Prop) (p : Nat) (l : List WT) (n : Int) (nm : Nat) (f : Int → Option Value) (a : Option Addr) (c : Nat) (G : Option Nat) (mb : Nat) (t : Int) (h : QA w F p l n nm f a c G mb) (hl : l.length ≤ 1000) :
    Calls Try.prog 41 #[.pointer (some ⟨p, 0, none⟩), .int .i64 t] w fun e w' => e = .returned (.bool (waits l t)) ∧ Chg Nil w w' := by
  have d0 : (w.alloc (.cells #[.int .i64 t] 3)).cell? ⟨p, 0, none⟩ = some (.slice a l.length c) := (h.nil ((Chg.refl Nil w).alloc _)).c0
  have HR := hid (h.sl.rd.alloc (.cells #[.int .i64 t] 3))
  have HQ := hid (show (w.alloc (.cells #[.int .i64 t] 3)).cell? ⟨w.heap.size, 0, none⟩ = some (.int .i64 t) from (Blk.new w 3 [.int .i64 t]).cell 0)
  clear h
  go_enter Try.func41, Try.ntmps41
  go_wp2_with fail
  have HC : Calls Try.prog 57 #[.slice a l.length c, .func (.func 58) #[] #[.pointer (some ⟨w.heap.size, 0, none⟩)]] (w.alloc (.cells #[.int .i64 t] 3)) fun e w' => e = .returned (.bool (waits l t)) ∧ Chg Nil (w.alloc (.cells #[.int .i64 t] 3)) w' := by
    go_enter Try.func57, Try.ntmps57
    go_wp2_with fail
    refine (indexW_any _ a _ c _ l t _ HR.out rfl (by omega) HQ.out).mono ?_
    rintro e w1 ⟨k, rfl, hk, hk2, hc⟩
    replace hk := hid hk
    go_wp2
    go_ret
    exact ⟨ret_bool hk.out, hc⟩
  refine HC.mono ?_
  rintro e w1 ⟨rfl, hc⟩
  go_wp2
  go_ret
  exact ⟨rfl, push_chg hc⟩
end Go.Proofs.Ytdelelpfombfbaa
