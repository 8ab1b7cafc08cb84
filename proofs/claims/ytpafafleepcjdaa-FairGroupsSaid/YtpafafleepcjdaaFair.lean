/- Contracts of package fair, where no group is there: what each call returns, and what becomes of the tasks. Conditions: at most 1000 tasks, each as it may be. -/
import Derived.Test.YtpafafleepcjdaaSlices
import Derived.Test.YtpafafleepcjdaaMem2
import Derived.Test.YtpafafleepcjdaaMaps
import Derived.Test.YtpafafleepcjdaaFairP
import Derived.RegionTactic
import Derived.BigRegion
import Derived.Deep.RegionLaw
import Derived.Deep.RegionHeld3
namespace Go.Proofs.Ytpafafleepcjdaa
open Go.ChangeShapes Go.WideShapes Go.ChangeAt Go.RowKit
set_option linter.unusedVariables false
theorem eFTask : ETy Try.prog 47 45 5 40 := ⟨Try.underlying47, info_of (z := .agg #[.int .i64 0, .int .i64 0, .int .i64 0, .int .i64 0, .bool false]) (by kernel_rfl) rfl, by decide⟩
theorem zeroPG (w : World) : (zeroValue 46).run Try.prog w = .ok (.pointer none) w := by kernel_rfl
/-- In block p lies a class of tasks with weights, without groups; its blocks are all of F. -/
structure FA (w : World) (F : Nat → Prop) (p : Nat) (ts : List FT) (a : Option Addr) (c : Nat) (G : Option Nat) (mb : Nat) : Prop where
  blk : Blk w p 50 [.slice a ts.length c, .map (some mb)]
  sl : Sl w 45 5 a ts.length c (ts.flatMap ftCells) G
  mp : MpAt w Try.prog 3 mb 0 (fun _ => none)
  fp : F p
  fm : F mb
  fg : ∀ g, G = some g → F g
  nm : G ≠ some mb
  pm : mb ≠ p
  lt : ∀ k, F k → k < w.heap.size
def FairAt (w : World) (F : Nat → Prop) (p : Nat) (ts : List FT) : Prop := ∃ a c G mb, FA w F p ts a c G mb
section
variable {w w' : World} {F H : Nat → Prop} {p : Nat} {ts : List FT} {a : Option Addr} {c : Nat} {G : Option Nat} {mb : Nat}
theorem FA.chg (h : FA w F p ts a c G mb) (hc : Chg H w w') (hd : Dj F H) : FA w' F p ts a c G mb :=
  ⟨h.blk.chg hc (hd p h.fp), h.sl.chg hc (fun g hg => hd g (h.fg g hg)), h.mp.chg hc (hd mb h.fm), h.fp, h.fm, h.fg, h.nm, h.pm, fun k hk => Nat.lt_of_lt_of_le (h.lt k hk) hc.size⟩
theorem FairAt.chg (h : FairAt w F p ts) (hc : Chg H w w') (hd : Dj F H) : FairAt w' F p ts := by
  obtain ⟨a, c, G, mb, h⟩ := h
  exact ⟨a, c, G, mb, h.chg hc hd⟩
theorem FairAt.lt (h : FairAt w F p ts) : ∀ k, F k → k < w.heap.size := by
  obtain ⟨a, c, G, mb, h⟩ := h
  exact h.lt
theorem FA.nil (h : FA w F p ts a c G mb) (hc : Chg Nil w w') : FA w' F p ts a c G mb := h.chg hc (fun _ _ h => h)
theorem FA.drewN (h : FA w F p ts a c G mb) (n : Nat) : FA (w.drewN n) F p ts a c G mb := h.nil ((Chg.refl Nil w).drewN n)
theorem FA.c0 (h : FA w F p ts a c G mb) : w.cell? ⟨p, 0, none⟩ = some (.slice a ts.length c) := h.blk.cell 0
theorem FA.c1 (h : FA w F p ts a c G mb) : w.cell? ⟨p, 1, none⟩ = some (.map (some mb)) := h.blk.cell 1
theorem FA.ne (h : FA w F p ts a c G mb) : G ≠ some p := h.sl.ne_blk h.blk (by decide)
theorem FA.at (h : FA w F p ts a c G mb) (h0 : 0 < ts.length) : ∃ g off, a = some ⟨g, off, none⟩ ∧ G = some g ∧ g < w.heap.size ∧ g ≠ p := by
  obtain ⟨g, off, h1, h2, h3⟩ := h.sl.block h0
  exact ⟨g, off, h1, h2, h3, fun he => h.ne (by rw [h2, he])⟩
theorem FA.cell {g off : Nat} (h : FA w F p ts (some ⟨g, off, none⟩) c G mb) {i : Nat} {x : FT} (hx : ts[i]? = some x) (j : Nat) (hj : j < 5) : w.cell? ⟨g, off + i * 5 + j, none⟩ = (ftCells x)[j]? := by
  have hi : i < ts.length := (List.getElem?_eq_some_iff.1 hx).1
  obtain ⟨g', off', r1, r2, r3, r4⟩ := h.sl.rd.elem ft_len rfl (by omega)
  injection r1 with r1
  injection r1 with r1 r1'
  subst r1; subst r1'
  rw [r4 i hi j hj, (List.getElem?_eq_some_iff.1 hx).2]
theorem FA.free {g off : Nat} (h : FA w F p ts (some ⟨g, off, none⟩) c G mb) (h0 : 0 < ts.length) (k : Nat) : w.frozen? ⟨g, k, none⟩ = false := h.sl.free k h0
theorem FA.put {g off : Nat} (h : FA w F p ts (some ⟨g, off, none⟩) c (some g) mb) {i j : Nat} {x y : FT} {u : Value} (hx : ts[i]? = some x) (hj : j < 5) (hy : (ftCells x).set j u = ftCells y) :
    FA (w.setCell ⟨g, off + i * 5 + j, none⟩ u) F p (ts.set i y) (some ⟨g, off, none⟩) c (some g) mb := by
  have hi : i < ts.length := (List.getElem?_eq_some_iff.1 hx).1
  have hne : p ≠ g := fun he => h.ne (by rw [he])
  have hlt : i * 5 + j < ts.length * 5 := by omega
  refine ⟨?_, ?_, ?_, h.fp, h.fm, h.fg, h.nm, h.pm, fun k hk => by simpa [World.setCell] using h.lt k hk⟩
  · rw [List.length_set]; exact h.blk.far (p := ⟨g, _, none⟩) hne u
  · have := h.sl.putn hlt u
    rw [flat_set ftCells 5 ft_len ts i j x y u hx hj hy] at this
    rw [List.length_set, Nat.add_assoc]
    exact this
  · exact h.mp.chg ((Chg.refl (One g) w).setCell (p := ⟨g, _, none⟩) (.inl (show One g g from rfl)) u) (fun he => h.nm (by rw [show mb = g from he]))
theorem FA.look (h : FA w F p ts a c G mb) (i : Int) (h1 : 0 ≤ i) (h2 : i ≤ 100) : (Instr.lookup 48 (.map (some mb)) (.int .i64 i) false).run Try.prog w = .ok (.pointer none) w :=
  h.mp.look (t := 48) (e := 46) Try.underlying3 Try.underlying48 (zeroPG w) i (wf_key (by omega) (by omega))
theorem set_set {α : Type} (l : List α) (i : Nat) (x y : α) : (l.set i x).set i y = l.set i y := List.set_set x
theorem set_same {α : Type} {l : List α} {i : Nat} {x : α} (h : l[i]? = some x) : l.set i x = l := by
  obtain ⟨h1, h2⟩ := List.getElem?_eq_some_iff.1 h
  rw [← h2]; exact List.set_getElem_self _
end
theorem fnew_ok (w : World) : Calls Try.prog 15 #[] w fun e w' => ∃ F p, e = .returned (.pointer (some ⟨p, 0, none⟩)) ∧ FairAt w' F p [] ∧ Chg Nil w w' ∧ Grew w.heap.size Nil F := by
  have hmm := @run_makeMap Try.prog
  go_enter Try.func15, Try.ntmps15
  go_wp2
  go_ret
  refine ⟨Or2 (One w.heap.size) (One (w.heap.size + 1)), w.heap.size + 1, rfl, ⟨none, 0, none, w.heap.size, ?_, Sl.empty _ _ _ _, (MpAt.made w _ _).alloc _, .inr rfl, .inl rfl, (fun g h => by cases h), (by simp), (by omega), ?_⟩, ((Chg.refl _ _).alloc _).alloc _, ?_⟩
  · have := Blk.new (w.alloc (.map #[] 0)) 50 [.slice none 0 0, .map (some w.heap.size)]
    rw [show (w.alloc (.map #[] 0)).heap.size = w.heap.size + 1 by simp] at this
    exact this
  · rintro k (hk | hk)
    · rw [show k = w.heap.size from hk]; simp; omega
    · rw [show k = w.heap.size + 1 from hk]; simp
  · rintro k (hk | hk)
    · exact .inr (Nat.le_of_eq (show k = w.heap.size from hk).symm)
    · exact .inr (by rw [show k = w.heap.size + 1 from hk]; omega)
theorem ffind_no (w : World) (F : Nat → Prop) (p : Nat) (ts : List FT) (a : Option Addr) (c : Nat) (G : Option Nat) (mb : Nat) (t : Int) (h : FA w F p ts a c G mb) (hl : ts.length ≤ 1000) (ht : ∀ x ∈ ts, (x.t : Int) ≠ t) :
    Calls Try.prog 23 #[.pointer (some ⟨p, 0, none⟩), .int .i64 t] w fun e w' => e = .returned (.pointer none) ∧ w = w' := by
  have c0 := h.c0
  have H := hid h
  have HT := hid ht
  clear h ht
  go_enter Try.func23, Try.ntmps23
  go_wp2
  go_loop [11] (fun s11 => ∃ k : Nat, k ≤ ts.length ∧ s11 = .int .i64 k) (fun s11 => ts.length - (intOf s11).toNat)
  case atStart => exact ⟨0, by omega, rfl⟩
  case round =>
    obtain ⟨k, hk, rfl⟩ := hrel
    by_cases hlt : k < ts.length
    · obtain ⟨g, off, rfl, rfl, _, _⟩ := H.out.at (by omega)
      have hc := H.out.cell (List.getElem?_eq_getElem hlt) 0 (by omega)
      simp only [ftCells, List.getElem?_cons_zero, Nat.add_zero] at hc
      have hne : (((ts[k].t : Nat) : Int) == t) = false := by rw [beq_eq_false_iff_ne]; exact HT.out _ (List.getElem_mem hlt)
      go_wp2
      go_round
      case rel => exact ⟨k + 1, by omega, by go_num⟩
      case measure => simp [intOf]; omega
    · go_wp2
      go_ret
      exact ⟨rfl, rfl⟩
/-- A task that is there, by its number. -/
def NumF (ts : List FT) (i : Nat) (x : FT) (t : Int) : Prop := ts[i]? = some x ∧ (x.t : Int) = t ∧ ∀ j y, j < i → ts[j]? = some y → (y.t : Int) ≠ t
theorem ffind_yes (w : World) (F : Nat → Prop) (p : Nat) (ts : List FT) (g off : Nat) (c : Nat) (G : Option Nat) (mb : Nat) (i : Nat) (x : FT) (t : Int) (h : FA w F p ts (some ⟨g, off, none⟩) c G mb) (hl : ts.length ≤ 1000) (hx : NumF ts i x t) :
    Calls Try.prog 23 #[.pointer (some ⟨p, 0, none⟩), .int .i64 t] w fun e w' => e = .returned (.pointer (some ⟨g, off + i * 5, none⟩)) ∧ w = w' := by
  obtain ⟨hx, hxt, ht⟩ := hx
  have c0 := h.c0
  have hi : i < ts.length := (List.getElem?_eq_some_iff.1 hx).1
  have H := hid h
  have HT := hid ht
  have HX := hid hx
  have HXT := hid hxt
  clear h ht hx hxt
  go_enter Try.func23, Try.ntmps23
  go_wp2
  go_loop [11] (fun s11 => ∃ k : Nat, k ≤ i ∧ s11 = .int .i64 k) (fun s11 => ts.length - (intOf s11).toNat)
  case atStart => exact ⟨0, by omega, rfl⟩
  case round =>
    obtain ⟨k, hk, rfl⟩ := hrel
    have hlt : k < ts.length := by omega
    by_cases hki : k = i
    · subst hki
      have hc := H.out.cell HX.out 0 (by omega)
      simp only [ftCells, List.getElem?_cons_zero, Nat.add_zero] at hc
      have hne : (((x.t : Nat) : Int) == t) = true := by rw [beq_iff_eq]; exact HXT.out
      go_wp2
      go_ret
      exact ⟨rfl, rfl⟩
    · have hc := H.out.cell (List.getElem?_eq_getElem hlt) 0 (by omega)
      simp only [ftCells, List.getElem?_cons_zero, Nat.add_zero] at hc
      have hne : (((ts[k].t : Nat) : Int) == t) = false := by rw [beq_eq_false_iff_ne]; exact HT.out k _ (by omega) (List.getElem?_eq_getElem hlt)
      go_wp2
      go_round
      case rel => exact ⟨k + 1, by omega, by go_num⟩
      case measure => simp [intOf]; omega
/-- What least tells. -/
def leastV (o : Option Nat) : Value := .int .i64 ((o.getD 0 : Nat) : Int)
def PLeast (ts : List FT) (w : World) (e : Ending) (w' : World) : Prop := ∃ o, FLeast ts ts.length o ∧ e = .returned (.tuple #[leastV o, .bool o.isSome]) ∧ Chg Nil w w'
set_option maxHeartbeats 1000000 in
theorem fleast_ok (w : World) (F : Nat → Prop) (p : Nat) (ts : List FT) (a : Option Addr) (c : Nat) (G : Option Nat) (mb : Nat) (h : FA w F p ts a c G mb) (hl : ts.length ≤ 1000) (hg : ∀ x ∈ ts, x.g = 0) :
    Calls Try.prog 27 #[.pointer (some ⟨p, 0, none⟩), .int .i64 0] w (PLeast ts w) := by
  have c0 := h.c0
  have H := hid h
  have HG := hid hg
  clear h hg
  go_enter Try.func27, Try.ntmps27
  go_wp2
  go_loopw [6, 7, 15] (fun s6 s7 s15 wr => ∃ (k : Nat) (o : Option Nat), k ≤ ts.length ∧ s15 = .int .i64 k ∧ s6 = leastV o ∧ s7 = .bool o.isSome ∧ Hid (FLeast ts k o) ∧ Hid (Chg Nil w wr)) (fun _ _ s15 _ => ts.length - (intOf s15).toNat)
  case atStart => exact ⟨0, none, by omega, rfl, rfl, rfl, fun i x hi => absurd hi (by omega), Chg.refl _ _⟩
  case round =>
    obtain ⟨k, o, hk, rfl, rfl, rfl, hF, hC⟩ := hrel
    by_cases hlt : k < ts.length
    · obtain ⟨g, off, rfl, rfl, hgl, _⟩ := H.out.at (by omega)
      have hxk := List.getElem?_eq_getElem hlt
      generalize ts[k] = x at hxk
      have HW := H.out.nil hC.out
      have x0 := HW.cell hxk 0 (by omega)
      have x1 := HW.cell hxk 1 (by omega)
      have x2 := HW.cell hxk 2 (by omega)
      have x3 := HW.cell hxk 3 (by omega)
      have x4 := HW.cell hxk 4 (by omega)
      simp only [ftCells, List.getElem?_cons_succ, List.getElem?_cons_zero, Nat.add_zero] at x0 x1 x2 x3 x4
      have hg0 := HG.out x (List.mem_of_getElem? hxk)
      rw [hg0] at x2
      replace hxk := hid hxk
      replace hg0 := hid hg0
      clear HW
      cases hr : x.r with
      | false =>
        rw [hr] at x4
        replace hr := hid hr
        go_wp2
        go_roundw
        case rel => exact ⟨k + 1, o, by omega, by go_num, rfl, rfl, fleast_no hF.out hxk.out hr.out, hC.out.alloc _⟩
        case measure => simp [intOf]; omega
      | true =>
        rw [hr] at x4
        replace hr := hid hr
        cases o with
        | none =>
          simp only [Option.isSome_none]
          go_wp2
          go_roundw
          case rel => exact ⟨k + 1, some x.v, by omega, by go_num, rfl, rfl, fleast_new hF.out hxk.out hr.out (fun m h => by cases h), hC.out.alloc _⟩
          case measure => simp [intOf]; omega
        | some m =>
          simp only [Option.isSome_some, leastV, Option.getD_some]
          by_cases hvm : x.v < m
          · have t1 : decide ((x.v : Int) < (m : Int)) = true := by simp; omega
            go_wp2
            go_roundw
            case rel => exact ⟨k + 1, some x.v, by omega, by go_num, rfl, rfl, fleast_new hF.out hxk.out hr.out (fun m' h => by injection h with h; omega), hC.out.alloc _⟩
            case measure => simp [intOf]; omega
          · have t1 : decide ((x.v : Int) < (m : Int)) = false := by simp; omega
            go_wp2
            go_roundw
            case rel => exact ⟨k + 1, some m, by omega, by go_num, rfl, rfl, fleast_old hF.out hxk.out (by omega), hC.out.alloc _⟩
            case measure => simp [intOf]; omega
    · obtain rfl : k = ts.length := by omega
      go_wp2
      go_ret2
      exact ⟨o, hF.out, rfl, hC.out⟩
theorem ftop_ok (w : World) (F : Nat → Prop) (p : Nat) (ts : List FT) (a : Option Addr) (c : Nat) (G : Option Nat) (mb : Nat) (h : FA w F p ts a c G mb) (hl : ts.length ≤ 1000) (hg : ∀ x ∈ ts, x.g = 0) :
    Calls Try.prog 26 #[.pointer (some ⟨p, 0, none⟩)] w (PLeast ts w) := by
  have H := hid h
  have HG := hid hg
  clear h hg
  go_enter Try.func26, Try.ntmps26
  go_wp2_with fail
  refine (fleast_ok w F p ts a c G mb H.out hl HG.out).mono ?_
  rintro e w1 ⟨o, ho, rfl, c1⟩
  replace ho := hid ho
  have H1 := H.out.nil c1
  have d1 := H1.c1
  have HM := hid H1.mp
  replace c1 := hid c1
  clear H1
  obtain ⟨lv, hlv⟩ : ∃ lv, lv = leastV o := ⟨_, rfl⟩
  obtain ⟨ob, hob⟩ : ∃ ob, ob = o.isSome := ⟨_, rfl⟩
  rw [← hlv, ← hob]
  replace hlv := hid hlv
  replace hob := hid hob
  go_wp2_with (at_range; refine wpList_range_none _ rfl _ 48 rfl (k := 3) (e := 46) Try.underlying3 Try.underlying48 mb 0 rfl HM.out ?_; intro w2 r1 r2; replace r1 := hid r1)
  go_frame
  go_loopw [4, 5] (fun s4 s5 wr => s4 = lv ∧ s5 = .bool ob ∧ wr = w2) (fun _ _ _ => 0)
  case atStart => exact ⟨rfl, rfl, rfl⟩
  case round =>
    obtain ⟨rfl, rfl, rfl⟩ := hrel
    go_wp2
    go_ret2
    exact ⟨o, ho.out, by rw [← hlv.out, ← hob.out]; rfl, c1.out.trans r1.out (fun _ _ h => h)⟩
end Go.Proofs.Ytpafafleepcjdaa
