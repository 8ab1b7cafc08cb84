/- Contracts of package fair, where no group is there: next, Tick, At, Block, Wake. Conditions: at most 1000 tasks, each as it may be; virtual times below 2^50. -/
import Derived.Test.YtpafafleepcjdaaFair3
namespace Go.Proofs.Ytpafafleepcjdaa
open Go.ChangeShapes Go.WideShapes Go.ChangeAt Go.RowKit
set_option linter.unusedVariables false
theorem ffirst_nil (w : World) (F : Nat → Prop) (p : Nat) (a : Option Addr) (c : Nat) (G : Option Nat) (mb : Nat) (h : FA w F p [] a c G mb) :
    Calls Try.prog 25 #[.pointer (some ⟨p, 0, none⟩), .int .i64 0] w fun e w' => e = .returned (.pointer none) ∧ w = w' := by
  have c0 := h.c0
  clear h
  simp only [List.length_nil] at c0
  go_enter Try.func25, Try.ntmps25
  go_wp2
  go_loop [5, 13] (fun s5 s13 => s5 = .pointer none ∧ s13 = .int .i64 0) (fun _ _ => 0)
  case atStart => exact ⟨rfl, rfl⟩
  case round =>
    obtain ⟨rfl, rfl⟩ := hrel
    go_wp2
    go_ret
    exact ⟨rfl, rfl⟩
theorem fnext_nil (w : World) (F : Nat → Prop) (p : Nat) (a : Option Addr) (c : Nat) (G : Option Nat) (mb : Nat) (h : FA w F p [] a c G mb) :
    Calls Try.prog 22 #[.pointer (some ⟨p, 0, none⟩)] w fun e w' => e = .returned (.pointer none) ∧ w = w' := by
  have c1 := h.c1
  have H := hid h
  clear h
  go_enter Try.func22, Try.ntmps22
  go_wp2
  go_loop [3, 4, 5] (fun s3 s4 s5 => ∃ k : Nat, k ≤ 9 ∧ s3 = .pointer none ∧ s4 = .int .i64 0 ∧ s5 = .int .i64 k) (fun _ _ s5 => 10 - (intOf s5).toNat)
  case atStart => exact ⟨1, by omega, rfl, rfl, rfl⟩
  case round =>
    obtain ⟨k, hk, rfl, rfl, rfl⟩ := hrel
    by_cases hlt : k < 9
    · have hlk := H.out.look (k : Int) (by omega) (by omega)
      go_wp2
      go_round
      case rel => exact ⟨k + 1, by omega, rfl, rfl, by go_num⟩
      case measure => simp [intOf]; omega
    · go_wp2_with (go_at_call 25; refine (ffirst_nil w F p a c G mb H.out).mono ?_; rintro e w' ⟨rfl, rfl⟩)
      go_ret
      exact ⟨rfl, rfl⟩
theorem fnext_ok (w : World) (F : Nat → Prop) (p : Nat) (ts : List FT) (g off : Nat) (c : Nat) (G : Option Nat) (mb : Nat) (h : FA w F p ts (some ⟨g, off, none⟩) c G mb) (hl : ts.length ≤ 1000) (hg : ∀ y ∈ ts, y.g = 0) :
    Calls Try.prog 22 #[.pointer (some ⟨p, 0, none⟩)] w (PFirstF ts g off w) := by
  have c1 := h.c1
  have H := hid h
  have HG := hid hg
  clear h hg
  go_enter Try.func22, Try.ntmps22
  go_wp2
  go_loop [3, 4, 5] (fun s3 s4 s5 => ∃ k : Nat, k ≤ 9 ∧ s3 = .pointer none ∧ s4 = .int .i64 0 ∧ s5 = .int .i64 k) (fun _ _ s5 => 10 - (intOf s5).toNat)
  case atStart => exact ⟨1, by omega, rfl, rfl, rfl⟩
  case round =>
    obtain ⟨k, hk, rfl, rfl, rfl⟩ := hrel
    by_cases hlt : k < 9
    · have hlk := H.out.look (k : Int) (by omega) (by omega)
      go_wp2
      go_round
      case rel => exact ⟨k + 1, by omega, rfl, rfl, by go_num⟩
      case measure => simp [intOf]; omega
    · go_wp2_with fail
      refine (ffirst_ok w F p ts g off c G mb H.out hl HG.out).mono ?_
      rintro e w1 ⟨b, hb, rfl, n, rfl⟩
      replace hb := hid hb
      cases b with
      | none =>
        simp only [bestPtrF]
        go_wp2
        go_ret
        exact ⟨none, hb.out, rfl, n, rfl⟩
      | some j =>
        simp only [bestPtrF]
        go_wp2
        go_ret
        exact ⟨some j, hb.out, rfl, n, rfl⟩
theorem cost_ok (k : Nat) (w : World) (h1 : 1 ≤ k) (h2 : k ≤ 100) :
    Calls Try.prog 13 #[.int .i64 (k : Int)] w fun e w' => e = .returned (.tuple #[.int .i64 (cost k : Nat), .int .i64 0]) ∧ w = w' := by
  go_enter Try.func13, Try.ntmps13
  go_wp2
  go_ret2
  exact ⟨rfl, rfl⟩
def PTickF (F : Nat → Prop) (p : Nat) (ts : List FT) (w : World) (e : Ending) (w' : World) : Prop := ∃ b, FFirst ts ts.length b ∧ e = .returned (.tuple #[.int .i64 (numF ts b : Nat), .int .i64 (if b.isSome then 0 else 4)]) ∧ FairAt w' F p (tickF ts b) ∧ Chg F w w'
theorem modify_of {α : Type} {l : List α} {j : Nat} {x : α} (f : α → α) (h : l[j]? = some x) : l.modify j f = l.set j (f x) := by
  apply List.ext_getElem?
  intro i
  rw [List.getElem?_modify, List.getElem?_set]
  by_cases hij : j = i
  · subst hij
    obtain ⟨h1, h2⟩ := List.getElem?_eq_some_iff.1 h
    simp [h1, h2]
  · simp [hij]
set_option maxHeartbeats 1000000 in
theorem ftick_ok (w : World) (F : Nat → Prop) (p V : Nat) (ts : List FT) (h : FairAt w F p ts) (hl : ts.length ≤ 1000) (hV : V ≤ 1000000000000000) (hok : ∀ x ∈ ts, FOk V x) :
    Calls Try.prog 12 #[.pointer (some ⟨p, 0, none⟩)] w (PTickF F p ts w) := by
  obtain ⟨a, c, G, mb, h⟩ := h
  have HO := hid hok
  have H := hid h
  have HG : Hid (∀ y ∈ ts, y.g = 0) := fun y hy => (hok y hy).g0
  clear h hok
  by_cases h0 : ts.length = 0
  · obtain rfl : ts = [] := List.eq_nil_of_length_eq_zero h0
    clear h0
    go_enter Try.func12, Try.ntmps12
    go_wp2_with (go_at_call 22; refine (fnext_nil w F p a c G mb H.out).mono ?_; rintro e w' ⟨rfl, rfl⟩)
    go_ret2
    exact ⟨none, fun i x hi => absurd hi (by simp), rfl, ⟨_, _, _, _, H.out⟩, Chg.refl _ _⟩
  · obtain ⟨g, off, rfl, rfl, hg, hne⟩ := H.out.at (by omega)
    go_enter Try.func12, Try.ntmps12
    go_wp2_with fail
    refine (fnext_ok w F p ts g off c _ mb H.out hl HG.out).mono ?_
    rintro e w1 ⟨b, hb, rfl, n, rfl⟩
    replace hb := hid hb
    cases b with
    | none =>
      simp only [bestPtrF]
      go_wp2
      go_ret2
      exact ⟨none, hb.out, rfl, ⟨_, _, _, _, H.out.drewN n⟩, (Chg.refl F w).drewN n⟩
    | some j =>
      obtain ⟨x, hj, hxj, hex, _⟩ := id hb.out
      have x0 := H.out.cell hxj 0 (by omega)
      have x1 := H.out.cell hxj 1 (by omega)
      have x2 := H.out.cell hxj 2 (by omega)
      have x3 := H.out.cell hxj 3 (by omega)
      have f3 := H.out.free (by omega) (off + j * 5 + 3)
      simp only [ftCells, List.getElem?_cons_succ, List.getElem?_cons_zero, Nat.add_zero] at x0 x1 x2 x3
      have hox := HO.out x (List.mem_of_getElem? hxj)
      rw [hox.g0] at x2
      have hw1 := hox.w1
      have hw2 := hox.w2
      have hv2 := hox.v2
      have hcl := cost_le x.w
      have HT := hid (show numF ts (some j) = x.t by simp [numF, hxj])
      have HM := hid (show tickF ts (some j) = ts.set j (runF x) by simp only [tickF]; rw [modify_of runF hxj])
      have hFg := H.out.fg g rfl
      have d1 := (H.out.drewN n).put (y := runF x) (u := .int .i64 ((x.v : Int) + (cost x.w : Int))) hxj (j := 3) (by omega) rfl
      have D1 := hid d1
      clear hxj hox d1
      simp only [bestPtrF]
      replace hex := hid hex
      go_wp2_with fail
      refine (cost_ok x.w _ hw1 hw2).mono ?_
      rintro e w2 ⟨rfl, rfl⟩
      generalize hcc : cost x.w = cc at *
      replace hcc := hid hcc
      go_wp2
      go_ret2
      refine ⟨some j, hb.out, by rw [HT.out]; rfl, ⟨_, _, _, _, by rw [HM.out]; exact D1.out⟩, ((Chg.refl F w).drewN n).setCell (p := ⟨g, off + j * 5 + 3, none⟩) (.inl hFg) _⟩
theorem fat_ok (w : World) (F : Nat → Prop) (p : Nat) (ts : List FT) (i : Nat) (x : FT) (t : Int) (h : FairAt w F p ts) (hl : ts.length ≤ 1000) (hx : NumF ts i x t) :
    Calls Try.prog 14 #[.pointer (some ⟨p, 0, none⟩), .int .i64 t] w fun e w' => e = .returned (.tuple #[.int .i64 x.v, .int .i64 0]) ∧ w = w' := by
  obtain ⟨a, c, G, mb, h⟩ := h
  have hi : i < ts.length := (List.getElem?_eq_some_iff.1 hx.1).1
  obtain ⟨g, off, rfl, rfl, hg, hne⟩ := h.at (by omega)
  have c3 := h.cell hx.1 3 (by omega)
  simp only [ftCells, List.getElem?_cons_succ, List.getElem?_cons_zero] at c3
  have HF := hid (ffind_yes w F p ts g off c _ mb i x t h hl hx)
  clear h hx
  go_enter Try.func14, Try.ntmps14
  go_wp2_with (go_at_call 23; refine HF.out.mono ?_; rintro e w' ⟨rfl, rfl⟩)
  go_ret2
  exact ⟨rfl, rfl⟩
theorem fblock_no (w : World) (F : Nat → Prop) (p : Nat) (ts : List FT) (t : Int) (h : FairAt w F p ts) (hl : ts.length ≤ 1000) (ht : ∀ x ∈ ts, (x.t : Int) ≠ t) :
    Calls Try.prog 19 #[.pointer (some ⟨p, 0, none⟩), .int .i64 t] w fun e w' => e = .returned (.int .i64 4) ∧ w = w' := by
  obtain ⟨a, c, G, mb, h⟩ := h
  have HF := hid (ffind_no w F p ts a c G mb t h hl ht)
  clear h ht
  go_enter Try.func19, Try.ntmps19
  go_wp2_with (go_at_call 23; refine HF.out.mono ?_; rintro e w' ⟨rfl, rfl⟩)
  go_ret
  exact ⟨rfl, rfl⟩
def PBlockF (F : Nat → Prop) (p : Nat) (ts : List FT) (i : Nat) (x : FT) (w : World) (e : Ending) (w' : World) : Prop := e = .returned (.int .i64 (if x.r then 0 else 8)) ∧ FairAt w' F p (ts.set i { x with r := false }) ∧ Chg F w w'
theorem fblock_ok (w : World) (F : Nat → Prop) (p : Nat) (ts : List FT) (i : Nat) (x : FT) (t : Int) (h : FairAt w F p ts) (hl : ts.length ≤ 1000) (hx : NumF ts i x t) :
    Calls Try.prog 19 #[.pointer (some ⟨p, 0, none⟩), .int .i64 t] w (PBlockF F p ts i x w) := by
  obtain ⟨a, c, G, mb, h⟩ := h
  have hi : i < ts.length := (List.getElem?_eq_some_iff.1 hx.1).1
  obtain ⟨g, off, rfl, rfl, hg, hne⟩ := h.at (by omega)
  have c4 := h.cell hx.1 4 (by omega)
  have f4 := h.free (by omega) (off + i * 5 + 4)
  simp only [ftCells, List.getElem?_cons_succ, List.getElem?_cons_zero] at c4
  have HF := hid (ffind_yes w F p ts g off c _ mb i x t h hl hx)
  have H := hid h
  have X1 := hid hx.1
  clear h hx
  cases hr : x.r with
  | true =>
    rw [hr] at c4
    replace hr := hid hr
    go_enter Try.func19, Try.ntmps19
    go_wp2_with (go_at_call 23; refine HF.out.mono ?_; rintro e w' ⟨rfl, rfl⟩)
    go_ret
    exact ⟨by rw [hr.out]; rfl, ⟨_, _, _, _, H.out.put X1.out (j := 4) (by omega) rfl⟩, (Chg.refl F w).setCell (p := ⟨g, off + i * 5 + 4, none⟩) (.inl (H.out.fg g rfl)) _⟩
  | false =>
    have hxx : ({ x with r := false } : FT) = x := by cases x; cases hr; rfl
    have hs : ts.set i { x with r := false } = ts := by rw [hxx]; exact set_same X1.out
    rw [hr] at c4
    replace hr := hid hr
    replace hxx := hid hxx
    replace hs := hid hs
    go_enter Try.func19, Try.ntmps19
    go_wp2_with (go_at_call 23; refine HF.out.mono ?_; rintro e w' ⟨rfl, rfl⟩)
    go_ret
    refine ⟨by rw [hr.out]; rfl, ?_, Chg.refl F w⟩
    rw [hs.out]
    exact ⟨_, _, _, _, H.out⟩
def PWakeUp (F : Nat → Prop) (p : Nat) (ts : List FT) (i : Nat) (x : FT) (w : World) (e : Ending) (w' : World) : Prop := ∃ o, FLeast ts ts.length o ∧ e = .returned (.int .i64 0) ∧ FairAt w' F p (ts.set i (wokenF o x)) ∧ Chg F w w'
theorem fwakeup_ok (w : World) (F : Nat → Prop) (p : Nat) (ts : List FT) (i : Nat) (x : FT) (t : Int) (h : FairAt w F p ts) (hl : ts.length ≤ 1000) (hg : ∀ y ∈ ts, y.g = 0) (hx : NumF ts i x t) (hr : x.r = false) :
    Calls Try.prog 21 #[.pointer (some ⟨p, 0, none⟩), .int .i64 t] w (PWakeUp F p ts i x w) := by
  obtain ⟨a, c, G, mb, h⟩ := h
  have hi : i < ts.length := (List.getElem?_eq_some_iff.1 hx.1).1
  obtain ⟨g, off, rfl, rfl, hgl, hne⟩ := h.at (by omega)
  have c4 := h.cell hx.1 4 (by omega)
  simp only [ftCells, List.getElem?_cons_succ, List.getElem?_cons_zero] at c4
  rw [hr] at c4
  have HF := hid (ffind_yes w F p ts g off c _ mb i x t h hl hx)
  have HW := hid (fwake_ok w F p ts g off c mb i x h hl hg hx.1)
  clear h hx hg hr
  go_enter Try.func21, Try.ntmps21
  go_wp2_with (go_at_call 23; refine HF.out.mono ?_; rintro e w' ⟨rfl, rfl⟩)
  refine HW.out.mono ?_
  rintro e w1 ⟨o, ho, rfl, h1, c1⟩
  replace ho := hid ho
  replace h1 := hid h1
  replace c1 := hid c1
  go_wp2
  go_ret
  exact ⟨o, ho.out, rfl, ⟨_, _, _, _, h1.out⟩, c1.out⟩
end Go.Proofs.Ytpafafleepcjdaa
