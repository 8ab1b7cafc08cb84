/- Contracts of package pipe where there is one pipe. Conditions: just that · Package space where no space has a page, told by which spaces there are. Conditions: just that. -/
import Derived.Test.YtjllklddjkkddaaGreatDoorZ08
import Derived.Test.YtjllklddjkkddaaGreatDoorZ20
import Derived.Test.YtjllklddjkkddaaGreatDoorZ13
import Derived.Test.YtjllklddjkkddaaGreatDoorZ19
namespace Go.Proofs.YtjllklddjkkddaaGreatDoor
open Go.ChangeShapes Go.WideShapes Go.ChangeAt Go.RowKit
set_option linter.unusedVariables false
/-- Where the pipes are. -/
def piV (g : Option Nat) (i : Nat) : Value := if i = 0 then .pointer (g.map (fun g => ⟨g, 0, none⟩)) else .pointer none
/-- One pipe: who reads, who writes, what is on its way. -/
structure PiA (w : World) (F : Nat → Prop) (p g : Nat) (r s : Int) (bs : List Int) (a : Option Addr) (c : Nat) (G : Option Nat) : Prop where
  blk : Blk w p 164 (tab 16 (piV (some g)))
  one : Blk w g 342 [.int .i64 r, .int .i64 s, .slice a bs.length c]
  sl : Sl w 5 1 a bs.length c (bys bs) G
  room : bs.length ≤ 64
  fp : F p
  fg : F g
  fs : ∀ k, G = some k → F k
  lt : ∀ k, F k → k < w.heap.size
def PiAt (w : World) (F : Nat → Prop) (p g : Nat) (r s : Int) (bs : List Int) : Prop := ∃ a c G, PiA w F p g r s bs a c G
section
variable {w w' : World} {F H : Nat → Prop} {p g : Nat} {r s : Int} {bs : List Int} {a : Option Addr} {c : Nat} {G : Option Nat}
theorem PiA.chg (h : PiA w F p g r s bs a c G) (hc : Chg H w w') (hd : Dj F H) : PiA w' F p g r s bs a c G :=
  ⟨h.blk.chg hc (hd p h.fp), h.one.chg hc (hd g h.fg), h.sl.chg hc (fun k hk => hd k (h.fs k hk)), h.room, h.fp, h.fg, h.fs, fun k hk => Nat.lt_of_lt_of_le (h.lt k hk) hc.size⟩
theorem PiAt.chg (h : PiAt w F p g r s bs) (hc : Chg H w w') (hd : Dj F H) : PiAt w' F p g r s bs := by
  obtain ⟨a, c, G, h⟩ := h
  exact ⟨a, c, G, h.chg hc hd⟩
theorem PiAt.nil (h : PiAt w F p g r s bs) (hc : Chg Nil w w') : PiAt w' F p g r s bs := h.chg hc (fun _ _ h => h)
theorem PiAt.lt (h : PiAt w F p g r s bs) : ∀ k, F k → k < w.heap.size := by
  obtain ⟨a, c, G, h⟩ := h
  exact h.lt
theorem PiAt.room (h : PiAt w F p g r s bs) : bs.length ≤ 64 := by
  obtain ⟨a, c, G, h⟩ := h
  exact h.room
end
set_option maxRecDepth 100000 in
theorem pinew_ok (w : World) : Calls Tryz.prog 27 #[] w fun e w' => e = .returned (.pointer (some ⟨w.heap.size, 0, none⟩)) ∧ Blk w' w.heap.size 164 (tab 16 (piV none)) ∧ Chg Nil w w' := by
  have B0 := hid (Blk.new w 164 (tab 16 (piV none)))
  go_enter Tryz.func27, Tryz.ntmps27
  go_wp2
  go_ret
  exact ⟨rfl, B0.out, (Chg.refl Nil w).alloc _⟩
theorem pindex_0 (w : World) (p : Nat) (h : Blk w p 164 (tab 16 (piV none))) :
    Calls Tryz.prog 228 #[.slice (some ⟨p, 0, none⟩) 16 16, .pointer none] w fun e w' => e = .returned (.int .i64 0) ∧ w = w' := by
  have k0 : w.cell? ⟨p, 0, none⟩ = some (.pointer none) := h.tabCell (i := 0) (by omega)
  clear h
  go_enter Tryz.func228, Tryz.ntmps228
  go_wp2
  go_loop [8] (fun i => i = .int .i64 0) (fun _ => 0)
  case atStart => rfl
  case round =>
    subst hrel
    go_wp2
    go_ret
    exact ⟨rfl, rfl⟩
set_option maxRecDepth 100000 in
set_option maxHeartbeats 1000000 in
theorem pimake_0 (w : World) (p : Nat) (h : Blk w p 164 (tab 16 (piV none))) :
    Calls Tryz.prog 156 #[.pointer (some ⟨p, 0, none⟩)] w fun e w' => e = .returned (.tuple #[.int .i64 1, .int .i64 0]) ∧ PiAt w' (Or2 (One p) (One w.heap.size)) p w.heap.size 1 1 [] ∧ Chg (One p) w w' := by
  have HI := hid (pindex_0 w p h)
  have H := hid h
  have hlt := h.lt
  have B1 := Blk.alloc h (.cells #[.int .i64 1, .int .i64 1, .slice none 0 0] 342)
  have k0 := Blk.tabCell (i := 0) B1 (by omega)
  have f0 := Blk.frozen B1 0
  have e1 : (w.setCell ⟨p, 0, none⟩ (.pointer (some ⟨w.heap.size, 0, none⟩))).heap.size = w.heap.size := by simp [World.setCell]
  have B3 := Blk.alloc (Blk.tabEq (g := piV (some w.heap.size)) (Blk.tabSet (i := 0) h (by omega) (.pointer (some ⟨w.heap.size, 0, none⟩))) (fun i hi => by
    unfold piV
    split <;> rfl)) (.cells #[.int .i64 1, .int .i64 1, .slice none 0 0] 342)
  have N2 := Blk.new (w.setCell ⟨p, 0, none⟩ (.pointer (some ⟨w.heap.size, 0, none⟩))) 342 [.int .i64 1, .int .i64 1, .slice none 0 0]
  rw [e1] at N2
  have C1 := hid ((((Chg.refl (One p) w).setCell (p := ⟨p, 0, none⟩) (.inl (show One p p from rfl)) (.pointer (some ⟨w.heap.size, 0, none⟩)))).alloc (.cells #[.int .i64 1, .int .i64 1, .slice none 0 0] 342))
  replace B3 := hid B3
  replace N2 := hid N2
  clear h B1 e1
  go_enter Tryz.func156, Tryz.ntmps156
  go_wp2_with (go_at_call 228; refine HI.out.mono ?_; rintro e w' ⟨rfl, rfl⟩)
  go_ret2
  refine ⟨rfl, ⟨none, 0, none, B3.out, N2.out, Sl.empty _ _ _ _, Nat.zero_le _, .inl rfl, .inr rfl, fun k hk => (by cases hk), ?_⟩, C1.out⟩
  have := C1.out.size
  rintro k (hk | hk)
  · rw [show k = p from hk]; omega
  · rw [show k = w.heap.size from hk]; simp [World.setCell]
theorem pifind_1 (w : World) (p g : Nat) (h : Blk w p 164 (tab 16 (piV (some g)))) :
    Calls Tryz.prog 288 #[.pointer (some ⟨p, 0, none⟩), .int .i64 1] w fun e w' => e = .returned (.pointer (some ⟨g, 0, none⟩)) ∧ w = w' := by
  have k0 : w.cell? ⟨p, 0, none⟩ = some (.pointer (some ⟨g, 0, none⟩)) := h.tabCell (i := 0) (by omega)
  clear h
  go_enter Tryz.func288, Tryz.ntmps288
  go_wp2
  go_ret
  exact ⟨rfl, rfl⟩
theorem piend_r (w : World) (F : Nat → Prop) (p g : Nat) (r s : Int) (bs : List Int) (h : PiAt w F p g r s bs) (hr : r ≠ 0) :
    Calls Tryz.prog 220 #[.pointer (some ⟨p, 0, none⟩), .int .i64 1, .int .i64 0] w fun e w' => e = .returned (.tuple #[.pointer (some ⟨g, 0, none⟩), .int .i64 0]) ∧ w = w' := by
  obtain ⟨a, c, G, h⟩ := h
  have HF := hid (pifind_1 w p g h.blk)
  have k0 := h.one.cell 0
  simp only [List.getElem?_cons_zero] at k0
  have hb : (r == 0) = false := by rw [beq_eq_false_iff_ne]; exact hr
  clear h hr
  go_enter Tryz.func220, Tryz.ntmps220
  go_wp2_with (go_at_call 288; refine HF.out.mono ?_; rintro e w' ⟨rfl, rfl⟩)
  go_ret2
  exact ⟨rfl, rfl⟩
theorem piend_s (w : World) (F : Nat → Prop) (p g : Nat) (r s : Int) (bs : List Int) (h : PiAt w F p g r s bs) (hs : s ≠ 0) :
    Calls Tryz.prog 220 #[.pointer (some ⟨p, 0, none⟩), .int .i64 1, .int .i64 1] w fun e w' => e = .returned (.tuple #[.pointer (some ⟨g, 0, none⟩), .int .i64 0]) ∧ w = w' := by
  obtain ⟨a, c, G, h⟩ := h
  have HF := hid (pifind_1 w p g h.blk)
  have k1 := h.one.cell 1
  simp only [List.getElem?_cons_zero, List.getElem?_cons_succ] at k1
  have hb : (s == 0) = false := by rw [beq_eq_false_iff_ne]; exact hs
  clear h hs
  go_enter Tryz.func220, Tryz.ntmps220
  go_wp2_with (go_at_call 288; refine HF.out.mono ?_; rintro e w' ⟨rfl, rfl⟩)
  go_ret2
  exact ⟨rfl, rfl⟩
set_option maxRecDepth 100000 in
set_option maxHeartbeats 1000000 in
/-- Who writes has gone; somebody still reads. -/
theorem piless_s (w : World) (F : Nat → Prop) (p g : Nat) (bs : List Int) (h : PiAt w F p g 1 1 bs) :
    Calls Tryz.prog 147 #[.pointer (some ⟨p, 0, none⟩), .int .i64 1, .int .i64 1] w fun e w' => e = .returned (.int .i64 0) ∧ PiAt w' F p g 1 0 bs ∧ Chg F w w' := by
  have HE := hid (piend_s w F p g 1 1 bs h (by omega))
  obtain ⟨a, c, G, h⟩ := h
  have k1 := h.one.cell 1
  have f1 := h.one.frozen 1
  simp only [List.getElem?_cons_zero, List.getElem?_cons_succ] at k1
  have hgp : g ≠ p := fun hh => h.one.ne h.blk (by decide) hh
  have B1 := h.one.set 1 (.int .i64 0)
  have hG := h.sl.ne_blk h.one (by decide)
  have N : PiA (w.setCell ⟨g, 1, none⟩ (.int .i64 0)) F p g 1 0 bs a c G := ⟨h.blk.far (p := ⟨g, 1, none⟩) (fun hh => hgp hh.symm) _, B1, h.sl.set_far (p := ⟨g, 1, none⟩) hG _, h.room, h.fp, h.fg, h.fs, fun k hk => by simpa [World.setCell] using h.lt k hk⟩
  have C : Chg F w (w.setCell ⟨g, 1, none⟩ (.int .i64 0)) := (Chg.refl F w).setCell (.inl h.fg) _
  have k0 : (w.setCell ⟨g, 1, none⟩ (.int .i64 0)).cell? ⟨g, 0, none⟩ = some (.int .i64 1) := B1.cell 0
  have k2 : (w.setCell ⟨g, 1, none⟩ (.int .i64 0)).cell? ⟨g, 1, none⟩ = some (.int .i64 0) := B1.cell 1
  replace N := hid N
  replace C := hid C
  have E3 : ∀ (x y : Operand) w, (do eqGuard .eql 340 x y (.agg #[.int .i64 1, .int .i64 0]) (.agg #[.int .i64 0, .int .i64 0]); binOp .eql 340 (.agg #[.int .i64 1, .int .i64 0]) (.agg #[.int .i64 0, .int .i64 0]) : Sem Value).run Tryz.prog w = .ok (.bool false) w := fun _ _ _ => by kernel_rfl
  replace E3 := hid E3
  clear h B1
  go_enter Tryz.func147, Tryz.ntmps147
  go_wp2_with (go_at_call 220; refine HE.out.mono ?_; rintro e w' ⟨rfl, rfl⟩)
  go_region
  all_goals
    go_wp2_with (refine wpList_bin_run (E3.out _ _ _) (by rfl) (by rfl) (by rfl) (by rfl) ?_)
    go_ret
    exact ⟨rfl, ⟨a, c, G, N.out.chg ((Chg.refl Nil _).drew) (fun _ _ h => h)⟩, C.out.drew⟩
end Go.Proofs.YtjllklddjkkddaaGreatDoor
namespace Go.Proofs.YtjllklddjkkddaaGreatDoor
open Go.ChangeShapes Go.WideShapes Go.ChangeAt Go.RowKit
set_option linter.unusedVariables false
def SpB (w : World) (F : Nat → Prop) (p n : Nat) (sp : Nat → Bool) : Prop := ∃ b f, SpA w F p b n f ∧ ∀ j : Nat, j ≤ 16 → (f (j : Int)).isSome = sp j
theorem SpB.chg {w w' : World} {F H : Nat → Prop} {p n : Nat} {sp : Nat → Bool} (h : SpB w F p n sp) (hc : Chg H w w') (hd : Dj F H) : SpB w' F p n sp := by
  obtain ⟨b, f, h, hs⟩ := h
  exact ⟨b, f, h.chg hc hd, hs⟩
theorem SpB.lt {w : World} {F : Nat → Prop} {p n : Nat} {sp : Nat → Bool} (h : SpB w F p n sp) : ∀ k, F k → k < w.heap.size := by
  obtain ⟨b, f, h, hs⟩ := h
  exact h.lt
theorem none_of {f : Int → Option Value} {sp : Nat → Bool} (hs : ∀ j : Nat, j ≤ 16 → (f (j : Int)).isSome = sp j) {s : Nat} (h : s ≤ 16) (h0 : sp s = false) : f (s : Int) = none := by
  have := hs s h
  rw [h0] at this
  simpa using this
theorem some_of {f : Int → Option Value} {sp : Nat → Bool} (hs : ∀ j : Nat, j ≤ 16 → (f (j : Int)).isSome = sp j) {s : Nat} (h : s ≤ 16) (h0 : sp s = true) : f (s : Int) ≠ none := by
  have := hs s h
  rw [h0] at this
  intro hh
  rw [hh] at this
  cases this
theorem sp_upd {f : Int → Option Value} {sp : Nat → Bool} (hs : ∀ j : Nat, j ≤ 16 → (f (j : Int)).isSome = sp j) (s : Nat) (o : Option Value) : ∀ j : Nat, j ≤ 16 → (updM f (s : Int) o (j : Int)).isSome = updF sp s o.isSome j := by
  intro j hj
  unfold updM updF
  by_cases h : j = s
  · rw [if_pos (by omega), if_pos h]
  · rw [if_neg (by omega), if_neg h]
    exact hs j hj
theorem spbnew_ok (w : World) : Calls Tryz.prog 32 #[.int .i64 48, .int .i64 48] w fun e w' => ∃ F p, e = .returned (.tuple #[.pointer (some ⟨p, 0, none⟩), .int .i64 0]) ∧ SpB w' F p 0 (fun _ => false) ∧ F p ∧ Chg Nil w w' ∧ Grew w.heap.size Nil F := by
  refine (spcnew_ok w).mono ?_
  rintro e w' ⟨F, p, b, rfl, h1, h2, h3⟩
  exact ⟨F, p, rfl, ⟨b, _, h1, fun _ _ => rfl⟩, h1.fp, h2, h3⟩
theorem spbmake_ok (w : World) (F : Nat → Prop) (p n : Nat) (sp : Nat → Bool) (h : SpB w F p n sp) (hn : n ≤ 1000) (s : Nat) (h1 : 1 ≤ s) (h2 : s ≤ 16) (hs : sp s = false) (hb : ∀ j : Nat, 1 ≤ j → j < s → sp j = true) :
    Calls Tryz.prog 33 #[.pointer (some ⟨p, 0, none⟩)] w fun e w' => e = .returned (.tuple #[.int .i64 (s : Int), .int .i64 0]) ∧ ∃ F', SpB w' F' p (n + 1) (updF sp s true) ∧ Chg F w w' ∧ Grew w.heap.size F F' := by
  obtain ⟨b, f, h, hf⟩ := h
  refine (spcmake_ok w F p b n f h hn s h1 h2 (none_of hf h2 hs) (fun j h3 h4 => some_of hf (by omega) (hb j h3 h4))).mono ?_
  rintro e w' ⟨rfl, g, a1, a2, a3⟩
  refine ⟨rfl, _, ⟨b, _, a1, sp_upd hf s _⟩, a2, fun k hk => ?_⟩
  rcases hk with hk | hk
  · exact .inl hk
  · exact .inr (by rw [show k = g from hk]; exact a3)
theorem spbfork_ok (w : World) (F : Nat → Prop) (p n : Nat) (sp : Nat → Bool) (h : SpB w F p n sp) (hn : n ≤ 1000) (s : Nat) (h1 : 1 ≤ s) (h2 : s ≤ 16) (hs : sp s = false) (hb : ∀ j : Nat, 1 ≤ j → j < s → sp j = true) (o : Nat) (ho : o ≤ 16) (ho1 : sp o = true) :
    Calls Tryz.prog 176 #[.pointer (some ⟨p, 0, none⟩), .int .i64 (o : Int)] w fun e w' => e = .returned (.tuple #[.int .i64 (s : Int), .int .i64 0]) ∧ ∃ F', SpB w' F' p (n + 1) (updF sp s true) ∧ Chg F w w' ∧ Grew w.heap.size F F' := by
  obtain ⟨b, f, h, hf⟩ := h
  refine (spcfork_ok w F p b n f h hn s h1 h2 (none_of hf h2 hs) (fun j h3 h4 => some_of hf (by omega) (hb j h3 h4)) o ho (some_of hf ho ho1)).mono ?_
  rintro e w' ⟨rfl, g, a1, a2, a3⟩
  refine ⟨rfl, _, ⟨b, _, a1, sp_upd hf s _⟩, a2, fun k hk => ?_⟩
  rcases hk with hk | hk
  · exact .inl hk
  · exact .inr (by rw [show k = g from hk]; exact a3)
theorem spbdrop_ok (w : World) (F : Nat → Prop) (p n : Nat) (sp : Nat → Bool) (h : SpB w F p n sp) (o : Nat) (ho : o ≤ 16) (ho1 : sp o = true) :
    Calls Tryz.prog 74 #[.pointer (some ⟨p, 0, none⟩), .int .i64 (o : Int)] w fun e w' => e = .returned (.int .i64 0) ∧ SpB w' F p n (updF sp o false) ∧ Chg F w w' := by
  obtain ⟨b, f, h, hf⟩ := h
  refine (spcdrop_ok w F p b n f h o ho (some_of hf ho ho1)).mono ?_
  rintro e w' ⟨rfl, a1, a2⟩
  exact ⟨rfl, ⟨b, _, a1, sp_upd hf o _⟩, a2⟩
theorem spbreclaim_ok (w : World) (F : Nat → Prop) (p n : Nat) (sp : Nat → Bool) (h : SpB w F p n sp) (k : Int) :
    Calls Tryz.prog 7 #[.pointer (some ⟨p, 0, none⟩), .int .i64 k] w fun e w' => e = .returned (.int .i64 0) ∧ Chg Nil w w' := by
  obtain ⟨b, f, h, hf⟩ := h
  exact spcreclaim_ok w F p b n f h k
end Go.Proofs.YtjllklddjkkddaaGreatDoor
