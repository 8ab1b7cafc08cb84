/- Contracts of package spread that write: wait, fill. Conditions: at most 1000 tasks, each as it may be; stamps below 2^30 · Contracts of package spread: New, Pick, Ready, Block, Boost, Calm. Conditions: a run as it may be · Contracts of package spread: Boost, Calm, Pin. Conditions: a run as it may be. -/
import Derived.Test.YtjllklddjkkddaaGreatDoorZ25
import Derived.Test.YtjllklddjkkddaaGreatDoorZ05
namespace Go.Proofs.YtjllklddjkkddaaGreatDoor
open Go.ChangeShapes Go.WideShapes Go.ChangeAt Go.RowKit
set_option linter.unusedVariables false
section
variable {w w' : World} {F H : Nat → Prop} {p : Nat} {s : SR} {g off : Nat} {a : Option Addr} {c : Nat} {G : Option Nat}
theorem RA.put (h : RA w F p s g off a c G) {i j : Nat} {x y : ST} {u : Value} (hx : s.ts[i]? = some x) (hj : j < 15) (hy : (stCells x).set j u = stCells y) :
    RA (w.setCell ⟨g, off + i * 15 + j, none⟩ u) F p { s with ts := s.ts.set i y } g off a c G := by
  have hi : i < s.ts.length := (List.getElem?_eq_some_iff.1 hx).1
  obtain ⟨rfl, rfl⟩ := h.eq hx
  have hne : p ≠ g := fun he => h.ne (by rw [he])
  have hlt : i * 15 + j < s.ts.length * 15 := by omega
  refine ⟨?_, ?_, fun _ => ⟨rfl, rfl⟩, h.fp, h.fg, fun k hk => by simpa [World.setCell] using h.lt k hk⟩
  · show Blk _ p _ [.int .i64 s.n, .int .i64 s.tk, .int .i64 s.st, .slice (some ⟨g, off, none⟩) (s.ts.set i y).length c]
    rw [List.length_set]; exact h.blk.far (p := ⟨g, _, none⟩) hne u
  · have := h.sl.putn hlt u
    rw [flat_set stCells 15 st_len s.ts i j x y u hx hj hy] at this
    show Sl _ _ 15 _ (s.ts.set i y).length c _ _
    rw [List.length_set, Nat.add_assoc]
    exact this
theorem RA.stamp (h : RA w F p s g off a c G) (v : Int) : RA (w.setCell ⟨p, 2, none⟩ (.int .i64 v)) F p { s with st := v } g off a c G :=
  ⟨h.blk.set 2 _, h.sl.set_far (p := ⟨p, 2, none⟩) h.ne _, h.ha, h.fp, h.fg, fun k hk => by simpa [World.setCell] using h.lt k hk⟩
theorem RA.ticks (h : RA w F p s g off a c G) (v : Int) : RA (w.setCell ⟨p, 1, none⟩ (.int .i64 v)) F p { s with tk := v } g off a c G :=
  ⟨h.blk.set 1 _, h.sl.set_far (p := ⟨p, 1, none⟩) h.ne _, h.ha, h.fp, h.fg, fun k hk => by simpa [World.setCell] using h.lt k hk⟩
theorem RA.gF (h : RA w F p s g off a c G) {i : Nat} {x : ST} (hx : s.ts[i]? = some x) : F g := h.fg g (h.eq hx).2
theorem set_get {α : Type} {l : List α} {i : Nat} {x y : α} (h : l[i]? = some x) : (l.set i y)[i]? = some y := List.getElem?_set_self (List.getElem?_eq_some_iff.1 h).1
theorem set_set {α : Type} (l : List α) (i : Nat) (x y : α) : (l.set i x).set i y = l.set i y := List.set_set x
theorem set_same {α : Type} {l : List α} {i : Nat} {x : α} (h : l[i]? = some x) : l.set i x = l := by
  obtain ⟨h1, h2⟩ := List.getElem?_eq_some_iff.1 h
  rw [← h2]; exact List.set_getElem_self _
end
theorem swait_ok (w : World) (F : Nat → Prop) (p : Nat) (s : SR) (g off : Nat) (a : Option Addr) (c : Nat) (G : Option Nat) (h : RA w F p s g off a c G) (i : Nat) (x : ST) (hx : s.ts[i]? = some x) (h1 : 0 ≤ s.st) (h2 : s.st ≤ 1073741824) :
    Calls Tryz.prog 141 #[.pointer (some ⟨p, 0, none⟩), .pointer (some ⟨g, off + i * 15, none⟩)] w fun e w' => e = .returned (.tuple #[]) ∧ RA w' F p (s.wait i) g off a c G ∧ Chg F w w' := by
  have f0 := h.free (by have := (List.getElem?_eq_some_iff.1 hx).1; omega) (off + i * 15 + 14)
  have D1 := h.put (y := { x with cpu := -1 }) (u := .int .i64 (-1)) hx (j := 14) (by omega) rfl
  have c2 := D1.c2
  have f2 := D1.fr 2
  have D2 := D1.stamp (s.st + 1)
  have c2' := D2.c2
  have f3 := D2.free (by show 0 < (s.ts.set i _).length; rw [List.length_set]; have := (List.getElem?_eq_some_iff.1 hx).1; omega) (off + i * 15 + 10)
  have D3 := D2.put (i := i) (x := { x with cpu := -1 }) (y := { x with cpu := -1, si := s.st + 1 }) (u := .int .i64 (s.st + 1)) (set_get hx) (j := 10) (by omega) rfl
  have E : Hid (RA (((w.setCell ⟨g, off + i * 15 + 14, none⟩ (.int .i64 (-1))).setCell ⟨p, 2, none⟩ (.int .i64 (s.st + 1))).setCell ⟨g, off + i * 15 + 10, none⟩ (.int .i64 (s.st + 1))) F p (s.wait i) g off a c G) := hid (by
    have e : ({ s with st := s.st + 1, ts := (s.ts.set i { x with cpu := -1 }).set i { x with cpu := -1, si := s.st + 1 } } : SR) = s.wait i := by
      unfold SR.wait
      rw [upd_of hx, set_set]
    rw [← e]
    exact D3)
  have C : Hid (Chg F w (((w.setCell ⟨g, off + i * 15 + 14, none⟩ (.int .i64 (-1))).setCell ⟨p, 2, none⟩ (.int .i64 (s.st + 1))).setCell ⟨g, off + i * 15 + 10, none⟩ (.int .i64 (s.st + 1)))) :=
    hid ((((Chg.refl F w).setCell (p := ⟨g, off + i * 15 + 14, none⟩) (.inl (h.gF hx)) _).setCell (p := ⟨p, 2, none⟩) (.inl h.fp) _).setCell (p := ⟨g, off + i * 15 + 10, none⟩) (.inl (h.gF hx)) _)
  have hne : p ≠ g := fun he => h.ne (by rw [(h.eq hx).2, he])
  have c20 := h.c2
  have x14 := h.cell hx 14 (by omega)
  have x10 := D2.cell (i := i) (x := { x with cpu := -1 }) (set_get hx) 10 (by omega)
  simp only [stCells, List.getElem?_cons_succ, List.getElem?_cons_zero] at x14 x10
  have hne' : (p = g) = False := eq_false hne
  have hne2 : (g = p) = False := eq_false (fun h => hne h.symm)
  clear h hx D1 D2 D3
  go_enter Tryz.func141, Tryz.ntmps141
  go_wp2
  go_end0
  exact ⟨rfl, E.out, C.out⟩
/-- A run on the way through fill. -/
def FilS (F : Nat → Prop) (p : Nat) (s : SR) (g off : Nat) (a : Option Addr) (c : Nat) (G : Option Nat) (w0 : World) (k : Nat) (w : World) : Prop := RA w F p { s with ts := fillK s.ts k } g off a c G ∧ Chg F w0 w
theorem fillK_on {ts : List ST} {k : Nat} (j : Nat) (h : onI (fillK ts k) k = some j) : fillK ts (k + 1) = fillK ts k := by
  show (match onI (fillK ts k) k with | some _ => _ | none => _) = _
  rw [h]
theorem fillK_no {ts : List ST} {k : Nat} (h : onI (fillK ts k) k = none) (hb : bestI (fillK ts k) k = none) : fillK ts (k + 1) = fillK ts k := by
  show (match onI (fillK ts k) k with | some _ => _ | none => _) = _
  rw [h]
  show (match bestI (fillK ts k) k with | none => _ | some _ => _) = _
  rw [hb]
theorem fillK_to {ts : List ST} {k : Nat} (i : Nat) (h : onI (fillK ts k) k = none) (hb : bestI (fillK ts k) k = some i) : fillK ts (k + 1) = upd (fillK ts k) i (fun x => { x with cpu := k }) := by
  show (match onI (fillK ts k) k with | some _ => _ | none => _) = _
  rw [h]
  show (match bestI (fillK ts k) k with | none => _ | some _ => _) = _
  rw [hb]
set_option maxHeartbeats 1000000 in
theorem sfill_ok (w : World) (F : Nat → Prop) (p : Nat) (s : SR) (g off : Nat) (a : Option Addr) (c : Nat) (G : Option Nat) (h : RA w F p s g off a c G) (m : Int) (hok : SOk m s) :
    Calls Tryz.prog 142 #[.pointer (some ⟨p, 0, none⟩)] w fun e w' => e = .returned (.tuple #[]) ∧ RA w' F p s.fill g off a c G ∧ Chg F w w' := by
  have c0 := h.c0
  have n4 := hok.n2
  have OK := hid hok
  have I0 : Hid (FilS F p s g off a c G w 0 w) := hid ⟨h, Chg.refl _ _⟩
  clear h hok
  go_enter Tryz.func142, Tryz.ntmps142
  go_wp2
  go_loopw [8] (fun s8 wr => ∃ k : Nat, k ≤ s.n ∧ s8 = .int .i64 k ∧ Hid (FilS F p s g off a c G w k wr)) (fun s8 _ => s.n - (intOf s8).toNat)
  case atStart => exact ⟨0, by omega, rfl, I0⟩
  case round =>
    obtain ⟨k, hk, rfl, hJ⟩ := hrel
    clear I0
    by_cases hlt : k < s.n
    · obtain ⟨j1, j2⟩ := id hJ.out
      have hl : (fillK s.ts k).length ≤ 1000 := by rw [fillK_len]; exact OK.out.len
      have ON := hid (son_ok wr F p _ g off a c G j1 hl k)
      have hpin : ∀ x ∈ fillK s.ts k, x.pin < 16 := fun x hx => (fillK_ok OK.out.each k (by omega) x hx).pi
      have BEST := hid (sbest_ok wr F p _ g off a c G j1 hl hpin k (by omega))
      have J1 := hid j1
      have J2 := hid j2
      have F1 := hid (@fillK_on s.ts k)
      have F2 := hid (@fillK_no s.ts k)
      have F3 := hid (@fillK_to s.ts k)
      clear j1 j2 hl hpin hJ
      change Hid (Calls _ _ _ _ fun e w' => e = .returned (elV g off (onI (fillK s.ts k) k)) ∧ wr = w') at ON
      change Hid (Calls _ _ _ _ fun e w' => e = .returned (elV g off (bestI (fillK s.ts k) k)) ∧ ∃ q, w' = wr.drewN q) at BEST
      cases hon : onI (fillK s.ts k) k with
      | some j =>
        rw [hon] at ON
        have E := hid (F1.out _ hon)
        have HZ : Hid (FilS F p s g off a c G w (k + 1) wr) := hid (by unfold FilS; rw [E.out]; exact ⟨J1.out, J2.out⟩)
        unfold elV at ON
        clear hon F1 F2 F3 BEST
        go_wp2_with fail
        refine ON.out.mono ?_
        rintro e w1 ⟨rfl, hw⟩
        subst hw
        go_wp2
        go_roundw
        case rel => exact ⟨k + 1, by omega, by go_num, HZ⟩
        case measure => simp [intOf]; omega
      | none =>
        rw [hon] at ON
        unfold elV at ON
        cases hb : bestI (fillK s.ts k) k with
        | none =>
          rw [hb] at BEST
          have E := hid (F2.out hon hb)
          have HZ : Hid (∀ q, FilS F p s g off a c G w (k + 1) (wr.drewN q)) := hid (fun q => by unfold FilS; rw [E.out]; exact ⟨J1.out.drewN q, J2.out.drewN q⟩)
          unfold elV at BEST
          clear hon hb F1 F2 F3
          go_wp2_with fail
          refine ON.out.mono ?_
          rintro e w1 ⟨rfl, hw⟩
          subst hw
          go_wp2_with fail
          refine BEST.out.mono ?_
          rintro e w2 ⟨rfl, q, rfl⟩
          go_wp2
          go_roundw
          case rel => exact ⟨k + 1, by omega, by go_num, HZ.out q⟩
          case measure => simp [intOf]; omega
        | some i =>
          rw [hb] at BEST
          obtain ⟨_, x, hx, _⟩ := bestK_lt hb
          have E := hid (F3.out _ hon hb)
          have HZ : Hid (∀ q, FilS F p s g off a c G w (k + 1) ((wr.drewN q).setCell ⟨g, off + i * 15 + 14, none⟩ (.int .i64 k))) := hid (fun q => by
            unfold FilS
            rw [E.out, upd_of hx]
            exact ⟨(J1.out.drewN q).put (y := { x with cpu := k }) hx (j := 14) (by omega) rfl, (J2.out.drewN q).setCell (p := ⟨g, off + i * 15 + 14, none⟩) (.inl (J1.out.gF (i := i) (x := x) hx)) _⟩)
          have X14 : Hid (∀ q, (wr.drewN q).cell? ⟨g, off + i * 15 + 14, none⟩ = some (.int .i64 x.cpu)) := hid (fun q => (J1.out.drewN q).cell (i := i) (x := x) hx 14 (by omega))
          have FR : Hid (∀ q, (wr.drewN q).frozen? ⟨g, off + i * 15 + 14, none⟩ = false) := hid (fun q => (J1.out.drewN q).free (by have := (List.getElem?_eq_some_iff.1 hx).1; show 0 < (fillK s.ts k).length; omega) _)
          unfold elV at BEST
          clear hon hb hx F1 F2 F3
          go_wp2_with fail
          refine ON.out.mono ?_
          rintro e w1 ⟨rfl, hw⟩
          subst hw
          go_wp2_with fail
          refine BEST.out.mono ?_
          rintro e w2 ⟨rfl, q, rfl⟩
          have x14 := X14.out q
          have fr := FR.out q
          go_wp2
          go_roundw
          case rel => exact ⟨k + 1, by omega, by go_num, HZ.out q⟩
          case measure => simp [intOf]; omega
    · obtain rfl : k = s.n := by omega
      go_wp2
      go_end0
      exact ⟨rfl, hJ.out.1, hJ.out.2⟩
end Go.Proofs.YtjllklddjkkddaaGreatDoor
namespace Go.Proofs.YtjllklddjkkddaaGreatDoor
open Go.ChangeShapes Go.WideShapes Go.ChangeAt Go.RowKit
set_option linter.unusedVariables false
/-- What a call makes of a run, and what it answers. -/
def PS (F : Nat → Prop) (p : Nat) (s' : SR) (r : Int) (w : World) (e : Ending) (w' : World) : Prop := e = .returned (.int .i64 r) ∧ ∃ F', RunAt w' F' p s' ∧ Chg F w w' ∧ Grew w.heap.size F F'
theorem ps_same {w w' : World} {F : Nat → Prop} {p : Nat} {s : SR} {r : Int} (h : RunAt w F p s) (q : Nat) : PS F p s r w (.returned (.int .i64 r)) (w.drewN q) := ⟨rfl, F, h.drewN q, (Chg.refl _ _).drewN q, Grew.refl _ _⟩
theorem ps_ra {w w' : World} {F : Nat → Prop} {p : Nat} {s : SR} {r : Int} {g off : Nat} {a : Option Addr} {c : Nat} {G : Option Nat} (h : RA w' F p s g off a c G) (hc : Chg F w w') : PS F p s r w (.returned (.int .i64 r)) w' := ⟨rfl, F, ⟨g, off, a, c, G, h⟩, hc, Grew.refl _ _⟩
theorem fnd_get {s : SR} {t : Int} {i : Nat} (h : fndI s.ts t = some i) : ∃ x, s.ts[i]? = some x ∧ x.t = t := by
  obtain ⟨x, h1, h2, _⟩ := idx_get h
  exact ⟨x, h1, of_decide_eq_true h2⟩
theorem on_get {s : SR} {t : Int} {i : Nat} (h : onI s.ts t = some i) : ∃ x, s.ts[i]? = some x ∧ x.cpu = t := by
  obtain ⟨x, h1, h2, _⟩ := idx_get h
  exact ⟨x, h1, of_decide_eq_true h2⟩
theorem snew_ok (w : World) (n : Nat) (h1 : 1 ≤ n) (h4 : n ≤ 4) : Calls Tryz.prog 31 #[.int .i64 n] w fun e w' => ∃ F p, e = .returned (.tuple #[.pointer (some ⟨p, 0, none⟩), .int .i64 0]) ∧ RunAt w' F p ⟨n, 0, 0, []⟩ ∧ Chg Nil w w' ∧ Grew w.heap.size Nil F := by
  go_enter Tryz.func31, Tryz.ntmps31
  go_wp2
  go_ret2
  refine ⟨One w.heap.size, _, rfl, ⟨0, 0, none, 0, none, Blk.new w _ _, Sl.empty _ _ _ _, (fun h => absurd h (by simp)), rfl, (fun g h => by cases h), ?_⟩, (Chg.refl _ _).alloc _, ?_⟩
  · intro k hk; rw [show k = w.heap.size from hk]; simp
  · intro k hk; exact .inr (Nat.le_of_eq (show k = w.heap.size from hk).symm)
/-- Who runs there. -/
def pickV (s : SR) (cpu : Int) : Value := match onI s.ts cpu with
  | none => .tuple #[.int .i64 0, .int .i64 4]
  | some i => match s.ts[i]? with
    | none => .tuple #[.int .i64 0, .int .i64 4]
    | some x => .tuple #[.int .i64 x.t, .int .i64 0]
theorem pick_none {s : SR} {cpu : Int} (h : onI s.ts cpu = none) : pickV s cpu = .tuple #[.int .i64 0, .int .i64 4] := by unfold pickV; rw [h]
theorem pick_some {s : SR} {cpu : Int} {i : Nat} {x : ST} (h : onI s.ts cpu = some i) (hx : s.ts[i]? = some x) : pickV s cpu = .tuple #[.int .i64 x.t, .int .i64 0] := by unfold pickV; rw [h]; show (match s.ts[i]? with | none => _ | some x => _) = _; rw [hx]
/-- Is it ready? -/
def readyV (s : SR) (t : Int) : Value := match s.who t with
  | none => .tuple #[.bool false, .int .i64 4]
  | some (i, x) => .tuple #[.bool x.r, .int .i64 0]
theorem sblock_any (w : World) (F : Nat → Prop) (p : Nat) (s : SR) (h : RunAt w F p s) (m : Int) (hok : SOk m s) (t : Int) :
    Calls Tryz.prog 189 #[.pointer (some ⟨p, 0, none⟩), .int .i64 t] w (PS F p (s.doBlock t).1 (s.doBlock t).2 w) := by
  have HR := hid h
  obtain ⟨g, off, a, c, G, h⟩ := h
  have FN := hid (sfind_ok w F p s g off a c G h hok.len t)
  have H := hid h
  have OK := hid hok
  clear hok h
  cases hf : fndI s.ts t with
  | none =>
    have E : Hid (s.doBlock t = (s, 4)) := hid (by unfold SR.doBlock; rw [who_none hf])
    rw [hf] at FN
    rw [E.out]
    unfold elV at FN
    clear hf
    go_enter Tryz.func189, Tryz.ntmps189
    go_wp2_with fail
    refine FN.out.mono ?_
    rintro e w1 ⟨rfl, hw⟩
    subst hw
    go_wp2
    go_ret
    exact ps_same (w' := w) HR.out 0
  | some i =>
    rw [hf] at FN
    obtain ⟨x, hx, _⟩ := fnd_get hf
    have x12 := H.out.cell hx 12 (by omega)
    have x14 := H.out.cell hx 14 (by omega)
    have f12 := H.out.free (by have := (List.getElem?_eq_some_iff.1 hx).1; omega) (off + i * 15 + 12)
    have f14 := H.out.free (by have := (List.getElem?_eq_some_iff.1 hx).1; omega) (off + i * 15 + 14)
    simp only [stCells, List.getElem?_cons_succ, List.getElem?_cons_zero] at x12 x14
    unfold elV at FN
    cases hr : x.r with
    | false =>
      have E : Hid (s.doBlock t = (s, 8)) := hid (by unfold SR.doBlock; rw [who_some hf hx]; simp [hr])
      rw [E.out]
      rw [hr] at x12
      clear hf hx hr
      go_enter Tryz.func189, Tryz.ntmps189
      go_wp2_with fail
      refine FN.out.mono ?_
      rintro e w1 ⟨rfl, hw⟩
      subst hw
      go_wp2
      go_ret
      exact ps_same (w' := w) HR.out 0
    | true =>
      have E : Hid (s.doBlock t = (s.block i, 0)) := hid (by unfold SR.doBlock; rw [who_some hf hx]; simp [hr])
      rw [E.out]
      rw [hr] at x12
      have D1 := H.out.put (y := { x with r := false }) (u := .bool false) hx (j := 12) (by omega) rfl
      have D2 := D1.put (i := i) (x := { x with r := false }) (y := { x with r := false, cpu := -1 }) (u := .int .i64 (-1)) (set_get hx) (j := 14) (by omega) rfl
      have FL := hid (sfill_ok _ F p _ g off a c G D2 m (by
        have := OK.out.upd (i := i) (f := fun x => { x with r := false, cpu := -1 }) (Int.le_refl _) (fun x _ hx => hx.off)
        rw [upd_of hx] at this
        show SOk m { s with ts := (s.ts.set i _).set i _ }
        rw [set_set]
        exact this))
      have FE : Hid (({ s with ts := (s.ts.set i { x with r := false }).set i { x with r := false, cpu := -1 } } : SR).fill = s.block i) := hid (by unfold SR.block; rw [upd_of hx, set_set])
      have C := hid (((Chg.refl F w).setCell (p := ⟨g, off + i * 15 + 12, none⟩) (.inl (H.out.gF hx)) (.bool false)).setCell (p := ⟨g, off + i * 15 + 14, none⟩) (.inl (H.out.gF hx)) (.int .i64 (-1)))
      clear hf hx hr D1 D2
      go_enter Tryz.func189, Tryz.ntmps189
      go_wp2_with fail
      refine FN.out.mono ?_
      rintro e w1 ⟨rfl, hw⟩
      subst hw
      go_wp2_with fail
      refine FL.out.mono ?_
      rintro e w2 ⟨rfl, h1, h2⟩
      replace h1 := hid h1
      replace h2 := hid h2
      go_wp2
      go_ret
      have h3 := h1.out
      rw [← FE.out]
      exact ps_ra h3 (C.out.trans h2.out (fun _ _ h => h))
end Go.Proofs.YtjllklddjkkddaaGreatDoor
namespace Go.Proofs.YtjllklddjkkddaaGreatDoor
open Go.ChangeShapes Go.WideShapes Go.ChangeAt Go.RowKit
set_option linter.unusedVariables false
theorem valB_bd {cl v : Int} (h : valB cl v = true) : 1 ≤ cl ∧ cl ≤ 2 ∧ 0 ≤ v ∧ v ≤ 100 ∧ (cl = 1 → 1 ≤ v) := by
  unfold valB at h
  split at h
  · have := of_decide_eq_true h; omega
  · split at h
    · have := of_decide_eq_true h; omega
    · cases h
end Go.Proofs.YtjllklddjkkddaaGreatDoor
