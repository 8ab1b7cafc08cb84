/- Contracts of package fair where groups are: its layout in memory. No condition. -/
import Derived.Test.YtpafafleepcjdaaFair4
import Derived.Test.YtpafafleepcjdaaMapR
namespace Go.Proofs.Ytpafafleepcjdaa
open Go.ChangeShapes Go.WideShapes Go.ChangeAt Go.RowKit
set_option linter.unusedVariables false
/-- The groups: in which block each lies, its weight, its virtual time. -/
structure GS where
  q : Nat → Option Nat
  w : Nat → Nat
  v : Nat → Nat
def ptrV (q : Nat) : Value := .pointer (some ⟨q, 0, none⟩)
def gmap (S : GS) (i : Int) : Option Value := if 0 ≤ i then (S.q i.toNat).map ptrV else none
def grpCells (S : GS) (g : Nat) : List Value := [.int .i64 (S.w g : Nat), .int .i64 (S.v g : Nat)]
theorem gmap_nat (S : GS) (g : Nat) : gmap S (g : Int) = (S.q g).map ptrV := by
  unfold gmap
  rw [if_pos (by omega)]
  rfl
/-- A class of tasks with groups; its blocks are all of F. -/
structure GA (w : World) (F : Nat → Prop) (p : Nat) (ts : List FT) (S : GS) (a : Option Addr) (c : Nat) (G : Option Nat) (mb n : Nat) : Prop where
  blk : Blk w p 50 [.slice a ts.length c, .map (some mb)]
  sl : Sl w 45 5 a ts.length c (ts.flatMap ftCells) G
  mp : MpAt w Try.prog 3 mb n (gmap S)
  gb : ∀ g q, S.q g = some q → Blk w q 52 (grpCells S g)
  gf : ∀ g q, S.q g = some q → F q ∧ q ≠ mb
  inj : ∀ g h q, S.q g = some q → S.q h = some q → g = h
  fp : F p
  fm : F mb
  fg : ∀ g, G = some g → F g
  nm : G ≠ some mb
  pm : mb ≠ p
  lt : ∀ k, F k → k < w.heap.size
def GrpAt (w : World) (F : Nat → Prop) (p : Nat) (ts : List FT) (S : GS) (m : Nat) : Prop := ∃ a c G mb n, n ≤ m ∧ GA w F p ts S a c G mb n
section
variable {w w' : World} {F H : Nat → Prop} {p : Nat} {ts : List FT} {S : GS} {a : Option Addr} {c : Nat} {G : Option Nat} {mb n : Nat}
theorem GA.chg (h : GA w F p ts S a c G mb n) (hc : Chg H w w') (hd : Dj F H) : GA w' F p ts S a c G mb n :=
  ⟨h.blk.chg hc (hd p h.fp), h.sl.chg hc (fun g hg => hd g (h.fg g hg)), h.mp.chg hc (hd mb h.fm), fun g q hq => (h.gb g q hq).chg hc (hd q (h.gf g q hq).1), h.gf, h.inj, h.fp, h.fm, h.fg, h.nm, h.pm, fun k hk => Nat.lt_of_lt_of_le (h.lt k hk) hc.size⟩
theorem GA.nil (h : GA w F p ts S a c G mb n) (hc : Chg Nil w w') : GA w' F p ts S a c G mb n := h.chg hc (fun _ _ h => h)
theorem GA.drewN (h : GA w F p ts S a c G mb n) (k : Nat) : GA (w.drewN k) F p ts S a c G mb n := h.nil ((Chg.refl Nil w).drewN k)
theorem GA.c0 (h : GA w F p ts S a c G mb n) : w.cell? ⟨p, 0, none⟩ = some (.slice a ts.length c) := h.blk.cell 0
theorem GA.c1 (h : GA w F p ts S a c G mb n) : w.cell? ⟨p, 1, none⟩ = some (.map (some mb)) := h.blk.cell 1
theorem GA.ne (h : GA w F p ts S a c G mb n) : G ≠ some p := h.sl.ne_blk h.blk (by decide)
theorem GA.qne (h : GA w F p ts S a c G mb n) {g q : Nat} (hq : S.q g = some q) : q ≠ p ∧ G ≠ some q :=
  ⟨(h.gb g q hq).ne h.blk (by decide), h.sl.ne_blk (h.gb g q hq) (by decide)⟩
theorem GA.at (h : GA w F p ts S a c G mb n) (h0 : 0 < ts.length) : ∃ g off, a = some ⟨g, off, none⟩ ∧ G = some g ∧ g < w.heap.size ∧ g ≠ p := by
  obtain ⟨g, off, h1, h2, h3⟩ := h.sl.block h0
  exact ⟨g, off, h1, h2, h3, fun he => h.ne (by rw [h2, he])⟩
theorem GA.cell {g off : Nat} (h : GA w F p ts S (some ⟨g, off, none⟩) c G mb n) {i : Nat} {x : FT} (hx : ts[i]? = some x) (j : Nat) (hj : j < 5) : w.cell? ⟨g, off + i * 5 + j, none⟩ = (ftCells x)[j]? := by
  have hi : i < ts.length := (List.getElem?_eq_some_iff.1 hx).1
  obtain ⟨g', off', r1, r2, r3, r4⟩ := h.sl.rd.elem ft_len rfl (by omega)
  injection r1 with r1
  injection r1 with r1 r1'
  subst r1; subst r1'
  rw [r4 i hi j hj, (List.getElem?_eq_some_iff.1 hx).2]
theorem GA.free {g off : Nat} (h : GA w F p ts S (some ⟨g, off, none⟩) c G mb n) (h0 : 0 < ts.length) (k : Nat) : w.frozen? ⟨g, k, none⟩ = false := h.sl.free k h0
theorem GA.put {g off : Nat} (h : GA w F p ts S (some ⟨g, off, none⟩) c (some g) mb n) {i j : Nat} {x y : FT} {u : Value} (hx : ts[i]? = some x) (hj : j < 5) (hy : (ftCells x).set j u = ftCells y) :
    GA (w.setCell ⟨g, off + i * 5 + j, none⟩ u) F p (ts.set i y) S (some ⟨g, off, none⟩) c (some g) mb n := by
  have hi : i < ts.length := (List.getElem?_eq_some_iff.1 hx).1
  have hne : p ≠ g := fun he => h.ne (by rw [he])
  have hlt : i * 5 + j < ts.length * 5 := by omega
  refine ⟨?_, ?_, ?_, fun k q hq => (h.gb k q hq).far (p := ⟨g, _, none⟩) (fun he => (h.qne hq).2 (by rw [show q = g from he])) u, h.gf, h.inj, h.fp, h.fm, h.fg, h.nm, h.pm, fun k hk => by simpa [World.setCell] using h.lt k hk⟩
  · rw [List.length_set]; exact h.blk.far (p := ⟨g, _, none⟩) hne u
  · have := h.sl.putn hlt u
    rw [flat_set ftCells 5 ft_len ts i j x y u hx hj hy] at this
    rw [List.length_set, Nat.add_assoc]
    exact this
  · exact h.mp.chg ((Chg.refl (One g) w).setCell (p := ⟨g, _, none⟩) (.inl (show One g g from rfl)) u) (fun he => h.nm (by rw [show mb = g from he]))
/-- The virtual time of a group is another. -/
def GS.setV (S : GS) (g v : Nat) : GS := { S with v := fun i => if i = g then v else S.v i }
theorem GA.putv (h : GA w F p ts S a c G mb n) {g q : Nat} (hq : S.q g = some q) (v : Nat) :
    GA (w.setCell ⟨q, 1, none⟩ (.int .i64 (v : Int))) F p ts (S.setV g v) a c G mb n := by
  obtain ⟨q1, q2⟩ := h.qne hq
  have hc : Chg (One q) w (w.setCell ⟨q, 1, none⟩ (.int .i64 (v : Int))) := (Chg.refl (One q) w).setCell (p := ⟨q, 1, none⟩) (.inl (show One q q from rfl)) _
  refine ⟨h.blk.chg hc (fun he => q1 (show p = q from he).symm), h.sl.chg hc (fun k hk he => q2 (by rw [hk, show k = q from he])), ?_, ?_, h.gf, h.inj, h.fp, h.fm, h.fg, h.nm, h.pm, fun k hk => by simpa [World.setCell] using h.lt k hk⟩
  · exact h.mp.chg hc (fun he => (h.gf g q hq).2 (show mb = q from he).symm)
  · intro k r hr
    by_cases hk : k = g
    · subst hk
      have hrq : r = q := by have := hr.symm.trans hq; injection this
      subst hrq
      have := (h.gb k r hr).set 1 (.int .i64 (v : Int))
      have e : grpCells (S.setV k v) k = (grpCells S k).set 1 (.int .i64 (v : Int)) := by simp [grpCells, GS.setV]
      rw [e]
      exact this
    · have hrq : r ≠ q := fun he => hk (h.inj k g q (by rw [← he]; exact hr) hq)
      have e : grpCells (S.setV g v) k = grpCells S k := by simp [grpCells, GS.setV, hk]
      rw [e]
      exact (h.gb k r hr).chg hc hrq
theorem GA.look (h : GA w F p ts S a c G mb n) (g : Nat) (h2 : g ≤ 100) : (Instr.lookup 48 (.map (some mb)) (.int .i64 (g : Int)) false).run Try.prog w = .ok (match S.q g with | some q => ptrV q | none => .pointer none) w := by
  have := h.mp.look (t := 48) (e := 46) Try.underlying3 Try.underlying48 (zeroPG w) (g : Int) (wf_key (by omega) (by omega))
  rw [gmap_nat] at this
  cases hq : S.q g with
  | none => rw [hq] at this; exact this
  | some q => rw [hq] at this; exact this
theorem GA.look_no (h : GA w F p ts S a c G mb n) (g : Nat) (h2 : g ≤ 100) (hq : S.q g = none) : (Instr.lookup 48 (.map (some mb)) (.int .i64 (g : Int)) false).run Try.prog w = .ok (.pointer none) w := by
  have := h.look g h2
  rw [hq] at this
  exact this
theorem GA.look_yes (h : GA w F p ts S a c G mb n) (g : Nat) (h2 : g ≤ 100) {q : Nat} (hq : S.q g = some q) : (Instr.lookup 48 (.map (some mb)) (.int .i64 (g : Int)) false).run Try.prog w = .ok (.pointer (some ⟨q, 0, none⟩)) w := by
  have := h.look g h2
  rw [hq] at this
  exact this
end
/-- A group that is new. -/
def GS.add (S : GS) (g q wt : Nat) : GS := ⟨fun i => if i = g then some q else S.q i, fun i => if i = g then wt else S.w i, fun i => if i = g then 0 else S.v i⟩
theorem gmap_add (S : GS) (g q wt : Nat) : gmap (S.add g q wt) = updM (gmap S) (g : Int) (some (ptrV q)) := by
  funext i
  unfold updM gmap GS.add
  by_cases hi : i = (g : Int)
  · subst hi
    rw [if_pos (by omega), if_pos rfl]
    simp
  · rw [if_neg hi]
    by_cases h0 : 0 ≤ i
    · rw [if_pos h0, if_pos h0]
      have : i.toNat ≠ g := by omega
      simp [this]
    · rw [if_neg h0, if_neg h0]
/-- No group. -/
def gs0 : GS := ⟨fun _ => none, fun _ => 0, fun _ => 0⟩
theorem grp_of_fair {w : World} {F : Nat → Prop} {p : Nat} {ts : List FT} (h : FairAt w F p ts) : GrpAt w F p ts gs0 0 := by
  obtain ⟨a, c, G, mb, h⟩ := h
  have e : gmap gs0 = fun _ => none := by funext i; unfold gmap; split <;> rfl
  exact ⟨a, c, G, mb, 0, by omega, h.blk, h.sl, by rw [e]; exact h.mp, (fun g q hq => by cases hq), (fun g q hq => by cases hq), (fun g k q hq => by cases hq), h.fp, h.fm, h.fg, h.nm, h.pm, h.lt⟩
set_option maxHeartbeats 1000000 in
theorem ggroup_ok (w : World) (F : Nat → Prop) (p : Nat) (ts : List FT) (S : GS) (m : Nat) (h : GrpAt w F p ts S m) (hm : m ≤ 100) (g wt : Nat) (g1 : 1 ≤ g) (g2 : g ≤ 8) (w1 : 1 ≤ wt) (w2 : wt ≤ 100) (hg : S.q g = none) :
    Calls Try.prog 16 #[.pointer (some ⟨p, 0, none⟩), .int .i64 (g : Int), .int .i64 (wt : Int)] w fun e w' => ∃ F' q, e = .returned (.int .i64 0) ∧ GrpAt w' F' p ts (S.add g q wt) (m + 1) ∧ Chg F w w' ∧ Grew w.heap.size F F' := by
  obtain ⟨a, c, G, mb, n, hn, h⟩ := h
  have d1 := h.c1
  have lk := h.look_no g (by omega) hg
  have H := hid h
  have HG := hid hg
  have B1 := Blk.new w 52 [.int .i64 (wt : Int), .int .i64 0]
  have HB := hid B1
  have e1 := (h.nil ((Chg.refl Nil w).alloc (.cells #[.int .i64 (wt : Int), .int .i64 0] 52))).c1
  have HM := hid (h.mp.alloc (.cells #[.int .i64 (wt : Int), .int .i64 0] 52))
  clear h hg B1
  go_enter Try.func16, Try.ntmps16
  go_wp2_with (at_mapUpdate; refine wpList_store _ rfl _ _ _ 48 rfl (k := 3) (e := 46) Try.underlying3 Try.underlying48 mb n (gmap S) rfl HM.out (by omega) (g : Int) (ptrV w.heap.size) rfl rfl (wf_key (by omega) (by omega)) ?_; intro w3 m1 m2; replace m1 := hid m1; replace m2 := hid m2)
  go_ret
  have q1 : w.heap.size ≠ mb := fun he => by have := H.out.mp.lt; omega
  refine ⟨Or2 F (One w.heap.size), w.heap.size, rfl, ⟨a, c, G, mb, n + 1, by omega, ?_⟩, ?_, ?_⟩
  · have ha : Chg Nil w (w.alloc (.cells #[.int .i64 (wt : Int), .int .i64 0] 52)) := (Chg.refl Nil w).alloc _
    have H1 := H.out.nil ha
    have hpm := H.out.pm
    have hnm := H.out.nm
    refine ⟨H1.blk.chg m2.out (fun he => hpm (show p = mb from he).symm), H1.sl.chg m2.out (fun k hk he => hnm (by rw [hk, show k = mb from he])), by rw [gmap_add]; exact m1.out, ?_, ?_, ?_, .inl H.out.fp, .inl H.out.fm, fun k hk => .inl (H.out.fg k hk), hnm, hpm, ?_⟩
    · intro k q hq
      by_cases hk : k = g
      · subst hk
        have e : q = w.heap.size := by simp [GS.add] at hq; exact hq.symm
        subst e
        have e2 : grpCells (S.add k w.heap.size wt) k = [.int .i64 (wt : Int), .int .i64 0] := by simp [grpCells, GS.add]
        rw [e2]
        exact HB.out.chg m2.out (fun he => q1 he)
      · have hq' : S.q k = some q := by simpa [GS.add, hk] using hq
        have e2 : grpCells (S.add g w.heap.size wt) k = grpCells S k := by simp [grpCells, GS.add, hk]
        rw [e2]
        exact (H1.gb k q hq').chg m2.out (fun he => (H.out.gf k q hq').2 he)
    · intro k q hq
      by_cases hk : k = g
      · subst hk
        have e : q = w.heap.size := by simp [GS.add] at hq; exact hq.symm
        subst e
        exact ⟨.inr rfl, q1⟩
      · have hq' : S.q k = some q := by simpa [GS.add, hk] using hq
        exact ⟨.inl (H.out.gf k q hq').1, (H.out.gf k q hq').2⟩
    · intro k l q hk hl
      have key : ∀ k, (S.add g w.heap.size wt).q k = some q → (k = g ∧ q = w.heap.size) ∨ (k ≠ g ∧ S.q k = some q ∧ q < w.heap.size) := fun k hk => by
        by_cases hkg : k = g
        · subst hkg
          exact .inl ⟨rfl, by simp [GS.add] at hk; exact hk.symm⟩
        · have hq' : S.q k = some q := by simpa [GS.add, hkg] using hk
          exact .inr ⟨hkg, hq', (H.out.gb k q hq').lt⟩
      rcases key k hk with ⟨k1, k2⟩ | ⟨k1, k2, k3⟩
      · rcases key l hl with ⟨l1, l2⟩ | ⟨l1, l2, l3⟩
        · rw [k1, l1]
        · omega
      · rcases key l hl with ⟨l1, l2⟩ | ⟨l1, l2, l3⟩
        · omega
        · exact H.out.inj k l q k2 l2
    · rintro k (hk | hk)
      · have := H.out.lt k hk
        have := m2.out.size
        simp at this
        omega
      · have := m2.out.size
        simp at this
        rw [show k = w.heap.size from hk]
        omega
  · exact ((Chg.refl F w).alloc _).trans m2.out (fun k _ hk => by rw [show k = mb from hk]; exact H.out.fm)
  · rintro k (hk | hk)
    · exact .inl hk
    · exact .inr (Nat.le_of_eq (show k = w.heap.size from hk).symm)
end Go.Proofs.Ytpafafleepcjdaa
