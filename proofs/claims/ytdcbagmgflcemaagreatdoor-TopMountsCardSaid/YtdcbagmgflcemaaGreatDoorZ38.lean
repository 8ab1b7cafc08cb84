/- dir.List: the entries of a directory. Conditions: at most two entries, by rising names, of one letter each · dir.List: bytes as entries. Conditions: at most two entries, by rising names, of one letter each · dir.Find, dir.Put. Conditions: a directory of at most two entries; names of one letter; what is put lies behind them all. -/
import Derived.Test.YtdcbagmgflcemaaGreatDoorZ37
namespace Go.Proofs.YtdcbagmgflcemaaGreatDoor
open Go.ChangeShapes Go.WideShapes Go.ChangeAt Go.RowKit
set_option linter.unusedVariables false
/-- What the closure that lists has: how many there are, itself, the entries so far, the bytes. -/
structure LsA (w : World) (B : Nat) (q1 q2 q3 q4 n : Nat) (a : Option Addr) (bn c : Nat) (R : Nat → Prop) (bs : List Int) (l : List En) (s : Value) (G : Option Nat) : Prop where
  b1 : Blk w q1 3 [.int .i64 (n : Int)]
  b2 : Blk w q2 141 [.func (.func 301) #[] #[.pointer (some ⟨q1, 0, none⟩), .pointer (some ⟨q2, 0, none⟩), .pointer (some ⟨q3, 0, none⟩), .pointer (some ⟨q4, 0, none⟩)]]
  b3 : Blk w q3 29 [s]
  sl : ∃ oa oc, s = .slice oa l.length oc ∧ Sl w 389 2 oa l.length oc (enL l) G
  b4 : Blk w q4 22 [.slice a bn c]
  rd : Rd w R 1 a bn c (bys bs)
  ne : q1 ≠ q3 ∧ q2 ≠ q3 ∧ q4 ≠ q3
  nb : ∀ g, G = some g → B ≤ g ∧ g ≠ q1 ∧ g ≠ q2 ∧ g ≠ q3 ∧ g ≠ q4
  rb : ∀ g, R g → g < B
  qb : B ≤ q3
  lt : B ≤ w.heap.size
set_option maxRecDepth 100000 in
theorem lsleaf {w : World} {B q1 q2 q3 q4 n : Nat} {a : Option Addr} {bn c : Nat} {R : Nat → Prop} {bs : List Int} {l : List En} {s : Value} {G : Option Nat} (h : LsA w B q1 q2 q3 q4 n a bn c R bs l s G) (j : Int) (hj : (n : Int) ≤ j) :
    Calls Tryz.prog 301 #[.int .i64 j, .pointer (some ⟨q1, 0, none⟩), .pointer (some ⟨q2, 0, none⟩), .pointer (some ⟨q3, 0, none⟩), .pointer (some ⟨q4, 0, none⟩)] w fun e w' => e = .returned (.tuple #[]) ∧ w' = w := by
  have k1 := h.b1.cell 0
  simp only [List.getElem?_cons_zero] at k1
  have hj' : ¬ j < (n : Int) := by omega
  clear h
  go_enter Tryz.func301, Tryz.ntmps301
  go_wp2
  first | go_end0 | refine bodyPost_ret (results_none rfl _ _ _) rfl ?_
  exact ⟨rfl, rfl⟩
theorem LsA.step {w w' : World} {B q1 q2 q3 q4 n : Nat} {a : Option Addr} {bn c : Nat} {R : Nat → Prop} {bs : List Int} {l l' : List En} {s s' : Value} {G G' : Option Nat} (h : LsA w B q1 q2 q3 q4 n a bn c R bs l s G) (hc : Chg (fun k => k = q3 ∨ Opt G k) w w')
    (h3 : Blk w' q3 29 [s']) (hs : ∃ oa oc, s' = .slice oa l'.length oc ∧ Sl w' 389 2 oa l'.length oc (enL l') G') (hG : G' = G ∨ (∃ g, G' = some g ∧ w.heap.size ≤ g)) : LsA w' B q1 q2 q3 q4 n a bn c R bs l' s' G' := by
  have hn := h.ne
  have hnb := h.nb
  have l1 := h.b1.lt
  have l2 := h.b2.lt
  have l3 := h.b3.lt
  have l4 := h.b4.lt
  have hb := h.lt
  refine ⟨h.b1.chg hc ?_, h.b2.chg hc ?_, h3, hs, h.b4.chg hc ?_, h.rd.chg hc ?_, h.ne, ?_, h.rb, h.qb, Nat.le_trans hb hc.size⟩
  · rintro (hh | hh)
    · exact hn.1 hh
    · exact (hnb _ hh).2.1 rfl
  · rintro (hh | hh)
    · exact hn.2.1 hh
    · exact (hnb _ hh).2.2.1 rfl
  · rintro (hh | hh)
    · exact hn.2.2 hh
    · exact (hnb _ hh).2.2.2.2 rfl
  · rintro g _ hg (hh | hh)
    · have := h.rb g hg
      have := h.qb
      omega
    · have := h.rb g hg
      have := (hnb _ hh).1
      omega
  · intro g hg
    rcases hG with rfl | ⟨g', rfl, hlt⟩
    · exact hnb g hg
    · injection hg with hg
      subst hg
      exact ⟨by omega, by omega, by omega, by omega, by omega⟩
theorem enL_app (l : List En) (x : En) : enL (l ++ [x]) = enL l ++ En.row x := by simp [enL]
/-- What is left when an entry was listed. -/
theorem ls_after {w1 w2 w3 : World} {B q1 q2 q3 q4 n : Nat} {a : Option Addr} {bn c : Nat} {R : Nat → Prop} {bs : List Int} {l1 : List En} {s : Value} {G1 G' : Option Nat} (H1 : LsA w1 B q1 q2 q3 q4 n a bn c R bs l1 s G1) (x : En) (D2 : Chg Nil w1 w2) (p2 : Chg (Opt G1) w2 w3) {a' : Option Addr} {c' : Nat}
    (p1 : Sl w3 389 2 a' (l1.length + 1) c' (enL l1 ++ En.row x) G') (p3 : G' = G1 ∨ G' = some w2.heap.size) (B3 : Blk w3 q3 29 [s]) :
    LsA (w3.setCell ⟨q3, 0, none⟩ (.slice a' (l1.length + 1) c')) B q1 q2 q3 q4 n a bn c R bs (l1 ++ [x]) (.slice a' (l1.length + 1) c') G' ∧ Chg (fun k => B ≤ k) w1 (w3.setCell ⟨q3, 0, none⟩ (.slice a' (l1.length + 1) c')) := by
  have hnb := H1.nb
  have l3 := H1.b3.lt
  have hqb := H1.qb
  have hlt := H1.lt
  have hsz := D2.size
  have hG3 : G' ≠ some q3 := fun hh => by
    rcases p3 with p3 | p3
    · exact (hnb q3 (by rw [← p3]; exact hh)).2.2.2.1 rfl
    · rw [p3] at hh
      injection hh with hh
      omega
  have C3 : Chg (fun k => k = q3 ∨ Opt G1 k) w1 w3 := (D2.mono (fun _ _ h => h.elim)).trans p2 (fun k _ hk => .inr hk)
  have C4 : Chg (fun k => k = q3 ∨ Opt G1 k) w1 (w3.setCell ⟨q3, 0, none⟩ (.slice a' (l1.length + 1) c')) := C3.setCell (p := ⟨q3, 0, none⟩) (.inl (.inl rfl)) _
  refine ⟨H1.step C4 (B3.set 0 _) ⟨a', c', by rw [List.length_append]; rfl, ?_⟩ ?_, C4.mono (fun k hk hh => ?_)⟩
  · rw [enL_app, List.length_append]
    exact p1.set_far (p := ⟨q3, 0, none⟩) hG3 _
  · rcases p3 with p3 | p3
    · exact .inl p3
    · exact .inr ⟨_, p3, hsz⟩
  · rcases hh with hh | hh
    · omega
    · exact (hnb k hh).1
set_option maxRecDepth 100000 in
set_option maxHeartbeats 4000000 in
theorem lsnode {w : World} {B q1 q2 q3 q4 n : Nat} {a : Option Addr} {bn c : Nat} {R : Nat → Prop} {bs : List Int} {l : List En} {s : Value} {G : Option Nat} (h : LsA w B q1 q2 q3 q4 n a bn c R bs l s G) (j : Nat) (ji : Int) (hji : ji = (j : Int)) (hcase : (n = 1 ∧ j = 0 ∧ ji = 0 ∧ bn = 16) ∨ (n = 2 ∧ j = 1 ∧ ji = 1 ∧ bn = 32) ∨ (n = 2 ∧ j = 0 ∧ ji = 0 ∧ bn = 32)) (x : En) (hx : EnOk x) (hb : (bs.drop (16 * j)).take 16 = rowB x.c x.i) (l1 : List En) (hl1 : l1.length ≤ 1)
    (HL : Calls Tryz.prog 301 #[.int .i64 (2 * ji + 1), .pointer (some ⟨q1, 0, none⟩), .pointer (some ⟨q2, 0, none⟩), .pointer (some ⟨q3, 0, none⟩), .pointer (some ⟨q4, 0, none⟩)] w fun e w' => e = .returned (.tuple #[]) ∧ ∃ s1 G1, LsA w' B q1 q2 q3 q4 n a bn c R bs l1 s1 G1 ∧ Chg (fun k => B ≤ k) w w') :
    Calls Tryz.prog 301 #[.int .i64 ji, .pointer (some ⟨q1, 0, none⟩), .pointer (some ⟨q2, 0, none⟩), .pointer (some ⟨q3, 0, none⟩), .pointer (some ⟨q4, 0, none⟩)] w fun e w' => e = .returned (.tuple #[]) ∧ ∃ s2 G2, LsA w' B q1 q2 q3 q4 n a bn c R bs (l1 ++ [x]) s2 G2 ∧ Chg (fun k => B ≤ k) w w' := by
  have z1 := h.b1.cell 0
  have z2 := h.b2.cell 0
  simp only [List.getElem?_cons_zero] at z1 z2
  have HLL := hid HL
  have v0 : IntKind.i64.wrap 0 = 0 := IntWalk.i64_in _ (by omega)
  have v1 : IntKind.i64.wrap 1 = 1 := IntWalk.i64_in _ (by omega)
  have v2 : IntKind.i64.wrap 2 = 2 := IntWalk.i64_in _ (by omega)
  have v3 : IntKind.i64.wrap 3 = 3 := IntWalk.i64_in _ (by omega)
  have v4 : IntKind.i64.wrap 4 = 4 := IntWalk.i64_in _ (by omega)
  have hb' := hid hb
  have hx' := hid hx
  replace hji := hid hji
  replace hl1 := hid hl1
  clear h HL hb hx
  obtain ⟨rfl, rfl, rfl, rfl⟩ | ⟨rfl, rfl, rfl, rfl⟩ | ⟨rfl, rfl, rfl, rfl⟩ := hcase
  all_goals
    go_enter Tryz.func301, Tryz.ntmps301
    go_wp2_with fail
    refine HLL.out.mono ?_
    rintro e w1 ⟨rfl, s1, G1, A1, C1⟩
    obtain ⟨oa, oc, hs1, S1⟩ := A1.sl
    have A1' := A1
    subst hs1
    have y1 := A1.b1.cell 0
    have y2 := A1.b2.cell 0
    have y3 := A1.b3.cell 0
    have y4 := A1.b4.cell 0
    simp only [List.getElem?_cons_zero] at y1 y2 y3 y4
    have hlt3 := A1.b3.lt
    have HROW := hid (drow_ok w1.drew R a _ c bs (A1.rd.drewN 1) _ (by first | exact (by decide : 16 * 0 + 16 ≤ 16) | exact (by decide : 16 * 1 + 16 ≤ 32) | exact (by decide : 16 * 0 + 16 ≤ 32)) (by decide) x.c hx'.out.1 x.i hx'.out.2.2 hb'.out)
    rw [← hji.out] at HROW
    have H1 := hid A1
    have SS := hid S1
    have CC := hid C1
    clear A1 S1 C1 A1'
    go_upto_region 2 with fail
    go_region_law (first | (go_simp; go_at_call 269; refine HROW.out.mono ?_; rintro e w2 ⟨rfl, d2⟩; have e3 := (d2.cell (a := ⟨q3, 0, none⟩) hlt3 (fun h => h)).trans y3; have S2 := hid ((((SS.out.drewN 1).chg d2 (fun _ _ h => h))).alloc (.cells #[.string ⟨#[x.c]⟩, .int .i64 (x.i : Int)] 389)); have N2 := hid (Rd.of_blk (n := 1) (s := 2) (Blk.new w2 389 [.string ⟨#[x.c]⟩, .int .i64 (x.i : Int)]) rfl (by decide)); have B2 := hid (((H1.out.b3.drewN 1).chg d2 (fun h => h)).alloc (.cells #[.string ⟨#[x.c]⟩, .int .i64 (x.i : Int)] 389)); have g2 := B2.out.cell 0; simp only [List.getElem?_cons_zero] at g2; have L2 := hid (show w1.heap.size ≤ w2.heap.size from d2.size); have D2 := hid ((((Chg.refl Nil w1).drewN 1).trans d2 (fun _ _ h => h)).alloc (.cells #[.string ⟨#[x.c]⟩, .int .i64 (x.i : Int)] 389)); clear d2) | (refine step_append_sl rfl _ _ eEn rfl rfl rfl S2.out N2.out (enL_one [x]) (by have := hl1.out; omega) (by omega) ?_; intro a' c' w3 G' p1 p2 p3; have B3 := B2.out.chg p2 (fun hh => (H1.out.nb _ hh).2.2.2.1 rfl); have g3 := B3.cell 0; have f3 := B3.frozen 0; simp only [List.getElem?_cons_zero] at g3; replace B3 := hid B3; replace p1 := hid p1; replace p2 := hid p2; replace p3 := hid p3))
    all_goals
      obtain ⟨A4, C4⟩ := ls_after H1.out x D2.out p2.out p1.out p3.out B3.out
      have x2 := A4.b2.cell 0
      simp only [List.getElem?_cons_zero] at x2
      have LF := hid (fun (j : Int) hj => lsleaf A4 j hj)
      have A4' := hid A4
      have C4' := hid C4
      clear A4 C4 g3 f3 y1 y2 y3 y4 e3
      go_wp2_with fail
      refine (LF.out _ (by decide)).mono ?_
      rintro e w5 ⟨rfl, rfl⟩
      go_wp2
      first | go_end0 | refine bodyPost_ret (results_none rfl _ _ _) rfl ?_
      exact ⟨rfl, _, _, A4'.out, CC.out.trans C4'.out (fun _ _ h => h)⟩
end Go.Proofs.YtdcbagmgflcemaaGreatDoor
namespace Go.Proofs.YtdcbagmgflcemaaGreatDoor
open Go.ChangeShapes Go.WideShapes Go.ChangeAt Go.RowKit
set_option linter.unusedVariables false
theorem Rd.lows {w : World} {R : Nat → Prop} {s n c : Nat} {a : Option Addr} {xs : List Value} (h : Rd w R s a n c xs) : Rd w (fun k => k < w.heap.size) s a n c xs := by
  obtain ⟨h1, h2, h3, h4⟩ := h
  refine ⟨h1, h2, h3, fun hn => ?_⟩
  obtain ⟨g, off, r1, r2, r3, r4⟩ := h4 hn
  exact ⟨g, off, r1, r2, r2, r4⟩
/-- The closure's variables, laid. -/
theorem ls_start {w : World} {R : Nat → Prop} {a : Option Addr} {n bn c : Nat} {bs : List Int} (hr : Rd w R 1 a bn c (bys bs)) :
    ∀ V, V = (((w.alloc (.cells #[.slice a bn c] 22)).alloc (.cells #[.int .i64 (n : Int)] 3)).alloc (.cells #[.slice none 0 0] 29)).alloc (.cells #[.func (.func 301) #[] #[.pointer (some ⟨w.heap.size + 1, 0, none⟩), .pointer (some ⟨w.heap.size + 1 + 1 + 1, 0, none⟩), .pointer (some ⟨w.heap.size + 1 + 1, 0, none⟩), .pointer (some ⟨w.heap.size, 0, none⟩)]] 141) →
    LsA V w.heap.size (w.heap.size + 1) (w.heap.size + 1 + 1 + 1) (w.heap.size + 1 + 1) w.heap.size n a bn c (fun k => k < w.heap.size) bs [] (.slice none 0 0) none ∧ Chg Nil w V := by
  intro V hV
  subst hV
  have s1 : (w.alloc (.cells #[.slice a bn c] 22)).heap.size = w.heap.size + 1 := alloc_size _ _
  have s2 : ((w.alloc (.cells #[.slice a bn c] 22)).alloc (.cells #[.int .i64 (n : Int)] 3)).heap.size = w.heap.size + 1 + 1 := by rw [alloc_size, alloc_size]
  have s3 : (((w.alloc (.cells #[.slice a bn c] 22)).alloc (.cells #[.int .i64 (n : Int)] 3)).alloc (.cells #[.slice none 0 0] 29)).heap.size = w.heap.size + 1 + 1 + 1 := by rw [alloc_size, alloc_size, alloc_size]
  have B4 := Blk.new w 22 [.slice a bn c]
  have B1 := Blk.new (w.alloc (.cells #[.slice a bn c] 22)) 3 [.int .i64 (n : Int)]
  rw [s1] at B1
  have B3 := Blk.new ((w.alloc (.cells #[.slice a bn c] 22)).alloc (.cells #[.int .i64 (n : Int)] 3)) 29 [.slice none 0 0]
  rw [s2] at B3
  have B2 := Blk.new (((w.alloc (.cells #[.slice a bn c] 22)).alloc (.cells #[.int .i64 (n : Int)] 3)).alloc (.cells #[.slice none 0 0] 29)) 141 [.func (.func 301) #[] #[.pointer (some ⟨w.heap.size + 1, 0, none⟩), .pointer (some ⟨w.heap.size + 1 + 1 + 1, 0, none⟩), .pointer (some ⟨w.heap.size + 1 + 1, 0, none⟩), .pointer (some ⟨w.heap.size, 0, none⟩)]]
  rw [s3] at B2
  exact ⟨⟨(B1.alloc _).alloc _, B2, B3.alloc _, ⟨none, 0, rfl, Sl.empty _ _ _ _⟩, ((B4.alloc _).alloc _).alloc _, (((((Rd.lows hr).alloc _).alloc _).alloc _).alloc _), by omega, fun g hg => (by cases hg), fun g hg => hg, by omega, by rw [alloc_size, s3]; omega⟩, ((((Chg.refl Nil w).alloc _).alloc _).alloc _).alloc _⟩
set_option maxRecDepth 100000 in
set_option maxHeartbeats 2000000 in
theorem dlist_ok (R : Nat → Prop) (a : Option Addr) (n c : Nat) (l : List En) (w : World) (h : Rd w R 1 a n c (bys (dirB l))) (hn : n = 16 * l.length) (hs : EnS l) :
    Calls Tryz.prog 247 #[.slice a n c] w fun e w' => ∃ a' c' G, e = .returned (.tuple #[.slice a' l.length c', .int .i64 0]) ∧ Sl w' 389 2 a' l.length c' (enL l) G ∧ Chg Nil w w' ∧ ∀ g, G = some g → w.heap.size ≤ g := by
  have hmf : ∀ (fn : Fn) (first cap : Array Value) (w : World), (Instr.makeFunc fn first cap).run Tryz.prog w = .ok (.func fn first cap) w := fun _ _ _ _ => rfl
  have hsf : ∀ (w : World) (a : Addr) (fn : Fn) (x y : Array Value) (m : Mode), (store a (.func fn x y) m).run Tryz.prog w = stored Tryz.prog w a (.func fn x y) m := fun w a fn x y m => run_store Tryz.prog w a _ m rfl
  have hs' := hid hs
  have H := hid h
  have hlt0 := hid (Nat.lt_succ_self w.heap.size)
  rcases hs.2 with rfl | ⟨x, rfl⟩ | ⟨x, y, rfl, hlt⟩
  · obtain rfl : n = 0 := hn
    clear h hs
    obtain ⟨V, hV⟩ : ∃ V, V = (((w.alloc (.cells #[.slice a 0 c] 22)).alloc (.cells #[.int .i64 0] 3)).alloc (.cells #[.slice none 0 0] 29)).alloc (.cells #[.func (.func 301) #[] #[.pointer (some ⟨w.heap.size + 1, 0, none⟩), .pointer (some ⟨w.heap.size + 1 + 1 + 1, 0, none⟩), .pointer (some ⟨w.heap.size + 1 + 1, 0, none⟩), .pointer (some ⟨w.heap.size, 0, none⟩)]] 141) := ⟨_, rfl⟩
    obtain ⟨LV, CV⟩ := ls_start (n := 0) H.out V hV
    have HL : Hid (Calls Tryz.prog 301 #[.int .i64 0, .pointer (some ⟨w.heap.size + 1, 0, none⟩), .pointer (some ⟨w.heap.size + 1 + 1 + 1, 0, none⟩), .pointer (some ⟨w.heap.size + 1 + 1, 0, none⟩), .pointer (some ⟨w.heap.size, 0, none⟩)] V fun e w' => e = .returned (.tuple #[]) ∧ ∃ s1 G1, LsA w' w.heap.size (w.heap.size + 1) (w.heap.size + 1 + 1 + 1) (w.heap.size + 1 + 1) w.heap.size 0 a 0 c (fun k => k < w.heap.size) (dirB []) [] s1 G1 ∧ Chg (fun k => w.heap.size ≤ k) V w') := hid ((lsleaf LV 0 (by omega)).mono (fun e w' ⟨h1, h2⟩ => ⟨h1, .slice none 0 0, none, (by rw [h2]; exact LV), (by rw [h2]; exact Chg.refl _ _)⟩))
    have hV' := hid hV
    replace CV := hid CV
    clear hV LV
    go_enter Tryz.func247, Tryz.ntmps247
    go_wp2_with fail
    rw [← hV'.out]
    refine HL.out.mono ?_
    rintro e w5 ⟨rfl, s1, G1, L5, C5⟩
    obtain ⟨oa, oc, hs1, S5⟩ := L5.sl
    subst hs1
    have k3 := L5.b3.cell 0
    have k4 := L5.b4.cell 0
    simp only [List.getElem?_cons_zero] at k3 k4
    have D5 := hid (CV.out.trans C5 (F := Nil) (fun k hk hh => by have := hk; omega))
    have HY := hid (dlay_ok _ oa _ oc [] w5 S5.rd rfl hs'.out)
    have BB3 := hid L5.b3
    have BB4 := hid L5.b4
    have RB := hid L5.rd
    have NB := hid (fun g hg => (L5.nb g hg).1)
    replace S5 := hid S5
    clear L5 C5
    go_wp2_with fail
    refine HY.out.mono ?_
    rintro e w6 ⟨a6, c6, G6, rfl, S6, d6, g6⟩
    have HE := hid (equal_by _ _ _ _ _ _ _ _ _ _ w6 S6.rd (RB.out.chg d6 (fun _ _ _ h => h)) (by simp) (by simp))
    have j3 := (BB3.out.chg d6 (fun h => h)).cell 0
    have j4 := (BB4.out.chg d6 (fun h => h)).cell 0
    simp only [List.getElem?_cons_zero] at j3 j4
    have S7 := hid (S5.out.chg d6 (fun _ _ h => h))
    have D7 := hid (D5.out.trans d6 (fun _ _ h => h))
    clear S6 d6 g6
    go_wp2_with fail
    refine HE.out.mono ?_
    rintro e w7 ⟨rfl, kk, rfl⟩
    have heq : eqI (dirB []) (dirB []) = true := by unfold eqI; simp
    go_wp2
    go_ret2
    exact ⟨oa, oc, G1, rfl, S7.out.drewN _, D7.out.drewN _, fun g hg => NB.out g hg⟩
  · obtain rfl : n = 16 := hn
    clear h hs
    obtain ⟨V, hV⟩ : ∃ V, V = (((w.alloc (.cells #[.slice a 16 c] 22)).alloc (.cells #[.int .i64 1] 3)).alloc (.cells #[.slice none 0 0] 29)).alloc (.cells #[.func (.func 301) #[] #[.pointer (some ⟨w.heap.size + 1, 0, none⟩), .pointer (some ⟨w.heap.size + 1 + 1 + 1, 0, none⟩), .pointer (some ⟨w.heap.size + 1 + 1, 0, none⟩), .pointer (some ⟨w.heap.size, 0, none⟩)]] 141) := ⟨_, rfl⟩
    obtain ⟨LV, CV⟩ := ls_start (n := 1) H.out V hV
    have HL : Hid (Calls Tryz.prog 301 #[.int .i64 0, .pointer (some ⟨w.heap.size + 1, 0, none⟩), .pointer (some ⟨w.heap.size + 1 + 1 + 1, 0, none⟩), .pointer (some ⟨w.heap.size + 1 + 1, 0, none⟩), .pointer (some ⟨w.heap.size, 0, none⟩)] V fun e w' => e = .returned (.tuple #[]) ∧ ∃ s1 G1, LsA w' w.heap.size (w.heap.size + 1) (w.heap.size + 1 + 1 + 1) (w.heap.size + 1 + 1) w.heap.size 1 a 16 c (fun k => k < w.heap.size) (dirB [x]) [x] s1 G1 ∧ Chg (fun k => w.heap.size ≤ k) V w') := hid (lsnode LV 0 0 rfl (.inl ⟨rfl, rfl, rfl, rfl⟩) x (hs'.out.1 x (by simp)) (List.take_of_length_le (by rw [List.length_drop]; show (rowB x.c x.i).length - _ ≤ _; rw [rowB_len]; omega)) [] (by simp) ((lsleaf LV _ (by omega)).mono (fun e w' ⟨h1, h2⟩ => ⟨h1, .slice none 0 0, none, (by rw [h2]; exact LV), (by rw [h2]; exact Chg.refl _ _)⟩)))
    have hV' := hid hV
    replace CV := hid CV
    clear hV LV
    go_enter Tryz.func247, Tryz.ntmps247
    go_wp2_with fail
    rw [← hV'.out]
    refine HL.out.mono ?_
    rintro e w5 ⟨rfl, s1, G1, L5, C5⟩
    obtain ⟨oa, oc, hs1, S5⟩ := L5.sl
    subst hs1
    have k3 := L5.b3.cell 0
    have k4 := L5.b4.cell 0
    simp only [List.getElem?_cons_zero] at k3 k4
    have D5 := hid (CV.out.trans C5 (F := Nil) (fun k hk hh => by have := hk; omega))
    have HY := hid (dlay_ok _ oa _ oc [x] w5 S5.rd rfl hs'.out)
    have BB3 := hid L5.b3
    have BB4 := hid L5.b4
    have RB := hid L5.rd
    have NB := hid (fun g hg => (L5.nb g hg).1)
    replace S5 := hid S5
    clear L5 C5
    go_wp2_with fail
    refine HY.out.mono ?_
    rintro e w6 ⟨a6, c6, G6, rfl, S6, d6, g6⟩
    have HE := hid (equal_by _ _ _ _ _ _ _ _ _ _ w6 S6.rd (RB.out.chg d6 (fun _ _ _ h => h)) (by simp) (by simp))
    have j3 := (BB3.out.chg d6 (fun h => h)).cell 0
    have j4 := (BB4.out.chg d6 (fun h => h)).cell 0
    simp only [List.getElem?_cons_zero] at j3 j4
    have S7 := hid (S5.out.chg d6 (fun _ _ h => h))
    have D7 := hid (D5.out.trans d6 (fun _ _ h => h))
    clear S6 d6 g6
    go_wp2_with fail
    refine HE.out.mono ?_
    rintro e w7 ⟨rfl, kk, rfl⟩
    have heq : eqI (dirB [x]) (dirB [x]) = true := by unfold eqI; simp
    go_wp2
    go_ret2
    exact ⟨oa, oc, G1, rfl, S7.out.drewN _, D7.out.drewN _, fun g hg => NB.out g hg⟩
  · obtain rfl : n = 32 := hn
    clear h hs
    obtain ⟨V, hV⟩ : ∃ V, V = (((w.alloc (.cells #[.slice a 32 c] 22)).alloc (.cells #[.int .i64 2] 3)).alloc (.cells #[.slice none 0 0] 29)).alloc (.cells #[.func (.func 301) #[] #[.pointer (some ⟨w.heap.size + 1, 0, none⟩), .pointer (some ⟨w.heap.size + 1 + 1 + 1, 0, none⟩), .pointer (some ⟨w.heap.size + 1 + 1, 0, none⟩), .pointer (some ⟨w.heap.size, 0, none⟩)]] 141) := ⟨_, rfl⟩
    obtain ⟨LV, CV⟩ := ls_start (n := 2) H.out V hV
    have HL : Hid (Calls Tryz.prog 301 #[.int .i64 0, .pointer (some ⟨w.heap.size + 1, 0, none⟩), .pointer (some ⟨w.heap.size + 1 + 1 + 1, 0, none⟩), .pointer (some ⟨w.heap.size + 1 + 1, 0, none⟩), .pointer (some ⟨w.heap.size, 0, none⟩)] V fun e w' => e = .returned (.tuple #[]) ∧ ∃ s1 G1, LsA w' w.heap.size (w.heap.size + 1) (w.heap.size + 1 + 1 + 1) (w.heap.size + 1 + 1) w.heap.size 2 a 32 c (fun k => k < w.heap.size) (dirB [x, y]) [x, y] s1 G1 ∧ Chg (fun k => w.heap.size ≤ k) V w') := hid (lsnode LV 0 0 rfl (.inr (.inr ⟨rfl, rfl, rfl, rfl⟩)) y (hs'.out.1 y (by simp)) rfl [x] (by simp) (lsnode LV 1 1 rfl (.inr (.inl ⟨rfl, rfl, rfl, rfl⟩)) x (hs'.out.1 x (by simp)) rfl [] (by simp) ((lsleaf LV _ (by omega)).mono (fun e w' ⟨h1, h2⟩ => ⟨h1, .slice none 0 0, none, (by rw [h2]; exact LV), (by rw [h2]; exact Chg.refl _ _)⟩))))
    have hV' := hid hV
    replace CV := hid CV
    clear hV LV
    go_enter Tryz.func247, Tryz.ntmps247
    go_wp2_with fail
    rw [← hV'.out]
    refine HL.out.mono ?_
    rintro e w5 ⟨rfl, s1, G1, L5, C5⟩
    obtain ⟨oa, oc, hs1, S5⟩ := L5.sl
    subst hs1
    have k3 := L5.b3.cell 0
    have k4 := L5.b4.cell 0
    simp only [List.getElem?_cons_zero] at k3 k4
    have D5 := hid (CV.out.trans C5 (F := Nil) (fun k hk hh => by have := hk; omega))
    have HY := hid (dlay_ok _ oa _ oc [x, y] w5 S5.rd rfl hs'.out)
    have BB3 := hid L5.b3
    have BB4 := hid L5.b4
    have RB := hid L5.rd
    have NB := hid (fun g hg => (L5.nb g hg).1)
    replace S5 := hid S5
    clear L5 C5
    go_wp2_with fail
    refine HY.out.mono ?_
    rintro e w6 ⟨a6, c6, G6, rfl, S6, d6, g6⟩
    have HE := hid (equal_by _ _ _ _ _ _ _ _ _ _ w6 S6.rd (RB.out.chg d6 (fun _ _ _ h => h)) (by simp) (by simp))
    have j3 := (BB3.out.chg d6 (fun h => h)).cell 0
    have j4 := (BB4.out.chg d6 (fun h => h)).cell 0
    simp only [List.getElem?_cons_zero] at j3 j4
    have S7 := hid (S5.out.chg d6 (fun _ _ h => h))
    have D7 := hid (D5.out.trans d6 (fun _ _ h => h))
    clear S6 d6 g6
    go_wp2_with fail
    refine HE.out.mono ?_
    rintro e w7 ⟨rfl, kk, rfl⟩
    have heq : eqI (dirB [x, y]) (dirB [x, y]) = true := by unfold eqI; simp
    go_wp2
    go_ret2
    exact ⟨oa, oc, G1, rfl, S7.out.drewN _, D7.out.drewN _, fun g hg => NB.out g hg⟩
end Go.Proofs.YtdcbagmgflcemaaGreatDoor
namespace Go.Proofs.YtdcbagmgflcemaaGreatDoor
open Go.ChangeShapes Go.WideShapes Go.ChangeAt Go.RowKit
set_option linter.unusedVariables false
def dlkU (l : List En) (x : UInt8) : Option Nat := (l.find? fun y => y.c == x).map En.i
/-- What a name leads to: the number, the error. -/
def dlk (l : List En) (x : UInt8) : Int := ((dlkU l x).getD 0 : Nat)
def dle (l : List En) (x : UInt8) : Int := if (dlkU l x).isSome then 0 else 4
theorem cmpN_cases (c d : UInt8) : (cmpN c d = 0 ∧ c = d) ∨ (cmpN c d = -1 ∧ c < d) ∨ (cmpN c d = 1 ∧ d < c) := by
  unfold cmpN
  by_cases h : c < d
  · rw [if_pos h]; exact .inr (.inl ⟨rfl, h⟩)
  · rw [if_neg h]
    by_cases h2 : d < c
    · rw [if_pos h2]; exact .inr (.inr ⟨rfl, h2⟩)
    · rw [if_neg h2]
      refine .inl ⟨rfl, ?_⟩
      exact UInt8.le_antisymm (UInt8.not_lt.1 h2) (UInt8.not_lt.1 h)
set_option maxRecDepth 100000 in
set_option maxHeartbeats 2000000 in
theorem dfind_any (R : Nat → Prop) (a : Option Addr) (n c : Nat) (l : List En) (w : World) (h : Rd w R 1 a n c (bys (dirB l))) (hn : n = 16 * l.length) (hs : EnS l) (x : UInt8) (hx : IsNm x) (E : Nat → En) (hE : ∀ p, p < l.length → EnOk (E p) ∧ ((dirB l).drop (16 * p)).take 16 = rowB (E p).c (E p).i)
    (an ae : Nat → Int) (h1 : ∀ p, l.length ≤ p → an p = 0 ∧ ae p = 4) (h2 : ∀ p, p < l.length → cmpN x (E p).c = 0 → an p = ((E p).i : Int) ∧ ae p = 0) (h3 : ∀ p, p < l.length → cmpN x (E p).c = -1 → an p = an (2 * p + 1) ∧ ae p = ae (2 * p + 1)) (h4 : ∀ p, p < l.length → cmpN x (E p).c = 1 → an p = an (2 * p + 2) ∧ ae p = ae (2 * p + 2)) :
    Calls Tryz.prog 206 #[.slice a n c, .string ⟨#[x]⟩] w fun e w' => (∃ k : Int, e = .returned (.tuple #[.int .i64 (an 0), .int .i64 k, .int .i64 (ae 0)])) ∧ Chg Nil w w' := by
  have HL := hid (dlist_ok R a n c l w h hn hs)
  have hl2 := hs.len
  have H := hid h
  have HE := hid hE
  have H1 := hid h1
  have H2 := hid h2
  have H3 := hid h3
  have H4 := hid h4
  have hx' := hid hx
  obtain ⟨m, hm⟩ : ∃ m, m = l.length := ⟨_, rfl⟩
  rw [← hm] at hn hl2
  subst hn
  replace hm := hid hm
  clear h hE h1 h2 h3 h4 hs hx
  go_enter Tryz.func206, Tryz.ntmps206
  go_wp2_with fail
  refine HL.out.mono ?_
  rintro e w1 ⟨a1, c1, G1, rfl, s1, d1, g1⟩
  replace d1 := hid d1
  clear s1 g1
  go_wp2
  go_loopw [5, 9] (fun s5 s9 wr => ∃ p k : Nat, p ≤ 4 ∧ k ≤ p ∧ s5 = .int .i64 (k : Int) ∧ s9 = .int .i64 (p : Int) ∧ Hid (an 0 = an p ∧ ae 0 = ae p) ∧ Hid (Chg Nil w wr)) (fun _ s9 _ => 8 - (intOf s9).toNat)
  case atStart => exact ⟨0, 0, by omega, by omega, rfl, rfl, ⟨rfl, rfl⟩, d1.out⟩
  case round =>
    obtain ⟨p, k, hp, hk, rfl, rfl, hans, hw⟩ := hrel
    have w1 : IntKind.i64.wrap (16 * (p : Int)) = 16 * (p : Int) := IntWalk.i64_in _ (by omega)
    have w2 : IntKind.i64.wrap ((k : Int) + 1) = (k : Int) + 1 := IntWalk.i64_in _ (by omega)
    have w3 : IntKind.i64.wrap (2 * (p : Int)) = 2 * (p : Int) := IntWalk.i64_in _ (by omega)
    have w4 : IntKind.i64.wrap (2 * (p : Int) + 1) = 2 * (p : Int) + 1 := IntWalk.i64_in _ (by omega)
    have w5 : IntKind.i64.wrap (2 * (p : Int) + 2) = 2 * (p : Int) + 2 := IntWalk.i64_in _ (by omega)
    by_cases hlt : p < m
    · have i1 : 16 * (p : Int) < ((16 * m : Nat) : Int) := by omega
      have hpl : p < l.length := by rw [← hm.out]; exact hlt
      obtain ⟨hok, hrow⟩ := HE.out p hpl
      have HR := hid (fun W (hc : Chg Nil w W) => drow_ok W R a (16 * m) c (dirB l) (H.out.chg hc (fun _ _ _ h => h)) p (by omega) (by omega) (E p).c hok.1 (E p).i hok.2.2 hrow)
      have HC := hid (fun W => cmpstr_ok W x (E p).c hx'.out hok.1)
      have q2 := H2.out p hpl
      have q3 := H3.out p hpl
      have q4 := H4.out p hpl
      obtain ⟨y, hy⟩ : ∃ y, y = E p := ⟨_, rfl⟩
      rw [← hy] at HR HC q2 q3 q4
      obtain ⟨v, hv⟩ : ∃ v, v = cmpN x y.c := ⟨_, rfl⟩
      rw [← hv] at HC q2 q3 q4
      have hvc : v = 0 ∨ v = -1 ∨ v = 1 := by rcases cmpN_cases x y.c with ⟨h, _⟩ | ⟨h, _⟩ | ⟨h, _⟩ <;> rw [hv, h] <;> simp
      have HR1 := hid (HR.out wr hw.out)
      replace q2 := hid q2
      replace q3 := hid q3
      replace q4 := hid q4
      clear hok hrow hy hv HR
      go_wp2_with fail
      refine HR1.out.mono ?_
      rintro e w2' ⟨rfl, d2⟩
      have D2 := hid (hw.out.trans d2 (fun _ _ h => h))
      clear d2
      go_wp2_with fail
      refine (HC.out _).mono ?_
      rintro e w3' ⟨rfl, rfl⟩
      rcases hvc with rfl | rfl | rfl
      · have qq := hid (q2.out rfl)
        go_wp2
        go_ret3
        refine ⟨⟨(k : Int) + 1, ?_⟩, D2.out.alloc _⟩
        rw [hans.out.1, hans.out.2, qq.out.1, qq.out.2]
        rfl
      · have qq := hid (q3.out rfl)
        go_wp2
        go_roundw
        case rel => exact ⟨2 * p + 1, k + 1, by omega, by omega, by go_num, by go_num, ⟨hans.out.1.trans qq.out.1, hans.out.2.trans qq.out.2⟩, D2.out.alloc _⟩
        case measure => simp [intOf]; omega
      · have qq := hid (q4.out rfl)
        go_wp2
        go_roundw
        case rel => exact ⟨2 * p + 2, k + 1, by omega, by omega, by go_num, by go_num, ⟨hans.out.1.trans qq.out.1, hans.out.2.trans qq.out.2⟩, D2.out.alloc _⟩
        case measure => simp [intOf]; omega
    · have i1 : ¬ 16 * (p : Int) < ((16 * m : Nat) : Int) := by omega
      have qq := hid (H1.out p (by rw [← hm.out]; omega))
      go_wp2
      go_ret3
      refine ⟨⟨(k : Int), ?_⟩, hw.out⟩
      rw [hans.out.1, hans.out.2, qq.out.1, qq.out.2]
      rfl
theorem dlk_one (a : En) (x : UInt8) : dlk [a] x = (if x = a.c then (a.i : Int) else 0) ∧ dle [a] x = if x = a.c then 0 else 4 := by
  unfold dlk dle dlkU
  by_cases h : x = a.c
  · subst h
    simp
  · have : (a.c == x) = false := by rw [beq_eq_false_iff_ne]; exact fun hh => h hh.symm
    simp [List.find?, this, h]
theorem dlk_two (a b : En) (x : UInt8) : dlk [a, b] x = (if x = a.c then (a.i : Int) else if x = b.c then (b.i : Int) else 0) ∧ dle [a, b] x = if x = a.c then 0 else if x = b.c then 0 else 4 := by
  unfold dlk dle dlkU
  by_cases h : x = a.c
  · subst h
    simp
  · have h1 : (a.c == x) = false := by rw [beq_eq_false_iff_ne]; exact fun hh => h hh.symm
    by_cases h2 : x = b.c
    · subst h2
      simp [List.find?, h1, h]
    · have h3 : (b.c == x) = false := by rw [beq_eq_false_iff_ne]; exact fun hh => h2 hh.symm
      simp [List.find?, h1, h3, h, h2]
theorem dfind_ok (R : Nat → Prop) (a : Option Addr) (n c : Nat) (l : List En) (w : World) (h : Rd w R 1 a n c (bys (dirB l))) (hn : n = 16 * l.length) (hs : EnS l) (x : UInt8) (hx : IsNm x) :
    Calls Tryz.prog 206 #[.slice a n c, .string ⟨#[x]⟩] w fun e w' => ∃ k : Int, e = .returned (.tuple #[.int .i64 (dlk l x), .int .i64 k, .int .i64 (dle l x)]) ∧ Chg Nil w w' := by
  have key : ∀ {an ae : Int}, an = dlk l x → ae = dle l x → ∀ {e : Ending} {w' : World}, ((∃ k : Int, e = Ending.returned (.tuple #[.int .i64 an, .int .i64 k, .int .i64 ae])) ∧ Chg Nil w w') → ∃ k : Int, e = Ending.returned (.tuple #[.int .i64 (dlk l x), .int .i64 k, .int .i64 (dle l x)]) ∧ Chg Nil w w' := by
    rintro an ae rfl rfl e w' ⟨⟨k, h1⟩, h2⟩
    exact ⟨k, h1, h2⟩
  have hs0 := hs
  rcases hs.2 with rfl | ⟨y, rfl⟩ | ⟨y, z, rfl, hlt⟩
  · exact (dfind_any R a n c [] w h hn hs0 x hx (fun _ => ⟨0, 0⟩) (fun p hp => absurd hp (Nat.not_lt_zero _)) (fun _ => 0) (fun _ => 4) (fun _ _ => ⟨rfl, rfl⟩) (fun p hp => absurd hp (Nat.not_lt_zero _)) (fun p hp => absurd hp (Nat.not_lt_zero _)) (fun p hp => absurd hp (Nat.not_lt_zero _))).mono (fun e w' hh => key rfl rfl hh)
  · have hlen : ∀ p, p < [y].length → p = 0 := fun p hp => by simp at hp; exact hp
    refine (dfind_any R a n c [y] w h hn hs0 x hx (fun _ => y) (fun p hp => ?_) (fun p => if p = 0 then (if x = y.c then (y.i : Int) else 0) else 0) (fun p => if p = 0 then (if x = y.c then 0 else 4) else 4) (fun p hp => ?_) (fun p hp hc => ?_) (fun p hp hc => ?_) (fun p hp hc => ?_)).mono (fun e w' hh => key (dlk_one y x).1.symm (dlk_one y x).2.symm hh)
    · obtain rfl := hlen p hp
      refine ⟨hs0.1 y (by simp), List.take_of_length_le (by rw [List.length_drop]; show (rowB y.c y.i).length - _ ≤ _; rw [rowB_len]; omega)⟩
    · have : p ≠ 0 := by simp at hp; omega
      rw [if_neg this, if_neg this]; exact ⟨rfl, rfl⟩
    · obtain rfl := hlen p hp
      rcases cmpN_cases x y.c with ⟨h1, h2⟩ | ⟨h1, _⟩ | ⟨h1, _⟩
      · subst h2; simp
      · rw [h1] at hc; cases hc
      · rw [h1] at hc; cases hc
    · obtain rfl := hlen p hp
      rcases cmpN_cases x y.c with ⟨h1, _⟩ | ⟨h1, h2⟩ | ⟨h1, _⟩
      · rw [h1] at hc; cases hc
      · have h3 : x ≠ y.c := fun hh => by rw [hh] at h2; exact absurd h2 (UInt8.lt_irrefl _)
        simp [h3]
      · rw [h1] at hc; cases hc
    · obtain rfl := hlen p hp
      rcases cmpN_cases x y.c with ⟨h1, _⟩ | ⟨h1, _⟩ | ⟨h1, h2⟩
      · rw [h1] at hc; cases hc
      · rw [h1] at hc; cases hc
      · have h3 : x ≠ y.c := fun hh => by rw [hh] at h2; exact absurd h2 (UInt8.lt_irrefl _)
        simp [h3]
  · have hlen : ∀ p, p < [y, z].length → p = 0 ∨ p = 1 := fun p hp => by simp at hp; omega
    have hyz : y.c ≠ z.c := fun hh => by rw [hh] at hlt; exact absurd hlt (UInt8.lt_irrefl _)
    refine (dfind_any R a n c [y, z] w h hn hs0 x hx (fun p => if p = 0 then z else y) (fun p hp => ?_) (fun p => if p = 0 then (if x = y.c then (y.i : Int) else if x = z.c then (z.i : Int) else 0) else if p = 1 then (if x = y.c then (y.i : Int) else 0) else 0) (fun p => if p = 0 then (if x = y.c then 0 else if x = z.c then 0 else 4) else if p = 1 then (if x = y.c then 0 else 4) else 4) (fun p hp => ?_) (fun p hp hc => ?_) (fun p hp hc => ?_) (fun p hp hc => ?_)).mono (fun e w' hh => key (dlk_two y z x).1.symm (dlk_two y z x).2.symm hh)
    · obtain rfl | rfl := hlen p hp
      · exact ⟨hs0.1 z (by simp), rfl⟩
      · exact ⟨hs0.1 y (by simp), rfl⟩
    · have h0 : p ≠ 0 := by simp at hp; omega
      have h1 : p ≠ 1 := by simp at hp; omega
      simp [h0, h1]
    · obtain rfl | rfl := hlen p hp
      · have hc' : cmpN x z.c = 0 := hc
        rcases cmpN_cases x z.c with ⟨h1, h2⟩ | ⟨h1, _⟩ | ⟨h1, _⟩
        · subst h2
          simp [hyz.symm]
        · rw [h1] at hc'; cases hc'
        · rw [h1] at hc'; cases hc'
      · have hc' : cmpN x y.c = 0 := hc
        rcases cmpN_cases x y.c with ⟨h1, h2⟩ | ⟨h1, _⟩ | ⟨h1, _⟩
        · subst h2
          simp
        · rw [h1] at hc'; cases hc'
        · rw [h1] at hc'; cases hc'
    · obtain rfl | rfl := hlen p hp
      · have hc' : cmpN x z.c = -1 := hc
        rcases cmpN_cases x z.c with ⟨h1, _⟩ | ⟨h1, h2⟩ | ⟨h1, _⟩
        · rw [h1] at hc'; cases hc'
        · have h3 : x ≠ z.c := fun hh => by rw [hh] at h2; exact absurd h2 (UInt8.lt_irrefl _)
          simp [h3]
        · rw [h1] at hc'; cases hc'
      · have hc' : cmpN x y.c = -1 := hc
        rcases cmpN_cases x y.c with ⟨h1, _⟩ | ⟨h1, h2⟩ | ⟨h1, _⟩
        · rw [h1] at hc'; cases hc'
        · have h3 : x ≠ y.c := fun hh => by rw [hh] at h2; exact absurd h2 (UInt8.lt_irrefl _)
          simp [h3]
        · rw [h1] at hc'; cases hc'
    · obtain rfl | rfl := hlen p hp
      · have hc' : cmpN x z.c = 1 := hc
        rcases cmpN_cases x z.c with ⟨h1, _⟩ | ⟨h1, _⟩ | ⟨h1, h2⟩
        · rw [h1] at hc'; cases hc'
        · rw [h1] at hc'; cases hc'
        · have h3 : x ≠ z.c := fun hh => by rw [hh] at h2; exact absurd h2 (UInt8.lt_irrefl _)
          have h4 : x ≠ y.c := fun hh => by rw [hh] at h2; exact absurd h2 (UInt8.lt_asymm hlt)
          simp [h3, h4]
      · have hc' : cmpN x y.c = 1 := hc
        rcases cmpN_cases x y.c with ⟨h1, _⟩ | ⟨h1, _⟩ | ⟨h1, h2⟩
        · rw [h1] at hc'; cases hc'
        · rw [h1] at hc'; cases hc'
        · have h3 : x ≠ y.c := fun hh => by rw [hh] at h2; exact absurd h2 (UInt8.lt_irrefl _)
          simp [h3]
theorem dle_none {l : List En} {x : En} (h : dle l x.c = 4) : ∀ y, y ∈ l → (x.c == y.c) = false := by
  intro y hy
  unfold dle dlkU at h
  cases hf : l.find? (fun y => y.c == x.c) with
  | some z => rw [hf] at h; cases h
  | none =>
    have := List.find?_eq_none.1 hf y hy
    rw [beq_eq_false_iff_ne]
    intro hh
    exact this (by rw [hh]; simp)
set_option maxRecDepth 100000 in
set_option maxHeartbeats 2000000 in
theorem dput_ok (R : Nat → Prop) (a : Option Addr) (n c : Nat) (l : List En) (w : World) (h : Rd w R 1 a n c (bys (dirB l))) (hn : n = 16 * l.length) (hs : EnS l) (x : En) (hno : dle l x.c = 4) (hs2 : EnS (l ++ [x])) :
    Calls Tryz.prog 271 #[.slice a n c, .agg #[.string ⟨#[x.c]⟩, .int .i64 (x.i : Int)]] w fun e w' => ∃ a' c' G, e = .returned (.tuple #[.slice a' (16 * (l.length + 1)) c', .int .i64 0]) ∧ Sl w' 5 1 a' (16 * (l.length + 1)) c' (bys (dirB (l ++ [x]))) G ∧ Chg Nil w w' ∧ ∀ g, G = some g → w.heap.size ≤ g := by
  have hmf : ∀ (fn : Fn) (first cap : Array Value) (w : World), (Instr.makeFunc fn first cap).run Tryz.prog w = .ok (.func fn first cap) w := fun _ _ _ _ => rfl
  obtain ⟨hxn, hx1, hx2⟩ : EnOk x := hs2.1 x (by simp)
  have hl2 : l.length ≤ 2 := hs.len
  have CA := (Chg.refl Nil w).alloc (.cells #[.string ⟨#[x.c]⟩, .int .i64 (x.i : Int)] 389)
  have BA := Blk.new w 389 [.string ⟨#[x.c]⟩, .int .i64 (x.i : Int)]
  have HL := hid (dlist_ok R a n c l _ (h.chg CA (fun _ _ _ h => h)) hn hs)
  have HN := hid (fun W => dname_ok W x.c hxn)
  have HX := hid (dle_none hno)
  have HS2 := hid hs2
  have i1 : ¬ ((x.i : Int) < 1) := by omega
  have i2 : ¬ ((x.i : Int) > 32) := by omega
  replace CA := hid CA
  replace BA := hid BA
  clear h hn hs hno hs2 hxn hx1 hx2
  obtain ⟨m, hm⟩ : ∃ m, m = l.length := ⟨_, rfl⟩
  rw [← hm] at HL hl2 ⊢
  have i3 : ((m : Int) == 32) = false := by rw [beq_eq_false_iff_ne]; omega
  replace hm := hid hm
  go_enter Tryz.func271, Tryz.ntmps271
  go_wp2_with fail
  refine HL.out.mono ?_
  rintro e w1 ⟨a1, c1, G1, rfl, s1, d1, g1⟩
  have B1 := BA.out.chg d1 (fun h => h)
  have k0 := B1.cell 0
  have k1 := B1.cell 1
  simp only [List.getElem?_cons_succ, List.getElem?_cons_zero] at k0 k1
  have D1 := hid (CA.out.trans d1 (fun _ _ h => h))
  have HC := hid (econP _ a1 m c1 w.heap.size l x w1 s1.rd hm.out (by omega) k0 HX.out)
  replace s1 := hid s1
  replace g1 := hid g1
  replace B1 := hid B1
  have hz1 := hid d1.size
  clear d1
  go_wp2_with fail
  refine (HN.out _).mono ?_
  rintro e w2 ⟨rfl, rfl⟩
  go_wp2_with fail
  refine HC.out.mono ?_
  rintro e w2 ⟨rfl, d2⟩
  have B2 := B1.out.chg d2 (fun h => h)
  have LB := load_blk (P := Tryz.prog) (ty := 389) B2 Tryz.underlying389 rfl (by kernel_rfl)
  have S2 := hid ((s1.out.chg d2 (fun _ _ h => h)).alloc (.cells #[.string ⟨#[x.c]⟩, .int .i64 (x.i : Int)] 389))
  have N2 := hid (Rd.of_blk (n := 1) (s := 2) (Blk.new w2 389 [.string ⟨#[x.c]⟩, .int .i64 (x.i : Int)]) rfl (by decide))
  have D2 := hid ((D1.out.trans d2 (fun _ _ h => h)).alloc (.cells #[.string ⟨#[x.c]⟩, .int .i64 (x.i : Int)] 389))
  clear d2 B2 k0 k1
  go_wp2_with (first | (refine wpList_load_run LB (by rfl) (by rfl) (by rfl) ?_) | (at_builtin; refine wpList_append_sl rfl _ _ eEn rfl rfl rfl S2.out N2.out (enL_one [x]) (by omega) (by omega) ?_; intro a' c' w3 G' y1 y2 y3; replace y1 := hid y1; replace y2 := hid y2; replace y3 := hid y3))
  have Y1 := y1.out
  have eE : enL l ++ [Value.string ⟨#[x.c]⟩, .int .i64 (x.i : Int)] = enL (l ++ [x]) := (enL_app l x).symm
  rw [eE] at Y1
  have HY := hid (dlay_ok _ a' (m + 1) c' (l ++ [x]) w3 Y1.rd (by rw [List.length_append, hm.out]; rfl) HS2.out)
  have D3 := hid (D2.out.trans y2.out (fun k hk hh => by
    have := g1.out k hh
    have h5 := hz1.out
    have h6 := BA.out.lt
    omega))
  clear Y1 eE
  refine HY.out.mono ?_
  rintro e w4 ⟨a4, c4, G4, rfl, s4, d4, g4⟩
  have D4 := hid (D3.out.trans d4 (fun _ _ h => h))
  have z3 := hid D3.out.size
  replace s4 := hid s4
  replace g4 := hid g4
  clear d4
  go_wp2
  go_ret2
  exact ⟨_, _, G4, rfl, s4.out, D4.out, fun g hg => Nat.le_trans z3.out (g4.out g hg)⟩
end Go.Proofs.YtdcbagmgflcemaaGreatDoor
