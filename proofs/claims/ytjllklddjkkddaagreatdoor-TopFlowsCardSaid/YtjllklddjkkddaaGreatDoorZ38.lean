/- The kernel's parts, called: each call of a part is told as what it makes of the kernel. No program is walked here. Conditions: those of the parts' contracts · The kernel's calls about descriptors: one is closed, and its thing stays open. Conditions: just that · The kernel: a process ends. Conditions: not the first one; it gives to the pipe, and has nothing else open; nobody hears a signal. -/
import Derived.Test.YtjllklddjkkddaaGreatDoorZ37
import Derived.Test.YtjllklddjkkddaaGreatDoorZ36
namespace Go.Proofs.YtjllklddjkkddaaGreatDoor
open Go.ChangeShapes Go.WideShapes Go.ChangeAt Go.RowKit
set_option linter.unusedVariables false
section
variable {w : World} {B pk : Nat} {U : Nat → Prop} {X : KX}
/-- A field of the kernel, and a call with it. -/
def KPart (w : World) (pk i : Nat) (f : FuncId) (args : List Value) (R : World → Ending → World → Prop) : Prop :=
  ∃ p, w.cell? ⟨pk, i, none⟩ = some (.pointer (some ⟨p, 0, none⟩)) ∧ pk < w.heap.size ∧ ∀ w', Chg Nil w w' → Calls Tryz.prog f (.pointer (some ⟨p, 0, none⟩) :: args).toArray w' (R w')
theorem KAt.pexit (h : KAt w B U pk X) (q : Nat) (h1 : 2 ≤ q) (h2 : q ≤ 16) (hs : (X.pl q).state = 1) (st : Int) :
    KPart w pk 7 71 [.int .i64 (q : Int), .int .i64 st] fun w e w' => e = .returned (.tuple #[.int .i64 (orph X.pl q 17 q).parent, .int .i64 0]) ∧ KPost w B U pk { X with pl := updF (orph X.pl q 17) q { orph X.pl q 17 q with state := 2, status := bits .and .i64 st 255 } } w' := by
  obtain ⟨pm, pf, pp, pr, pw, po, pc, pq, FM, FP, FR, FW, h, rfl⟩ := h
  refine ⟨pc, h.kn.h (i := 7) (by omega), Blk.lt h.kn, fun w1 hc9 => ?_⟩
  replace h := h.nil hc9
  refine (prexit_ok w1 pc X.pl h.pr q h1 h2 hs st).mono ?_
  rintro e w' ⟨rfl, a, c⟩
  exact ⟨rfl, h.postPr a c⟩
theorem KAt.pfork (h : KAt w B U pk X) (q : Nat) (h1 : 1 ≤ q) (h2 : q ≤ 16) (hs : (X.pl q).state = 1) (c : Nat) (c1 : 1 ≤ c) (c2 : c ≤ 16) (hc : (X.pl c).state = 0) (hb : ∀ j, 1 ≤ j → j < c → (X.pl j).state ≠ 0) :
    KPart w pk 7 177 [.int .i64 (q : Int)] fun w e w' => e = .returned (.tuple #[.int .i64 (c : Int), .int .i64 0]) ∧ KPost w B U pk { X with pl := updF X.pl c ⟨1, q, (X.pl q).group, 0⟩ } w' := by
  obtain ⟨pm, pf, pp, pr, pw, po, pc, pq, FM, FP, FR, FW, h, rfl⟩ := h
  refine ⟨pc, h.kn.h (i := 7) (by omega), Blk.lt h.kn, fun w1 hc9 => ?_⟩
  replace h := h.nil hc9
  refine (prfork_ok w1 pc X.pl h.pr q h1 h2 hs c c1 c2 hc hb).mono ?_
  rintro e w' ⟨rfl, a, c⟩
  exact ⟨rfl, h.postPr a c⟩
theorem KAt.pwait (h : KAt w B U pk X) (q : Nat) (h1 : 1 ≤ q) (h2 : q ≤ 16) (hs : (X.pl q).state = 1) (k : Nat) (hk : k < 17) (k1 : (X.pl k).state = 2) (k2 : (X.pl k).parent = q) (hb : ∀ j, j < k → ¬ ((X.pl j).state = 2 ∧ (X.pl j).parent = q)) :
    KPart w pk 7 97 [.int .i64 (q : Int)] fun w e w' => e = .returned (.tuple #[.int .i64 (k : Int), .int .i64 (X.pl k).status, .int .i64 0]) ∧ KPost w B U pk { X with pl := updF X.pl k peZ } w' := by
  obtain ⟨pm, pf, pp, pr, pw, po, pc, pq, FM, FP, FR, FW, h, rfl⟩ := h
  refine ⟨pc, h.kn.h (i := 7) (by omega), Blk.lt h.kn, fun w1 hc9 => ?_⟩
  replace h := h.nil hc9
  refine (prwait_ok w1 pc X.pl h.pr q h1 h2 hs k hk k1 k2 hb).mono ?_
  rintro e w' ⟨rfl, a, c⟩
  exact ⟨rfl, h.postPr a c⟩
theorem KAt.fclose (h : KAt w B U pk X) (q : Nat) (h1 : 1 ≤ q) (h2 : q ≤ 16) (d : Nat) (hd : d < 8) (k : Nat) (hk : k < 32) (hf : X.fd q d = k + 1) :
    KPart w pk 6 80 [.int .i64 (q : Int), .int .i64 (d : Int)] fun w e w' => e = .returned (.tuple #[flA (X.fl k), .bool (wrap64 ((X.fl k).n - 1) == 0), .int .i64 0]) ∧ KPost w B U pk { X with fl := updF X.fl k { X.fl k with n := wrap64 ((X.fl k).n - 1) }, fd := updD X.fd q d 0 } w' := by
  obtain ⟨pm, pf, pp, pr, pw, po, pc, pq, FM, FP, FR, FW, h, rfl⟩ := h
  refine ⟨po, h.kn.h (i := 6) (by omega), Blk.lt h.kn, fun w1 hc9 => ?_⟩
  replace h := h.nil hc9
  refine (opclose_ok w1 po X.fl X.fd h.op q h1 h2 d hd k hk hf).mono ?_
  rintro e w' ⟨rfl, a, c⟩
  exact ⟨rfl, h.postOp a c⟩
theorem KAt.ffork (h : KAt w B U pk X) (q c : Nat) (h1 : 1 ≤ q) (h2 : q ≤ 16) (c1 : 1 ≤ c) (c2 : c ≤ 16) (hne : q ≠ c) (h0 : ∀ d, d < 8 → X.fd c d = 0) (hr : ∀ d, d < 8 → X.fd q d ≤ 32) :
    KPart w pk 6 178 [.int .i64 (q : Int), .int .i64 (c : Int)] fun w e w' => e = .returned (.int .i64 0) ∧ KPost w B U pk { X with fl := forkF X.fl (X.fd q) 8, fd := rowD X.fd c (X.fd q) } w' := by
  obtain ⟨pm, pf, pp, pr, pw, po, pc, pq, FM, FP, FR, FW, h, rfl⟩ := h
  refine ⟨po, h.kn.h (i := 6) (by omega), Blk.lt h.kn, fun w1 hc9 => ?_⟩
  replace h := h.nil hc9
  refine (opfork_ok w1 po X.fl X.fd h.op q c h1 h2 c1 c2 hne h0 hr).mono ?_
  rintro e w' ⟨rfl, a, c⟩
  exact ⟨rfl, h.postOp a c⟩
theorem KAt.fdrop (h : KAt w B U pk X) (q : Nat) (h1 : 1 ≤ q) (h2 : q ≤ 16) (hr : ∀ d, d < 8 → X.fd q d ≤ 32) (fl : Nat → Fl) (fd : Nat → Nat → Nat) (l : List Fl) (hd : dropM X.fl X.fd q 8 = (fl, fd, l)) :
    KPart w pk 6 72 [.int .i64 (q : Int)] fun w e w' => ∃ a c G, e = .returned (.tuple #[.slice a l.length c, .int .i64 0]) ∧ Sl w' 169 5 a l.length c (l.flatMap flL) G ∧ (∀ g, G = some g → w.heap.size ≤ g) ∧ KAt w' B U pk { X with fl := fl, fd := fd } ∧ Chg U w w' := by
  obtain ⟨pm, pf, pp, pr, pw, po, pc, pq, FM, FP, FR, FW, h, rfl⟩ := h
  refine ⟨po, h.kn.h (i := 6) (by omega), Blk.lt h.kn, fun w1 hc9 => ?_⟩
  replace h := h.nil hc9
  refine (opdrop_ok w1 po X.fl X.fd h.op q h1 h2 hr).mono ?_
  rintro e w' ⟨a, c, G, rfl, a1, a2, a3, a4⟩
  rw [hd] at a1 a2
  rw [hd]
  exact ⟨a, c, G, rfl, a2, a4, ⟨_, _, _, _, _, _, _, _, _, _, _, _, h.upOp a1 a3, rfl⟩, a3.mono (fun k _ hk => uni_of 5 rfl k hk)⟩
theorem KAt.sfork (h : KAt w B U pk X) (hn : X.n ≤ 1000) (s : Nat) (h1 : 1 ≤ s) (h2 : s ≤ 16) (hs : X.sp s = false) (hb : ∀ j : Nat, 1 ≤ j → j < s → X.sp j = true) (o : Nat) (ho : o ≤ 16) (ho1 : X.sp o = true) :
    KPart w pk 1 176 [.int .i64 (o : Int)] fun w e w' => e = .returned (.tuple #[.int .i64 (s : Int), .int .i64 0]) ∧ KPost w B U pk { X with n := X.n + 1, sp := updF X.sp s true } w' := by
  obtain ⟨pm, pf, pp, pr, pw, po, pc, pq, FM, FP, FR, FW, h, rfl⟩ := h
  refine ⟨pm, h.kn.h (i := 1) (by omega), Blk.lt h.kn, fun w1 hc9 => ?_⟩
  replace h := h.nil hc9
  refine (spbfork_ok w1 FM pm X.n X.sp h.sp hn s h1 h2 hs hb o ho ho1).mono ?_
  rintro e w' ⟨rfl, F', a, c, g⟩
  exact ⟨rfl, h.postSp a c g⟩
theorem KAt.sdrop (h : KAt w B U pk X) (o : Nat) (ho : o ≤ 16) (ho1 : X.sp o = true) :
    KPart w pk 1 74 [.int .i64 (o : Int)] fun w e w' => e = .returned (.int .i64 0) ∧ KPost w B U pk { X with sp := updF X.sp o false } w' := by
  obtain ⟨pm, pf, pp, pr, pw, po, pc, pq, FM, FP, FR, FW, h, rfl⟩ := h
  refine ⟨pm, h.kn.h (i := 1) (by omega), Blk.lt h.kn, fun w1 hc9 => ?_⟩
  replace h := h.nil hc9
  refine (spbdrop_ok w1 FM pm X.n X.sp h.sp o ho ho1).mono ?_
  rintro e w' ⟨rfl, a, c⟩
  exact ⟨rfl, h.postSp a c (Grew.refl _ _)⟩
theorem KAt.sreclaim (h : KAt w B U pk X) (k : Int) :
    KPart w pk 1 7 [.int .i64 k] fun w e w' => e = .returned (.int .i64 0) ∧ Chg Nil w w' := by
  obtain ⟨pm, pf, pp, pr, pw, po, pc, pq, FM, FP, FR, FW, h, rfl⟩ := h
  refine ⟨pm, h.kn.h (i := 1) (by omega), Blk.lt h.kn, fun w1 hc9 => ?_⟩
  replace h := h.nil hc9
  exact spbreclaim_ok w1 FM pm X.n X.sp h.sp k
theorem KAt.radd (h : KAt w B U pk X) (M : Int) (hok : SOk M X.run) (hM : M ≤ 1000000) (hl : X.run.ts.length < 1000) (t : Int) (t1 : 1 ≤ t) (t2 : t ≤ 16) :
    KPart w pk 4 34 [.int .i64 t, .int .i64 1, .int .i64 10] fun w e w' => e = .returned (.int .i64 (X.run.doAdd t 1 10).2) ∧ KPost w B U pk { X with run := (X.run.doAdd t 1 10).1 } w' := by
  obtain ⟨pm, pf, pp, pr, pw, po, pc, pq, FM, FP, FR, FW, h, rfl⟩ := h
  refine ⟨pr, h.kn.h (i := 4) (by omega), Blk.lt h.kn, fun w1 hc9 => ?_⟩
  replace h := h.nil hc9
  refine (sadd_any w1 FR pr X.run h.rn M hok hM hl t 1 10 t1 t2 rfl).mono ?_
  rintro e w' ⟨rfl, F', a, c, g⟩
  exact ⟨rfl, h.postRn a c g⟩
theorem KAt.rleave (h : KAt w B U pk X) (M : Int) (hok : SOk M X.run) (t : Int) :
    KPart w pk 4 75 [.int .i64 t] fun w e w' => e = .returned (.int .i64 (X.run.doLeave t).2) ∧ KPost w B U pk { X with run := (X.run.doLeave t).1 } w' := by
  obtain ⟨pm, pf, pp, pr, pw, po, pc, pq, FM, FP, FR, FW, h, rfl⟩ := h
  refine ⟨pr, h.kn.h (i := 4) (by omega), Blk.lt h.kn, fun w1 hc9 => ?_⟩
  replace h := h.nil hc9
  refine (sleave_any w1 FR pr X.run h.rn M hok t).mono ?_
  rintro e w' ⟨rfl, F', a, c, g⟩
  exact ⟨rfl, h.postRn a c g⟩
theorem KAt.wout (h : KAt w B U pk X) (id : Int) :
    KPart w pk 5 76 [.int .i64 id] fun w e w' => e = .returned (.int .i64 4) ∧ Chg Nil w w' := by
  obtain ⟨pm, pf, pp, pr, pw, po, pc, pq, FM, FP, FR, FW, h, rfl⟩ := h
  refine ⟨pw, h.kn.h (i := 5) (by omega), Blk.lt h.kn, fun w1 hc9 => ?_⟩
  replace h := h.nil hc9
  exact wout_nil w1 FW pw 0 id h.wh
end
end Go.Proofs.YtjllklddjkkddaaGreatDoor
namespace Go.Proofs.YtjllklddjkkddaaGreatDoor
open Go.ChangeShapes Go.WideShapes Go.ChangeAt Go.RowKit
set_option linter.unusedVariables false
/-- What a closing makes of the kernel. -/
def clX (X : KX) (q d k : Nat) : KX := { X with fl := updF X.fl k { X.fl k with n := wrap64 ((X.fl k).n - 1) }, fd := updD X.fd q d 0 }
theorem cl_new {V w1 : World} {B pk b0 : Nat} {U : Nat → Prop} {X' : KX} (kp : KPost V.drew B U pk X' w1) (BC : Blk V b0 33 anZ) (hb : ¬ U b0) (a b c : Int) :
    Hid (KPost V B U pk X' (w1.alloc (.cells (flL ⟨a, b, c, false, 0, 0⟩).toArray 169))) ∧ Hid (Blk (w1.alloc (.cells (flL ⟨a, b, c, false, 0, 0⟩).toArray 169)) b0 33 anZ) := by
  refine ⟨(kp.nil ((Chg.refl Nil w1).alloc _)).pre (Chg.refl Nil V).drew, ?_⟩
  obtain ⟨U2, _, c2, _⟩ := kp
  exact (BC.drew.chg c2 hb).alloc _
theorem cl_chain {V w1 : World} {B pk b0 : Nat} {U : Nat → Prop} {X' : KX} (kp : KPost ((V.alloc (.cells (flL flZ).toArray 169)).drew) B U pk X' w1) (BC : Blk V b0 33 anZ) (hb : ¬ U b0) (hT : ¬ U V.heap.size) (a b c : Int) :
    Hid (KPost V B U pk X' (((((w1.setCell ⟨V.heap.size, 0, none⟩ (.int .i64 a)).setCell ⟨V.heap.size, 1, none⟩ (.int .i64 b)).setCell ⟨V.heap.size, 2, none⟩ (.int .i64 c)).setCell ⟨V.heap.size, 3, none⟩ (.bool false)).setCell ⟨V.heap.size, 4, none⟩ (.int .i64 0))) ∧
    Hid (Blk (((((w1.setCell ⟨V.heap.size, 0, none⟩ (.int .i64 a)).setCell ⟨V.heap.size, 1, none⟩ (.int .i64 b)).setCell ⟨V.heap.size, 2, none⟩ (.int .i64 c)).setCell ⟨V.heap.size, 3, none⟩ (.bool false)).setCell ⟨V.heap.size, 4, none⟩ (.int .i64 0)) b0 33 anZ) := by
  have D : Chg (One V.heap.size) w1 (((((w1.setCell ⟨V.heap.size, 0, none⟩ (.int .i64 a)).setCell ⟨V.heap.size, 1, none⟩ (.int .i64 b)).setCell ⟨V.heap.size, 2, none⟩ (.int .i64 c)).setCell ⟨V.heap.size, 3, none⟩ (.bool false)).setCell ⟨V.heap.size, 4, none⟩ (.int .i64 0)) :=
    (((((Chg.refl (One V.heap.size) w1).setCell (p := ⟨V.heap.size, 0, none⟩) (.inl (show One V.heap.size V.heap.size from rfl)) _).setCell (p := ⟨V.heap.size, 1, none⟩) (.inl (show One V.heap.size V.heap.size from rfl)) _).setCell (p := ⟨V.heap.size, 2, none⟩) (.inl (show One V.heap.size V.heap.size from rfl)) _).setCell (p := ⟨V.heap.size, 3, none⟩) (.inl (show One V.heap.size V.heap.size from rfl)) _).setCell (p := ⟨V.heap.size, 4, none⟩) (.inl (show One V.heap.size V.heap.size from rfl)) _
  have CV : Chg Nil V ((V.alloc (.cells (flL flZ).toArray 169)).drew) := ((Chg.refl Nil V).alloc _).drew
  have B1 : Blk w1 b0 33 anZ := by
    obtain ⟨U2, _, c2, _⟩ := kp
    exact (BC.chg CV (fun h => h)).chg c2 hb
  exact ⟨kp.laid CV hT (Nat.le_refl _) (by simp) D, B1.chg D (fun hh => by have := BC.lt; rw [show b0 = V.heap.size from hh] at this; omega)⟩
set_option maxRecDepth 100000 in
set_option maxHeartbeats 4000000 in
theorem kdclose_ok (w : World) (B : Nat) (U : Nat → Prop) (pk : Nat) (X : KX) (h : KAt w B U pk X) (q : Nat) (q1 : 1 ≤ q) (q2 : q ≤ 16) (fdn kf : Nat) (hd : fdn < 8) (hk : kf < 32) (hf : X.fd q fdn = kf + 1) (kd id my nf : Int) (hfl : X.fl kf = ⟨kd, id, my, false, 0, nf⟩) (hn : (wrap64 (nf - 1) == 0) = false) (b nn : Int) (d : Value) :
    KCall 39 #[.pointer (some ⟨pk, 0, none⟩), .int .i64 (q : Int), .agg #[.int .i64 6, .int .i64 (fdn : Int), .int .i64 b, .int .i64 nn, .string ⟨#[]⟩, .string ⟨#[]⟩, d]] w B U pk (fun Y => Y = clX X q fdn kf) 0 0 0 [] := by
  obtain ⟨BA, BC⟩ := boxes2 w (clC 6 fdn b nn d)
  have CA : Chg Nil w ((w.alloc (.cells (clC 6 fdn b nn d).toArray 36)).alloc (.cells anZ.toArray 33)) := ((Chg.refl Nil w).alloc _).alloc _
  have hlt := hid h.lt
  unfold KCall
  go_enter Tryz.func39, Tryz.ntmps39
  go_upto_region 7 with fail
  generalize hV : (w.alloc (.cells #[.int .i64 6, .int .i64 (fdn : Int), .int .i64 b, .int .i64 nn, .string ⟨#[]⟩, .string ⟨#[]⟩, d] 36)).alloc (.cells #[.int .i64 0, .int .i64 0, .int .i64 0, .slice none 0 0, .slice none 0 0, .int .i64 0, .int .i64 0, .int .i64 0, .int .i64 0, .int .i64 0, .int .i64 0] 33) = V
  have hV' : (w.alloc (.cells (clC 6 fdn b nn d).toArray 36)).alloc (.cells anZ.toArray 33) = V := hV
  rw [hV'] at BA BC CA
  have h0 := h.nil CA
  replace hV := hid hV
  replace hV' := hid hV'
  have e1 := BA.cell 1
  simp only [clC, List.getElem?_cons_succ, List.getElem?_cons_zero] at e1
  obtain ⟨p6, k6, lk, HC⟩ := h0.fclose q q1 q2 fdn hd kf hk hf
  have k6' : (V.alloc (.cells #[.int .i64 0, .int .i64 0, .int .i64 0, .bool false, .int .i64 0] 169)).cell? ⟨pk, 6, none⟩ = some (.pointer (some ⟨p6, 0, none⟩)) := ((Chg.refl Nil V).alloc (.cells #[.int .i64 0, .int .i64 0, .int .i64 0, .bool false, .int .i64 0] 169)).cell (a := ⟨pk, 6, none⟩) lk (fun h => h) |>.trans k6
  have e1' : (V.alloc (.cells #[.int .i64 0, .int .i64 0, .int .i64 0, .bool false, .int .i64 0] 169)).cell? ⟨w.heap.size, 1, none⟩ = some (.int .i64 (fdn : Int)) := ((Chg.refl Nil V).alloc (.cells #[.int .i64 0, .int .i64 0, .int .i64 0, .bool false, .int .i64 0] 169)).cell (a := ⟨w.heap.size, 1, none⟩) (Blk.lt BA) (fun h => h) |>.trans e1
  replace HC : ∀ w', Chg Nil V w' → Calls Tryz.prog 80 #[.pointer (some ⟨p6, 0, none⟩), .int .i64 (q : Int), .int .i64 (fdn : Int)] w' fun e w2 => e = .returned (.tuple #[.agg #[.int .i64 kd, .int .i64 id, .int .i64 my, .bool false, .int .i64 0], .bool false, .int .i64 0]) ∧ KPost w' B U pk (clX X q fdn kf) w2 := fun w' hc => by
    refine (HC w' hc).mono ?_
    rintro e w2 ⟨rfl, kp⟩
    refine ⟨?_, kp⟩
    rw [hfl]
    show Ending.returned (.tuple #[_, .bool (wrap64 (nf - 1) == 0), .int .i64 0]) = _
    rw [hn]
    rfl
  replace HC := hid HC
  have hbU : Hid (¬ U (w.heap.size + 1)) := hid (fun hh => by have := hlt.out _ hh; omega)
  have hbV : Hid (¬ U V.heap.size) := hid (fun hh => by have := hlt.out _ hh; have := CA.size; omega)
  replace BA := hid BA
  replace BC := hid BC
  replace CA := hid CA
  clear h h0 lk
  clear hfl hf
  go_region_law
    (first | (go_simp; go_at_call 80; refine (HC.out V.drew (Chg.refl Nil V).drew).mono ?_; rintro e w1 ⟨rfl, kp⟩; obtain ⟨D1, D2⟩ := cl_new kp BC.out hbU.out kd id my; replace kp := hid kp) | (go_simp; go_at_call 80; refine (HC.out ((V.alloc (.cells (flL flZ).toArray 169)).drew) (((Chg.refl Nil V).alloc (.cells (flL flZ).toArray 169)).drew)).mono ?_; rintro e w1 ⟨rfl, kp⟩; have TB := Blk.chg (Blk.drew (Blk.new V 169 (flL flZ))) (KPost.ch kp) hbV.out; obtain ⟨D1, D2⟩ := cl_chain kp BC.out hbU.out hbV.out kd id my; have t0 := TB.cell 0; have t1 := TB.cell 1; have t2 := TB.cell 2; have t3 := TB.cell 3; have t4 := TB.cell 4; have u0 := TB.frozen 0; have u1 := TB.frozen 1; have u2 := TB.frozen 2; have u3 := TB.frozen 3; have u4 := TB.frozen 4; simp only [flL, List.getElem?_cons_succ, List.getElem?_cons_zero] at t0 t1 t2 t3 t4; replace kp := hid kp; replace TB := hid TB))
  all_goals
    first
      | (have TB' := TB; clear TB'; clear t0 t1 t2 t3 t4 u0 u1 u2 u3 u4; generalize hwc : ((((w1.setCell ⟨V.heap.size, 0, none⟩ (.int .i64 kd)).setCell ⟨V.heap.size, 1, none⟩ (.int .i64 id)).setCell ⟨V.heap.size, 2, none⟩ (.int .i64 my)).setCell ⟨V.heap.size, 3, none⟩ (.bool false)).setCell ⟨V.heap.size, 4, none⟩ (.int .i64 0) = wc at D1 D2 ⊢)
      | (have hw0 : w1.alloc (.cells #[.int .i64 kd, .int .i64 id, .int .i64 my, .bool false, .int .i64 0] 169) = w1.alloc (.cells (flL ⟨kd, id, my, false, 0, 0⟩).toArray 169) := rfl; rw [hw0]; clear hw0; generalize hwc : w1.alloc (.cells (flL ⟨kd, id, my, false, 0, 0⟩).toArray 169) = wc at D1 D2 ⊢)
    replace hwc := hid hwc
    clear e1 e1' k6 k6'
    go_wp2_with fail
    refine (kfail_ok wc 0).mono ?_
    rintro e w2 ⟨rfl, c2⟩
    have B2 := D2.out.chg c2 (fun h => h)
    have kp2 := D1.out.nil c2
    obtain ⟨W, S1, S2, S3⟩ := an_store B2 (vs := anC 0 0 0 (.slice none 0 0)) rfl rfl (anC_one _ _ _ _ rfl)
    have kw := hid (KPost.laid CA.out kp2 hbU.out (by omega) BC.out.lt S3)
    replace S2 := hid S2
    clear S3 B2 kp2 c2
    go_wp2_with (refine wpList_store_run S1 (by rfl) (by rfl) (by rfl) (by rfl) ?_)
    refine bodyPost_ret (an_ret rfl S2.out rfl rfl) rfl ?_
    exact ⟨_, rfl, .of rfl kw.out⟩
end Go.Proofs.YtjllklddjkkddaaGreatDoor
namespace Go.Proofs.YtjllklddjkkddaaGreatDoor
open Go.ChangeShapes Go.WideShapes Go.ChangeAt Go.RowKit
set_option linter.unusedVariables false
theorem tkZ_one (j : Nat) : (tkZ j).oneCell' = true := by
  unfold tkZ
  repeat' split
  all_goals rfl
/-- What an end makes of the kernel. -/
def exX (X : KX) (q s : Nat) (st : Int) (fl : Nat → Fl) (fd : Nat → Nat → Nat) (bs : List Int) : KX :=
  { X with pl := updF (orph X.pl q 17) q { orph X.pl q 17 q with state := 2, status := bits .and .i64 st 255 }, fl := fl, fd := fd, pipe := some (1, 0, bs), sp := updF X.sp s false, run := (X.run.doLeave q).1, ts := updP X.ts q 0 38 tkZ }
set_option maxRecDepth 100000 in
set_option maxHeartbeats 4000000 in
theorem kexit_ok (w : World) (B : Nat) (U : Nat → Prop) (pk : Nat) (X : KX) (h : KAt w B U pk X) (q : Nat) (q1 : 2 ≤ q) (q2 : q ≤ 16) (hs : (X.pl q).state = 1) (st : Int)
    (hup : (orph X.pl q 17 q).parent = 1) (hs1 : ((exX X q 0 st X.fl X.fd []).pl 1).state = 1) (hr : ∀ d, d < 8 → X.fd q d ≤ 32) (fl : Nat → Fl) (fd : Nat → Nat → Nat) (nf : Int) (hdr : dropM X.fl X.fd q 8 = (fl, fd, [⟨3, 1, 2, false, 0, nf⟩]))
    (bs : List Int) (hp : X.pipe = some (1, 1, bs)) (s : Nat) (hs0 : X.ts q 0 = .int .i64 (s : Int)) (s2 : s ≤ 16) (hsp : X.sp s = true) (M : Int) (hok : SOk M X.run) (s1 : Int) (ht1 : TsA X.ts 1 s1) :
    Calls Tryz.prog 37 #[.pointer (some ⟨pk, 0, none⟩), .int .i64 (q : Int), .int .i64 st] w fun e w' => e = .returned (.int .i64 0) ∧ KPost w B U pk (exX X q s st fl fd bs) w' := by
  obtain ⟨pc, k7, lk7, HE⟩ := h.pexit q q1 q2 hs st
  rw [hup] at HE
  obtain ⟨up, hup1⟩ : ∃ up : Int, up = 1 := ⟨1, rfl⟩
  replace HE := hid HE
  replace hup := hid hup
  have hlt := hid h.lt
  clear h
  have i0 : ¬ (q : Int) < 0 := by omega
  have i1 : (q : Int) < 17 := by omega
  go_enter Tryz.func37, Tryz.ntmps37
  go_wp2_with fail
  refine (HE.out w (Chg.refl Nil w)).mono ?_
  rintro e w1 ⟨rfl, U1, h1, c1, g1⟩
  obtain ⟨po, k6, lk6, HD⟩ := h1.fdrop q (by omega) q2 hr fl fd _ hdr
  replace HD := hid HD
  replace hdr := hid hdr
  clear h1 k7 HE
  go_wp2_with fail
  refine (HD.out w1 (Chg.refl Nil w1)).mono ?_
  rintro e w2 ⟨a, c, G, rfl, sl, hG, h2, c2⟩
  have c02 : Chg U w w2 := c1.trans c2 (fun k hk hh => by
    rcases g1 k hh with h1 | h1
    · exact h1
    · omega)
  replace c02 := hid c02
  replace g1 := hid g1
  obtain ⟨g, off, rfl, hg, _, hcell⟩ := (sl.rd).2.2.2 (show 0 < [Fl.mk 3 1 2 false 0 nf].length by simp)
  have LL : (Instr.loadAt 169 (.pointer (some ⟨g, off, none⟩))).run Tryz.prog w2 = .ok (.agg #[.int .i64 3, .int .i64 1, .int .i64 2, .bool false, .int .i64 0]) w2 := run_loadAt_mid (P := Tryz.prog) w2 g off 169 (flL ⟨3, 1, 2, false, 0, nf⟩) _ (fun j v hv => by
    have hj : j < 5 := (List.getElem?_eq_some_iff.1 hv).1
    rw [hcell j (by simpa using hj)]
    simpa using hv) Tryz.underlying169 rfl (by kernel_rfl)
  have HG := hid (kgone_ok (w2.alloc (.cells (flL ⟨3, 1, 2, false, 0, nf⟩).toArray 169)) B U1 pk _ (h2.nil ((Chg.refl Nil w2).alloc _)) bs hp)
  have C2 := hid (Chg.refl Nil w2)
  replace h2 := hid h2
  clear sl hG c1 c2 hcell hg k6 HD
  replace hs1 := hid hs1
  replace hs0 := hid hs0
  replace hsp := hid hsp
  replace hok := hid hok
  replace ht1 := hid ht1
  clear hs hr hp lk6 lk7
  go_wp2
  go_loopw [37] (fun i wr => ∃ k : Nat, i = .int .i64 k ∧ Hid ((k = 0 ∧ wr = w2) ∨ (k = 1 ∧ KPost w2 B U1 pk { X with pl := updF (orph X.pl q 17) q { orph X.pl q 17 q with state := 2, status := bits .and .i64 st 255 }, fl := fl, fd := fd, pipe := some (1, 0, bs) } wr))) (fun i _ => 1 - (intOf i).toNat)
  case atStart => exact ⟨0, rfl, .inl ⟨rfl, rfl⟩⟩
  case round =>
    obtain ⟨k, rfl, hr⟩ := hrel
    rcases hr.out with ⟨rfl, rfl⟩ | ⟨rfl, kp⟩
    · clear hr
      go_wp2_with (first | fail | (refine wpList_load_run LL (by rfl) (by rfl) (by rfl) ?_))
      refine HG.out.mono ?_
      rintro e w3 ⟨rfl, kp⟩
      have kp3 := hid (kp.pre ((Chg.refl Nil wr).alloc _))
      clear kp LL HG
      go_wp2
      go_roundw
      case measure => simp [intOf]
      case rel => exact ⟨1, rfl, .inr ⟨rfl, kp3.out⟩⟩
    · clear LL HG h2 hr C2
      obtain ⟨U3, h3, c3, g3⟩ := KPost.trans (X := X) c02.out g1.out kp
      clear kp c02
      obtain ⟨pm, k1, lk, HS⟩ := h3.sdrop s s2 hsp.out
      have k0 : wr.cell? ⟨pk, 8 + q * 38, none⟩ = some (.int .i64 (s : Int)) := by
        obtain ⟨pm, pf, pp, pr, pw, po, pc, pq, FM, FP, FR, FW, hy, _⟩ := h3
        have := hy.kn.t (q := q) (j := 0) (by omega) (by omega)
        rw [show (KX.ts _ q 0) = X.ts q 0 from rfl, hs0.out] at this
        exact this
      replace HS := hid (HS wr.drew (Chg.refl Nil wr).drew)
      replace c3 := hid c3
      replace g3 := hid g3
      clear h3 lk
      go_upto_region 10 with fail
      go_region_law
        (go_simp; go_at_call 74; refine HS.out.mono ?_; rintro e w4 ⟨rfl, kp4⟩; replace kp4 := hid kp4)
      all_goals
        clear k0 k1 HS
        obtain ⟨U4, h4, c4, g4⟩ := KPost.trans (X := X) c3.out g3.out (kp4.out.pre (Chg.refl Nil wr).drew)
        clear kp4 c3 g3
        obtain ⟨pr, k4, lk, HL⟩ := h4.rleave M hok.out (q : Int)
        replace HL := hid (HL w4 (Chg.refl Nil w4))
        replace c4 := hid c4
        replace g4 := hid g4
        clear h4 lk
        go_wp2_with fail
        refine HL.out.mono ?_
        rintro e w5 ⟨rfl, kp5⟩
        clear k4 HL
        obtain ⟨U5, h5, c5, g5⟩ := KPost.trans (X := X) c4.out g4.out kp5
        clear kp5 c4 g4
        obtain ⟨pw, k5, lk, HW⟩ := h5.wout (q : Int)
        replace HW := hid (HW w5 (Chg.refl Nil w5))
        replace h5 := hid h5
        replace c5 := hid c5
        replace g5 := hid g5
        clear lk
        go_wp2_with fail
        refine HW.out.mono ?_
        rintro e w6 ⟨rfl, c6⟩
        have h6 := h5.out.nil c6
        have C6 := c5.out.trans c6 (fun _ _ h => h.elim)
        clear k5 HW h5 c5 c6
        obtain ⟨pm6, pf6, pp6, pr6, pw6, po6, pc6, pq6, FM6, FP6, FR6, FW6, hy, hU6⟩ := h6
        obtain ⟨Q1, _, Q3⟩ := store_part (P := Tryz.prog) (ty := 65) (lo := 8 + q * 38) (vs := tab 38 tkZ) hy.kn (by rw [tab_len, tab_len]; omega) (by rw [tab_len]; kernel_rfl) (tab_one (fun j _ => tkZ_one j))
        have HK2 := KnAt.setP hy.kn (q := q) (lo := 0) (n := 38) (by omega) (by omega) tkZ
        obtain ⟨W7, hW7⟩ : ∃ W7, W7 = w6.setCells pk (8 + q * 38) (tab 38 tkZ) := ⟨_, rfl⟩
        rw [Nat.add_zero] at HK2
        rw [← hW7] at Q1 Q3 HK2
        have K7 := hy.postKn HK2 Q3 (fun _ => by
          show updP X.ts q 0 38 tkZ 1 17 = X.ts 1 17
          unfold updP
          rw [if_neg (by omega)])
        rw [← hU6] at K7
        obtain ⟨U7, h7, c7, g7⟩ := KPost.trans (X := X) C6 g5.out K7
        replace hW7 := hid hW7
        clear hy Q3 HK2 K7 C6 g5
        have ht7 : TsA (updP X.ts q 0 38 tkZ) 1 s1 := by
          have he : ∀ j, updP X.ts q 0 38 tkZ 1 j = X.ts 1 j := fun j => by
            unfold updP
            rw [if_neg (by omega)]
          exact ⟨(he 0).trans ht1.out.sp, fun j hj => (he _).trans (ht1.out.sg j hj), (he 37).trans ht1.out.aw, fun j hj => by rw [he]; exact ht1.out.one j hj⟩
        have HS7 := hid (ksend_ok W7 B U7 pk _ h7 1 (by omega) (by omega) hs1.out s1 ht7)
        replace c7 := hid c7
        replace g7 := hid g7
        clear h7 ht7
        go_wp2_with (refine wpList_store_run Q1 (by rfl) (by rfl) (by rfl) (by rfl) ?_)
        refine HS7.out.mono ?_
        rintro e w8 ⟨rfl, kp8⟩
        have K8 := hid (KPost.trans (X := X) c7.out g7.out kp8)
        clear kp8 c7 g7 HS7 Q1
        go_wp2
        go_ret
        exact ⟨rfl, K8.out⟩
end Go.Proofs.YtjllklddjkkddaaGreatDoor
