/- The kernel's calls about descriptors: a pipe is made. Conditions: the first one · The kernel writes into the pipe. Conditions: a descriptor that gives to it · The kernel's answers: what a call leaves. No program is walked here; no condition. -/
import Derived.Test.YtjllklddjkkddaaGreatDoorZ34
namespace Go.Proofs.YtjllklddjkkddaaGreatDoor
open Go.ChangeShapes Go.WideShapes Go.ChangeAt Go.RowKit
set_option linter.unusedVariables false
theorem boxes2 (w : World) (cc : List Value) :
    Blk ((w.alloc (.cells cc.toArray 36)).alloc (.cells anZ.toArray 33)) w.heap.size 36 cc ∧
    Blk ((w.alloc (.cells cc.toArray 36)).alloc (.cells anZ.toArray 33)) (w.heap.size + 1) 33 anZ := by
  refine ⟨(Blk.new w _ cc).alloc _, ?_⟩
  have := Blk.new (w.alloc (.cells cc.toArray 36)) 33 anZ
  rwa [alloc_size] at this
/-- The answer is laid in a block of its own: the kernel stays. -/
theorem KPost.laid {w V w2 W : World} {B pk b : Nat} {U : Nat → Prop} {X : KX} (hV : Chg Nil w V) (h : KPost V B U pk X w2) (hb : ¬ U b) (hb1 : w.heap.size ≤ b) (hb2 : b < V.heap.size) (hc : Chg (One b) w2 W) : KPost w B U pk X W := by
  obtain ⟨U2, a1, a2, a3⟩ := h
  have hU2 : ¬ U2 b := fun hh => by
    rcases a3 b hh with h1 | h1
    · exact hb h1
    · omega
  refine ⟨U2, a1.chg hc (fun k hk hh => hU2 (by rw [← show k = b from hh]; exact hk)), ((hV.mono (fun _ _ h => h.elim)).trans a2 (fun _ _ h => h)).one (.inr hb1) hc, fun k hk => ?_⟩
  rcases a3 k hk with h1 | h1
  · exact .inl h1
  · exact .inr (Nat.le_trans hV.size h1)
set_option maxRecDepth 100000 in
set_option maxHeartbeats 2000000 in
theorem kdpipe_ok (w : World) (B : Nat) (U : Nat → Prop) (pk : Nat) (X : KX) (h : KAt w B U pk X) (q : Nat) (q1 : 1 ≤ q) (q2 : q ≤ 16) (hp : X.pipe = none) (d0 : X.fd q 0 = 0) (d1 : X.fd q 1 = 0) (n0 : (X.fl 0).n = 0) (n1 : (X.fl 1).n = 0) (a b n : Int) (d : Value) :
    Calls Tryz.prog 39 #[.pointer (some ⟨pk, 0, none⟩), .int .i64 (q : Int), .agg #[.int .i64 10, .int .i64 a, .int .i64 b, .int .i64 n, .string ⟨#[]⟩, .string ⟨#[]⟩, d]] w fun e w' => e = .returned (.agg (anC 0 0 1 (.slice none 0 0)).toArray) ∧ KPost w B U pk { X with pipe := some (1, 1, []), fl := updF (updF X.fl 0 ⟨2, 1, 1, false, 0, 1⟩) 1 ⟨3, 1, 2, false, 0, 1⟩, fd := updD (updD X.fd q 0 1) q 1 2 } w' := by
  obtain ⟨BA, BC⟩ := boxes2 w (clC 10 a b n d)
  have CA : Chg Nil w ((w.alloc (.cells (clC 10 a b n d).toArray 36)).alloc (.cells anZ.toArray 33)) := ((Chg.refl Nil w).alloc _).alloc _
  obtain ⟨V, hV⟩ : ∃ V, V = (w.alloc (.cells (clC 10 a b n d).toArray 36)).alloc (.cells anZ.toArray 33) := ⟨_, rfl⟩
  rw [← hV] at BA BC CA
  have hlt := h.lt
  have HP := kpipe_ok V B U pk X (h.nil CA) q q1 q2 hp d0 d1 n0 n1
  rw [hV] at HP
  replace HP := hid HP
  replace hV := hid hV
  replace BA := hid BA
  replace BC := hid BC
  replace CA := hid CA
  replace hlt := hid hlt
  clear h
  go_enter Tryz.func39, Tryz.ntmps39
  go_wp2_with fail
  refine HP.out.mono ?_
  rintro e w2 ⟨rfl, kp⟩
  rw [← hV.out] at kp
  have hbU : ¬ U (w.heap.size + 1) := fun hh => by have := hlt.out _ hh; omega
  have B2 : Blk w2 (w.heap.size + 1) 33 anZ := by
    obtain ⟨_, _, c2, _⟩ := kp
    exact BC.out.chg c2 hbU
  obtain ⟨W, S1, S2, S3⟩ := an_store B2 (vs := anC 0 0 1 (.slice none 0 0)) rfl rfl (anC_one _ _ _ _ rfl)
  have kw := hid (KPost.laid CA.out kp hbU (by omega) BC.out.lt S3)
  replace S2 := hid S2
  clear S3 B2 kp HP
  go_wp2_with (refine wpList_store_run S1 (by rfl) (by rfl) (by rfl) (by rfl) ?_)
  refine bodyPost_ret (an_ret rfl S2.out rfl rfl) rfl ?_
  exact ⟨rfl, kw.out⟩
end Go.Proofs.YtjllklddjkkddaaGreatDoor
namespace Go.Proofs.YtjllklddjkkddaaGreatDoor
open Go.ChangeShapes Go.WideShapes Go.ChangeAt Go.RowKit
set_option linter.unusedVariables false
set_option maxRecDepth 100000 in
set_option maxHeartbeats 2000000 in
theorem kwrite_wait (w : World) (B : Nat) (U : Nat → Prop) (pk : Nat) (X : KX) (h : KAt w B U pk X) (q : Nat) (bs : List Int) (hp : X.pipe = some (1, 1, bs)) (hs : bs.length = 64) (a b n : Int) (da : Option Addr) (dl dc : Nat) (hd0 : 0 < dl) (hd : dl ≤ 256) :
    Calls Tryz.prog 84 #[.pointer (some ⟨pk, 0, none⟩), .int .i64 (q : Int), .agg #[.int .i64 8, .int .i64 a, .int .i64 b, .int .i64 n, .string ⟨#[]⟩, .string ⟨#[]⟩, .slice da dl dc], .agg #[.int .i64 3, .int .i64 1, .int .i64 2, .bool false, .int .i64 0]] w fun e w' => e = .returned (.agg (anC 9 0 0 (.slice none 0 0)).toArray) ∧ Chg Nil w w' := by
  obtain ⟨pm, pf, pp, pr, pw, po, pc, pq, FM, FP, FR, FW, h, rfl⟩ := h
  have P0 := h.pi
  rw [hp] at P0
  obtain ⟨g, P0⟩ := P0
  have hlk := Blk.lt h.kn
  have HR := hid (fun w' (hc : Chg Nil w w') => piwrite_wait w' FP pp g bs (P0.nil hc) hs da dl dc hd0 hd)
  have k3 : w.cell? ⟨pk, 3, none⟩ = some (.pointer (some ⟨pp, 0, none⟩)) := h.kn.h (i := 3) (by omega)
  have o1 : bits BinOp.and IntKind.i64 2 2 = 2 := by kernel_rfl
  have i2 : ¬ (256 : Int) < (dl : Int) := by omega
  clear h P0 hp
  go_enter Tryz.func84, Tryz.ntmps84
  go_wp2
  obtain ⟨BA, BB, BC⟩ := boxes w (clC 8 a b n (.slice da dl dc)) [.int .i64 3, .int .i64 1, .int .i64 2, .bool false, .int .i64 0]
  have CA : Chg Nil w (((w.alloc (.cells (clC 8 a b n (.slice da dl dc)).toArray 36)).alloc (.cells [Value.int .i64 3, .int .i64 1, .int .i64 2, .bool false, .int .i64 0].toArray 169)).alloc (.cells anZ.toArray 33)) := (((Chg.refl Nil w).alloc _).alloc _).alloc _
  generalize hV : ((w.alloc (.cells #[.int .i64 8, .int .i64 a, .int .i64 b, .int .i64 n, .string ⟨#[]⟩, .string ⟨#[]⟩, .slice da dl dc] 36)).alloc (.cells #[.int .i64 3, .int .i64 1, .int .i64 2, .bool false, .int .i64 0] 169)).alloc (.cells #[.int .i64 0, .int .i64 0, .int .i64 0, .slice none 0 0, .slice none 0 0, .int .i64 0, .int .i64 0, .int .i64 0, .int .i64 0, .int .i64 0, .int .i64 0] 33) = V
  have hV' : ((w.alloc (.cells (clC 8 a b n (.slice da dl dc)).toArray 36)).alloc (.cells [Value.int .i64 3, .int .i64 1, .int .i64 2, .bool false, .int .i64 0].toArray 169)).alloc (.cells anZ.toArray 33) = V := hV
  rw [hV'] at BA BB BC CA
  replace hV := hid hV
  replace hV' := hid hV'
  have k3V := (CA.cell (a := ⟨pk, 3, none⟩) hlk (fun h => h)).trans k3
  have e3 := BA.cell 6
  have e1 := BB.cell 1
  simp only [clC, List.getElem?_cons_succ, List.getElem?_cons_zero] at e3 e1
  have HRV := hid (HR.out V.drew CA.drew)
  replace BA := hid BA
  replace BB := hid BB
  replace BC := hid BC
  replace CA := hid CA
  obtain ⟨W, S1, S2, S3⟩ := an_store (Blk.drew BC.out) (vs := anC 9 0 0 (.slice none 0 0)) rfl rfl (anC_one _ _ _ _ rfl)
  have CW := hid (CA.out.drew.one (g := w.heap.size + 1 + 1) (.inr (by omega)) S3)
  replace S1 := hid S1
  replace S2 := hid S2
  clear S3
  clear k3 HR
  go_region_law
    (go_simp; go_at_call 160; refine HRV.out.mono ?_; rintro e w2 ⟨rfl, rfl⟩)
  all_goals
    clear e3 e1 k3V
    go_wp2_with (refine wpList_store_run S1.out (by rfl) (by rfl) (by rfl) (by rfl) ?_)
    refine bodyPost_ret (an_ret rfl S2.out rfl rfl) rfl ?_
    exact ⟨rfl, CW.out⟩
set_option maxRecDepth 100000 in
set_option maxHeartbeats 2000000 in
theorem kwrite_ok (w : World) (B : Nat) (U : Nat → Prop) (pk : Nat) (X : KX) (h : KAt w B U pk X) (q : Nat) (bs : List Int) (hp : X.pipe = some (1, 1, bs)) (a b n : Int) (R : Nat → Prop) (da : Option Addr) (dl dc : Nat) (ds : List Int) (hds : Rd w R 1 da dl dc (bys ds)) (hd : dl ≤ 256) (hw : dl = 0 ∨ bs.length < 64) :
    Calls Tryz.prog 84 #[.pointer (some ⟨pk, 0, none⟩), .int .i64 (q : Int), .agg #[.int .i64 8, .int .i64 a, .int .i64 b, .int .i64 n, .string ⟨#[]⟩, .string ⟨#[]⟩, .slice da dl dc], .agg #[.int .i64 3, .int .i64 1, .int .i64 2, .bool false, .int .i64 0]] w fun e w' => e = .returned (.agg (anC 0 ((min dl (64 - bs.length) : Nat) : Int) 0 (.slice none 0 0)).toArray) ∧ KPost w B U pk { X with pipe := some (1, 1, bs ++ ds.take (min dl (64 - bs.length))) } w' := by
  obtain ⟨m, hm⟩ : ∃ m, m = min dl (64 - bs.length) := ⟨_, rfl⟩
  rw [← hm]
  obtain ⟨pm, pf, pp, pr, pw, po, pc, pq, FM, FP, FR, FW, h, rfl⟩ := h
  have P0 := h.pi
  rw [hp] at P0
  obtain ⟨g, P0⟩ := P0
  have hlk := Blk.lt h.kn
  have HR := hid (fun w' (hc : Chg Nil w w') => piwrite_ok w' FP pp g bs (P0.nil hc) R da dl dc ds (hds.chg hc (fun _ _ _ h => h)) hd hw)
  have hFP := hid h.pi.lt
  have H := hid h
  have k3 : w.cell? ⟨pk, 3, none⟩ = some (.pointer (some ⟨pp, 0, none⟩)) := h.kn.h (i := 3) (by omega)
  have o1 : bits BinOp.and IntKind.i64 2 2 = 2 := by kernel_rfl
  have i2 : ¬ (256 : Int) < (dl : Int) := by omega
  clear h P0 hp hw hds
  go_enter Tryz.func84, Tryz.ntmps84
  go_wp2
  obtain ⟨BA, BB, BC⟩ := boxes w (clC 8 a b n (.slice da dl dc)) [.int .i64 3, .int .i64 1, .int .i64 2, .bool false, .int .i64 0]
  have CA : Chg Nil w (((w.alloc (.cells (clC 8 a b n (.slice da dl dc)).toArray 36)).alloc (.cells [Value.int .i64 3, .int .i64 1, .int .i64 2, .bool false, .int .i64 0].toArray 169)).alloc (.cells anZ.toArray 33)) := (((Chg.refl Nil w).alloc _).alloc _).alloc _
  generalize hV : ((w.alloc (.cells #[.int .i64 8, .int .i64 a, .int .i64 b, .int .i64 n, .string ⟨#[]⟩, .string ⟨#[]⟩, .slice da dl dc] 36)).alloc (.cells #[.int .i64 3, .int .i64 1, .int .i64 2, .bool false, .int .i64 0] 169)).alloc (.cells #[.int .i64 0, .int .i64 0, .int .i64 0, .slice none 0 0, .slice none 0 0, .int .i64 0, .int .i64 0, .int .i64 0, .int .i64 0, .int .i64 0, .int .i64 0] 33) = V
  have hV' : ((w.alloc (.cells (clC 8 a b n (.slice da dl dc)).toArray 36)).alloc (.cells [Value.int .i64 3, .int .i64 1, .int .i64 2, .bool false, .int .i64 0].toArray 169)).alloc (.cells anZ.toArray 33) = V := hV
  rw [hV'] at BA BB BC CA
  replace hV := hid hV
  replace hV' := hid hV'
  have k3V := (CA.cell (a := ⟨pk, 3, none⟩) hlk (fun h => h)).trans k3
  have e3 := BA.cell 6
  have e1 := BB.cell 1
  simp only [clC, List.getElem?_cons_succ, List.getElem?_cons_zero] at e3 e1
  have HRV := HR.out V.drew CA.drew
  rw [← hm] at HRV
  replace HRV := hid HRV
  replace hm := hid hm
  replace BA := hid BA
  replace BB := hid BB
  replace BC := hid BC
  replace CA := hid CA
  clear k3 HR
  go_region_law
    (go_simp; go_at_call 160; refine HRV.out.mono ?_; rintro e w2 ⟨rfl, F2, p2, d2, g2⟩; replace p2 := hid p2; replace d2 := hid d2; replace g2 := hid g2)
  all_goals
    clear e3 e1 k3V
    have hbF : ¬ FP (w.heap.size + 1 + 1) := fun hh => by have := hFP.out _ hh; omega
    have B2 := Blk.chg (Blk.drew BC.out) d2.out hbF
    obtain ⟨U2, a3, c3, g3⟩ := (H.out.nil CA.out.drew).postPi (o := some (1, 1, bs ++ ds.take m)) ⟨g, p2.out⟩ d2.out g2.out
    obtain ⟨W, S1, S2, S3⟩ := an_store B2 (vs := anC 0 (m : Int) 0 (.slice none 0 0)) rfl rfl (anC_one _ _ _ _ rfl)
    have hU2 : ¬ U2 (w.heap.size + 1 + 1) := fun hh => by
      have hsz := BC.out.lt
      rcases g3 _ hh with h1 | h1
      · obtain ⟨i, F, hi, hk⟩ := h1
        have := H.out.sep.lt i hi _ hk
        omega
      · have : V.drew.heap.size = V.heap.size := rfl
        omega
    have a4 := hid (a3.chg S3 (fun k hk hh => hU2 (by rw [← show k = w.heap.size + 1 + 1 from hh]; exact hk)))
    have c4 := hid (((CA.out.drew.mono (fun _ _ h => h.elim)).trans c3 (fun _ _ h => h)).one (g := w.heap.size + 1 + 1) (.inr (by omega)) S3)
    have g4 : Hid (Grew w.heap.size (uni (kFs pk po pc pq X.cw FM FP FR FW)) U2) := hid (fun k hk => by
      rcases g3 k hk with h1 | h1
      · exact .inl h1
      · exact .inr (Nat.le_trans CA.out.drew.size h1))
    replace S2 := hid S2
    clear a3 c3 g3 S3 B2 hU2 hbF
    go_wp2_with (refine wpList_store_run S1 (by rfl) (by rfl) (by rfl) (by rfl) ?_)
    refine bodyPost_ret (an_ret rfl S2.out rfl rfl) rfl ?_
    exact ⟨rfl, U2, a4.out, c4.out, g4.out⟩
end Go.Proofs.YtjllklddjkkddaaGreatDoor
namespace Go.Proofs.YtjllklddjkkddaaGreatDoor
open Go.ChangeShapes Go.WideShapes Go.ChangeAt Go.RowKit
set_option linter.unusedVariables false
/-- An answer with some bytes, and the kernel behind it. -/
def AnPost (w : World) (B : Nat) (U : Nat → Prop) (pk : Nat) (XP : KX → Prop) (n a b : Int) (ds : List Int) (vs : List Value) (w' : World) : Prop :=
  ∃ X sa sc G, XP X ∧ vs = anC n a b (.slice sa ds.length sc) ∧ Sl w' 5 1 sa ds.length sc (bys ds) G ∧ KPost w B U pk X w'
section
variable {w w' V W : World} {B pk b0 : Nat} {U : Nat → Prop} {X : KX} {XP : KX → Prop} {n a b : Int} {ds : List Int} {vs cs : List Value}
theorem AnPost.len (h : AnPost w B U pk XP n a b ds vs w') : vs.length = 11 := by
  obtain ⟨X, sa, sc, G, hX, rfl, _⟩ := h
  rfl
theorem AnPost.one (h : AnPost w B U pk XP n a b ds vs w') : ∀ u ∈ vs, u.oneCell' = true := by
  obtain ⟨X, sa, sc, G, hX, rfl, _⟩ := h
  exact anC_one _ _ _ _ rfl
theorem AnPost.size (h : AnPost w B U pk XP n a b ds vs w') : w.heap.size ≤ w'.heap.size := by
  obtain ⟨X, sa, sc, G, hX, rfl, _, U2, _, h2, _⟩ := h
  exact h2.size
theorem AnPost.keeps {t : TypeId} (h : AnPost w B U pk XP n a b ds vs w') (hB : Blk w b0 t cs) (hb : ¬ U b0) : Blk w' b0 t cs := by
  obtain ⟨X, sa, sc, G, hX, rfl, _, U2, _, h2, _⟩ := h
  exact hB.chg h2 hb
theorem AnPost.laid (hV : Chg Nil w V) (h : AnPost V B U pk XP n a b ds vs w') (hb : ¬ U b0) (h1 : w.heap.size ≤ b0) (h2 : b0 < V.heap.size) (hB : Blk w' b0 33 cs) (hc : Chg (One b0) w' W) : AnPost w B U pk XP n a b ds vs W := by
  obtain ⟨X, sa, sc, G, hX, rfl, hs, hk⟩ := h
  exact ⟨X, sa, sc, G, hX, rfl, hs.chg hc (fun g hg hh => hs.ne_blk hB (by decide) (by rw [hg, show g = b0 from hh])), hk.laid hV hb h1 h2 hc⟩
theorem AnPost.of (hX : XP X) (h : KPost w B U pk X w') : AnPost w B U pk XP n a b [] (anC n a b (.slice none 0 0)) w' := ⟨X, none, 0, none, hX, rfl, Sl.empty _ _ _ _, h⟩
theorem AnPost.same (hX : XP X) (h : KAt w B U pk X) (hc : Chg Nil w w') : AnPost w B U pk XP n a b [] (anC n a b (.slice none 0 0)) w' := .of hX ⟨U, h.nil hc, hc.mono (fun _ _ h => h.elim), Grew.refl _ _⟩
theorem AnPost.pre (hV : Chg Nil w V) (h : AnPost V B U pk XP n a b ds vs w') : AnPost w B U pk XP n a b ds vs w' := by
  obtain ⟨X, sa, sc, G, hX, rfl, hs, hk⟩ := h
  exact ⟨X, sa, sc, G, hX, rfl, hs, hk.pre hV⟩
theorem AnPost.nil (h : AnPost w B U pk XP n a b ds vs w') (hc : Chg Nil w' W) : AnPost w B U pk XP n a b ds vs W := by
  obtain ⟨X, sa, sc, G, hX, rfl, hs, hk⟩ := h
  exact ⟨X, sa, sc, G, hX, rfl, hs.chg hc (fun _ _ h => h), hk.nil hc⟩
end
/-- A call of the kernel that ends in an answer. -/
def KCall (f : FuncId) (args : Array Value) (w : World) (B : Nat) (U : Nat → Prop) (pk : Nat) (XP : KX → Prop) (n a b : Int) (ds : List Int) : Prop :=
  Calls Tryz.prog f args w fun e w' => ∃ vs, e = .returned (.agg vs.toArray) ∧ AnPost w B U pk XP n a b ds vs w'
end Go.Proofs.YtjllklddjkkddaaGreatDoor
