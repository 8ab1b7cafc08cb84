/- The kernel's do: which kind of call it is. Conditions: a call about descriptors, an end, a fork, a wait · The kernel is asked. Conditions: a process that lives, does not sleep, and to which no signal came · A thing that is open, in a block of its own. No program is walked here; no condition. -/
import Derived.Test.YtjllklddjkkddaaGreatDoorZ35
import Derived.Deep.QuietTactic
import Derived.BigQuiet
namespace Go.Proofs.YtjllklddjkkddaaGreatDoor
open Go.ChangeShapes Go.WideShapes Go.ChangeAt Go.RowKit
set_option linter.unusedVariables false
set_option maxRecDepth 100000 in
set_option maxHeartbeats 4000000 in
theorem kdo_desc (w : World) (B : Nat) (U : Nat → Prop) (pk : Nat) (X : KX) (XP : KX → Prop) (h : KAt w B U pk X) (q : Nat) (num ca cb cn n a b : Int) (d : Value) (ds : List Int) (hn : num = 6 ∨ num = 7 ∨ num = 8 ∨ num = 10)
    (HD : ∀ w', Chg Nil w w' → KCall 39 #[.pointer (some ⟨pk, 0, none⟩), .int .i64 (q : Int), .agg #[.int .i64 num, .int .i64 ca, .int .i64 cb, .int .i64 cn, .string ⟨#[]⟩, .string ⟨#[]⟩, d]] w' B U pk XP n a b ds) :
    KCall 18 #[.pointer (some ⟨pk, 0, none⟩), .int .i64 (q : Int), .agg #[.int .i64 num, .int .i64 ca, .int .i64 cb, .int .i64 cn, .string ⟨#[]⟩, .string ⟨#[]⟩, d]] w B U pk XP n a b ds := by
  obtain ⟨BA, BC⟩ := boxes2 w (clC num ca cb cn d)
  have CA : Chg Nil w ((w.alloc (.cells (clC num ca cb cn d).toArray 36)).alloc (.cells anZ.toArray 33)) := ((Chg.refl Nil w).alloc _).alloc _
  have hlt := h.lt
  have HP := HD _ CA
  have hbU : ¬ U (w.heap.size + 1) := fun hh => by have := hlt _ hh; omega
  replace HP := hid HP
  replace BA := hid BA
  replace BC := hid BC
  replace CA := hid CA
  replace hbU := hid hbU
  clear h hlt HD
  unfold KCall
  rcases hn with rfl | rfl | rfl | rfl
  all_goals
    go_enter Tryz.func18, Tryz.ntmps18
    go_wp2_with fail
    refine HP.out.mono ?_
    rintro e w2 ⟨vs, rfl, kp⟩
    have B2 := kp.keeps BC.out hbU.out
    obtain ⟨W, S1, S2, S3⟩ := an_store B2 (vs := vs) rfl kp.len kp.one
    have kw := hid (AnPost.laid CA.out kp hbU.out (by omega) BC.out.lt B2 S3)
    have hl := hid kp.len
    replace S2 := hid S2
    clear S3 B2 kp HP
    go_wp2_with (refine wpList_store_run S1 (by rfl) (by rfl) (by rfl) (by rfl) ?_)
    refine bodyPost_ret (an_ret rfl S2.out hl.out rfl) rfl ?_
    exact ⟨vs, rfl, kw.out⟩
set_option maxRecDepth 100000 in
set_option maxHeartbeats 4000000 in
theorem kdo_proc (w : World) (B : Nat) (U : Nat → Prop) (pk : Nat) (X : KX) (XP : KX → Prop) (h : KAt w B U pk X) (q : Nat) (num ca cb cn n a b : Int) (d : Value) (ds : List Int) (hn : num = 1 ∨ num = 2 ∨ num = 4)
    (HD : ∀ w', Chg Nil w w' → KCall 41 #[.pointer (some ⟨pk, 0, none⟩), .int .i64 (q : Int), .agg #[.int .i64 num, .int .i64 ca, .int .i64 cb, .int .i64 cn, .string ⟨#[]⟩, .string ⟨#[]⟩, d]] w' B U pk XP n a b ds) :
    KCall 18 #[.pointer (some ⟨pk, 0, none⟩), .int .i64 (q : Int), .agg #[.int .i64 num, .int .i64 ca, .int .i64 cb, .int .i64 cn, .string ⟨#[]⟩, .string ⟨#[]⟩, d]] w B U pk XP n a b ds := by
  obtain ⟨BA, BC⟩ := boxes2 w (clC num ca cb cn d)
  have CA : Chg Nil w ((w.alloc (.cells (clC num ca cb cn d).toArray 36)).alloc (.cells anZ.toArray 33)) := ((Chg.refl Nil w).alloc _).alloc _
  have hlt := h.lt
  have HP := HD _ CA
  have hbU : ¬ U (w.heap.size + 1) := fun hh => by have := hlt _ hh; omega
  replace HP := hid HP
  replace BA := hid BA
  replace BC := hid BC
  replace CA := hid CA
  replace hbU := hid hbU
  clear h hlt HD
  unfold KCall
  rcases hn with rfl | rfl | rfl
  all_goals
    go_enter Tryz.func18, Tryz.ntmps18
    go_wp2_with fail
    refine HP.out.mono ?_
    rintro e w2 ⟨vs, rfl, kp⟩
    have B2 := kp.keeps BC.out hbU.out
    obtain ⟨W, S1, S2, S3⟩ := an_store B2 (vs := vs) rfl kp.len kp.one
    have kw := hid (AnPost.laid CA.out kp hbU.out (by omega) BC.out.lt B2 S3)
    have hl := hid kp.len
    replace S2 := hid S2
    clear S3 B2 kp HP
    go_wp2_with (refine wpList_store_run S1 (by rfl) (by rfl) (by rfl) (by rfl) ?_)
    refine bodyPost_ret (an_ret rfl S2.out hl.out rfl) rfl ?_
    exact ⟨vs, rfl, kw.out⟩
end Go.Proofs.YtjllklddjkkddaaGreatDoor
namespace Go.Proofs.YtjllklddjkkddaaGreatDoor
open Go.ChangeShapes Go.WideShapes Go.ChangeAt Go.RowKit
set_option linter.unusedVariables false
/-- An answer, apart from one block. -/
def AnQ (w : World) (B : Nat) (U : Nat → Prop) (pk : Nat) (XP : KX → Prop) (n a b : Int) (ds : List Int) (b0 : Nat) (vs : List Value) (w' : World) : Prop :=
  ∃ X sa sc G U', XP X ∧ vs = anC n a b (.slice sa ds.length sc) ∧ Sl w' 5 1 sa ds.length sc (bys ds) G ∧ G ≠ some b0 ∧ KAt w' B U' pk X ∧ ¬ U' b0 ∧ Chg U w w' ∧ Grew w.heap.size U U' ∧ w.heap.size ≤ b0
theorem AnPost.q {w V w' : World} {B pk b0 : Nat} {U : Nat → Prop} {XP : KX → Prop} {n a b : Int} {ds : List Int} {vs cs : List Value} (hV : Chg Nil w V) (h : AnPost V B U pk XP n a b ds vs w') (hb : ¬ U b0) (h1 : w.heap.size ≤ b0) (h2 : b0 < V.heap.size) (hB : Blk w' b0 33 cs) : AnQ w B U pk XP n a b ds b0 vs w' := by
  obtain ⟨X, sa, sc, G, hX, rfl, hs, U2, a1, a2, a3⟩ := h
  refine ⟨X, sa, sc, G, U2, hX, rfl, hs, hs.ne_blk hB (by decide), a1, fun hh => ?_, (hV.mono (fun _ _ h => h.elim)).trans a2 (fun _ _ h => h), fun k hk => ?_, h1⟩
  · rcases a3 b0 hh with h3 | h3
    · exact hb h3
    · omega
  · rcases a3 k hk with h3 | h3
    · exact .inl h3
    · exact .inr (Nat.le_trans hV.size h3)
theorem AnQ.far {w w' W : World} {B pk b0 : Nat} {U : Nat → Prop} {XP : KX → Prop} {n a b : Int} {ds : List Int} {vs : List Value} (h : AnQ w B U pk XP n a b ds b0 vs w') (hc : Chg (One b0) w' W) : AnQ w B U pk XP n a b ds b0 vs W := by
  obtain ⟨X, sa, sc, G, U2, hX, rfl, hs, hG, a1, hU, a2, a3, h1⟩ := h
  exact ⟨X, sa, sc, G, U2, hX, rfl, hs.chg hc (fun g hg hh => hG (by rw [hg, show g = b0 from hh])), hG, a1.chg hc (fun k hk hh => hU (by rw [← show k = b0 from hh]; exact hk)), hU, a2.one (.inr h1) hc, a3, h1⟩
theorem AnQ.post {w w' : World} {B pk b0 : Nat} {U : Nat → Prop} {XP : KX → Prop} {n a b : Int} {ds : List Int} {vs : List Value} (h : AnQ w B U pk XP n a b ds b0 vs w') : AnPost w B U pk XP n a b ds vs w' := by
  obtain ⟨X, sa, sc, G, U2, hX, rfl, hs, hG, a1, hU, a2, a3, h1⟩ := h
  exact ⟨X, sa, sc, G, hX, rfl, hs, U2, a1, a2, a3⟩
set_option maxRecDepth 100000 in
set_option maxHeartbeats 4000000 in
theorem kask1_ok (w : World) (B : Nat) (U : Nat → Prop) (pk : Nat) (X : KX) (XP : KX → Prop) (h : KAt w B U pk X) (q : Nat) (num ca cb cn n a b : Int) (d : Value) (ds : List Int) (b1 b2 b3 : Nat)
    (B1 : Blk w b1 24 [.pointer (some ⟨pk, 0, none⟩)]) (B2 : Blk w b2 3 [.int .i64 (q : Int)]) (B3 : Blk w b3 36 (clC num ca cb cn d))
    (HD : ∀ w', Chg Nil w w' → KCall 18 #[.pointer (some ⟨pk, 0, none⟩), .int .i64 (q : Int), .agg #[.int .i64 num, .int .i64 ca, .int .i64 cb, .int .i64 cn, .string ⟨#[]⟩, .string ⟨#[]⟩, d]] w' B U pk XP n a b ds) :
    KCall 17 #[.pointer (some ⟨b1, 0, none⟩), .pointer (some ⟨b2, 0, none⟩), .pointer (some ⟨b3, 0, none⟩)] w B U pk XP n a b ds := by
  have CA : Chg Nil w (w.alloc (.cells anZ.toArray 33)) := (Chg.refl Nil w).alloc _
  have BC := Blk.new w 33 anZ
  have k1 := (B1.alloc (.cells anZ.toArray 33)).cell 0
  have k2 := (B2.alloc (.cells anZ.toArray 33)).cell 0
  have LA := load_blk (P := Tryz.prog) (ty := 36) (B3.alloc (.cells anZ.toArray 33)) Tryz.underlying36 rfl (by kernel_rfl)
  simp only [List.getElem?_cons_zero] at k1 k2
  have k1' : (w.alloc (.cells #[.int .i64 0, .int .i64 0, .int .i64 0, .slice none 0 0, .slice none 0 0, .int .i64 0, .int .i64 0, .int .i64 0, .int .i64 0, .int .i64 0, .int .i64 0] 33)).cell? ⟨b1, 0, none⟩ = some (.pointer (some ⟨pk, 0, none⟩)) := k1
  have k2' : (w.alloc (.cells #[.int .i64 0, .int .i64 0, .int .i64 0, .slice none 0 0, .slice none 0 0, .int .i64 0, .int .i64 0, .int .i64 0, .int .i64 0, .int .i64 0, .int .i64 0] 33)).cell? ⟨b2, 0, none⟩ = some (.int .i64 (q : Int)) := k2
  clear k1 k2
  have hlt := h.lt
  have HP := HD _ CA
  have hbU : ¬ U w.heap.size := fun hh => by have := hlt _ hh; omega
  replace HP := hid HP
  replace BC := hid BC
  replace CA := hid CA
  replace hbU := hid hbU
  clear h hlt HD B1 B2 B3
  unfold KCall
  go_enter Tryz.func17, Tryz.ntmps17
  go_wp2_with (refine wpList_load_run LA (by rfl) (by rfl) (by rfl) ?_)
  refine HP.out.mono ?_
  rintro e w2 ⟨vs, rfl, kp⟩
  have B2 := kp.keeps BC.out hbU.out
  obtain ⟨W, S1, S2, S3⟩ := an_store B2 (vs := vs) rfl kp.len kp.one
  have kw := hid (AnPost.laid CA.out kp hbU.out (Nat.le_refl _) BC.out.lt B2 S3)
  have hl := hid kp.len
  replace S2 := hid S2
  clear S3 B2 kp HP k1' k2' LA
  go_wp2_with (refine wpList_store_run S1 (by rfl) (by rfl) (by rfl) (by rfl) ?_)
  refine bodyPost_ret (an_ret rfl S2.out hl.out rfl) rfl ?_
  exact ⟨vs, rfl, kw.out⟩
theorem boxes4 (w : World) (cc : List Value) (pk q : Nat) :
    ∀ V, V = (((w.alloc (.cells #[.pointer (some ⟨pk, 0, none⟩)] 24)).alloc (.cells #[.int .i64 (q : Int)] 3)).alloc (.cells cc.toArray 36)).alloc (.cells anZ.toArray 33) →
    Blk V w.heap.size 24 [.pointer (some ⟨pk, 0, none⟩)] ∧ Blk V (w.heap.size + 1) 3 [.int .i64 (q : Int)] ∧ Blk V (w.heap.size + 1 + 1) 36 cc ∧ Blk V (w.heap.size + 1 + 1 + 1) 33 anZ ∧ Chg Nil w V := by
  intro V hV
  subst hV
  refine ⟨(((Blk.new w _ [.pointer (some ⟨pk, 0, none⟩)]).alloc _).alloc _).alloc _, ?_, ?_, ?_, ((((Chg.refl Nil w).alloc _).alloc _).alloc _).alloc _⟩
  · have := ((Blk.new (w.alloc (.cells #[.pointer (some ⟨pk, 0, none⟩)] 24)) 3 [.int .i64 (q : Int)]).alloc (.cells cc.toArray 36)).alloc (.cells anZ.toArray 33)
    rwa [alloc_size] at this
  · have := (Blk.new ((w.alloc (.cells #[.pointer (some ⟨pk, 0, none⟩)] 24)).alloc (.cells #[.int .i64 (q : Int)] 3)) 36 cc).alloc (.cells anZ.toArray 33)
    rwa [alloc_size, alloc_size] at this
  · have := Blk.new (((w.alloc (.cells #[.pointer (some ⟨pk, 0, none⟩)] 24)).alloc (.cells #[.int .i64 (q : Int)] 3)).alloc (.cells cc.toArray 36)) 33 anZ
    rwa [alloc_size, alloc_size, alloc_size] at this
set_option maxRecDepth 100000 in
set_option maxHeartbeats 4000000 in
theorem kask_ok (w : World) (B : Nat) (U : Nat → Prop) (pk : Nat) (X : KX) (XP : KX → Prop) (h : KAt w B U pk X) (q : Nat) (q1 : 1 ≤ q) (q2 : q ≤ 16) (hs : (X.pl q).state = 1) (s : Int) (ht : TsA X.ts q s) (num ca cb cn n a b : Int) (d : Value) (ds : List Int)
    (HD : ∀ w', Chg Nil w w' → KCall 18 #[.pointer (some ⟨pk, 0, none⟩), .int .i64 (q : Int), .agg #[.int .i64 num, .int .i64 ca, .int .i64 cb, .int .i64 cn, .string ⟨#[]⟩, .string ⟨#[]⟩, d]] w' B U pk XP n a b ds) :
    KCall 5 #[.pointer (some ⟨pk, 0, none⟩), .int .i64 (q : Int), .agg #[.int .i64 num, .int .i64 ca, .int .i64 cb, .int .i64 cn, .string ⟨#[]⟩, .string ⟨#[]⟩, d]] w B U pk XP n a b ds := by
  have hmf : ∀ (fn : Fn) (first cap : Array Value) (w : World), (Instr.makeFunc fn first cap).run Tryz.prog w = .ok (.func fn first cap) w := fun _ _ _ _ => rfl
  obtain ⟨V, hV⟩ : ∃ V, V = (((w.alloc (.cells #[.pointer (some ⟨pk, 0, none⟩)] 24)).alloc (.cells #[.int .i64 (q : Int)] 3)).alloc (.cells (clC num ca cb cn d).toArray 36)).alloc (.cells anZ.toArray 33) := ⟨_, rfl⟩
  obtain ⟨B1, B2, B3, B4, C4⟩ := boxes4 w (clC num ca cb cn d) pk q V hV
  have hlt := h.lt
  have hbU : ∀ k, w.heap.size ≤ k → ¬ U k := fun k hk hh => by have := hlt _ hh; omega
  have HV := h.nil C4
  have HL := hid (kliving_ok B V pk X HV.st q q1 q2 hs)
  have k1 := B1.cell 0
  have k2 := B2.cell 0
  simp only [List.getElem?_cons_zero] at k1 k2
  have i0 : ¬ (q : Int) < 0 := by omega
  have i1 : (q : Int) < 17 := by omega
  have kas : V.cell? ⟨pk, 8 + q * 38 + 37, none⟩ = some (.bool false) := by
    obtain ⟨pm, pf, pp, pr, pw, po, pc, pq, FM, FP, FR, FW, hy, _⟩ := HV
    rw [hy.kn.t (q := q) (j := 37) (by omega) (by omega), ht.aw]
  have HB := hid (fun w' (hc : Chg Nil V w') => kbetween_ok B w' pk X (HV.nil hc).st q q1 q2 s ht)
  replace HV := hid HV
  replace HD := hid HD
  replace hbU := hid hbU
  replace B1 := hid B1
  replace B2 := hid B2
  replace B3 := hid B3
  replace B4 := hid B4
  replace C4 := hid C4
  replace hV := hid hV
  clear h hlt hs ht
  unfold KCall
  go_enter Tryz.func5, Tryz.ntmps5
  go_upto_region 1 with fail
  have hV2 : (((w.alloc (.cells #[.pointer (some ⟨pk, 0, none⟩)] 24)).alloc (.cells #[.int .i64 (q : Int)] 3)).alloc (.cells #[.int .i64 num, .int .i64 ca, .int .i64 cb, .int .i64 cn, .string ⟨#[]⟩, .string ⟨#[]⟩, d] 36)).alloc (.cells #[.int .i64 0, .int .i64 0, .int .i64 0, .slice none 0 0, .slice none 0 0, .int .i64 0, .int .i64 0, .int .i64 0, .int .i64 0, .int .i64 0, .int .i64 0] 33) = V := hV.out.symm
  rw [hV2]
  replace hV2 := hid hV2
  go_wp2_with fail
  refine HL.out.mono ?_
  rintro e w' ⟨rfl, rfl⟩
  go_upto_region 4 with fail
  go_quiet (fail)
  clear kas i0 i1
  go_wp2_with fail
  refine (HB.out _ ((Chg.refl Nil V).drewN _)).mono ?_
  rintro e w3 ⟨rfl, c3⟩
  have C3 := ((Chg.refl Nil V).drewN _).trans c3 (fun _ _ h => h)
  have D1 := B1.out.chg C3 (fun h => h)
  have D2 := B2.out.chg C3 (fun h => h)
  have D3 := B3.out.chg C3 (fun h => h)
  have D4 := hid (B4.out.chg C3 (fun h => h))
  have H3 := HV.out.nil C3
  have C03 := hid (C4.out.trans C3 (fun _ _ h => h))
  have HQ := hid (catch_ok w3 #[.pointer (some ⟨w.heap.size, 0, none⟩), .pointer (some ⟨w.heap.size + 1, 0, none⟩), .pointer (some ⟨w.heap.size + 1 + 1, 0, none⟩)] (fun cs w' => AnQ w3 B U pk XP n a b ds w3.heap.size cs w' ∧ (∀ u ∈ cs, u.oneCell' = true) ∧ Blk w' (w.heap.size + 1 + 1 + 1) 33 anZ) (fun w4 c4 hs4 B44 => by
    have hlt : w.heap.size + 1 + 1 + 1 < w3.heap.size := D4.out.lt
    refine (kask1_ok w4 B U pk X XP (H3.nil c4) q num ca cb cn n a b d ds w.heap.size (w.heap.size + 1) (w.heap.size + 1 + 1) (D1.chg c4 (fun h => h)) (D2.chg c4 (fun h => h)) (D3.chg c4 (fun h => h)) (fun w5 c5 => HD.out w5 (C03.out.trans (c4.trans c5 (fun _ _ h => h)) (fun _ _ h => h)))).mono ?_
    rintro e w5 ⟨vs, rfl, kp⟩
    have hbn : ¬ U w3.heap.size := hbU.out _ (by omega)
    exact ⟨vs, rfl, kp.len, kp.one, ⟨kp.q c4 hbn (Nat.le_refl _) hs4 (kp.keeps B44 hbn), kp.one, kp.keeps (D4.out.chg c4 (fun h => h)) (hbU.out _ (by omega))⟩, kp.size, kp.keeps B44 hbn⟩) (fun cs w4 w5 hq hc => ⟨hq.1.far hc, hq.2.1, hq.2.2.chg hc (fun hh => by have := D4.out.lt; rw [show w.heap.size + 1 + 1 + 1 = w3.heap.size from hh] at this; omega)⟩))
  clear D1 D2 D3 H3 C3 c3 HL HB k1 k2
  go_wp2_with fail
  refine HQ.out.mono ?_
  rintro e w4 ⟨cs, rfl, hl, hq, h1, B5⟩
  obtain ⟨W, S1, S2, S3⟩ := an_store B5 (vs := cs) rfl hl h1
  have kw := hid (AnPost.laid C03.out hq.post (hbU.out _ (by omega)) (by omega) D4.out.lt B5 S3)
  replace hl := hid hl
  replace S2 := hid S2
  clear S3 B5 hq h1 HQ
  go_wp2_with (refine wpList_store_run S1 (by rfl) (by rfl) (by rfl) (by rfl) ?_)
  refine bodyPost_ret (an_ret rfl S2.out hl.out rfl) rfl ?_
  exact ⟨cs, rfl, kw.out⟩
end Go.Proofs.YtjllklddjkkddaaGreatDoor
namespace Go.Proofs.YtjllklddjkkddaaGreatDoor
open Go.ChangeShapes Go.WideShapes Go.ChangeAt Go.RowKit
set_option linter.unusedVariables false
theorem th_chain {V w1 : World} {T : Nat} (TB : Blk w1 T 169 (flL flZ)) (hc : Chg Nil V w1) (hT : V.heap.size ≤ T) (a b c : Int) :
    Hid (Blk (((((w1.setCell ⟨T, 0, none⟩ (.int .i64 a)).setCell ⟨T, 1, none⟩ (.int .i64 b)).setCell ⟨T, 2, none⟩ (.int .i64 c)).setCell ⟨T, 3, none⟩ (.bool false)).setCell ⟨T, 4, none⟩ (.int .i64 0)) T 169 (flL ⟨a, b, c, false, 0, 0⟩)) ∧
    Hid (Chg Nil V (((((w1.setCell ⟨T, 0, none⟩ (.int .i64 a)).setCell ⟨T, 1, none⟩ (.int .i64 b)).setCell ⟨T, 2, none⟩ (.int .i64 c)).setCell ⟨T, 3, none⟩ (.bool false)).setCell ⟨T, 4, none⟩ (.int .i64 0))) :=
  ⟨((((TB.set 0 _).set 1 _).set 2 _).set 3 _).set 4 _, ((((hc.setCell (p := ⟨T, 0, none⟩) (.inr hT) _).setCell (p := ⟨T, 1, none⟩) (.inr hT) _).setCell (p := ⟨T, 2, none⟩) (.inr hT) _).setCell (p := ⟨T, 3, none⟩) (.inr hT) _).setCell (p := ⟨T, 4, none⟩) (.inr hT) _⟩
theorem th_new {V w1 : World} (hc : Chg Nil V w1) (a b c : Int) :
    Hid (Blk (w1.alloc (.cells (flL ⟨a, b, c, false, 0, 0⟩).toArray 169)) w1.heap.size 169 (flL ⟨a, b, c, false, 0, 0⟩)) ∧ Hid (Chg Nil V (w1.alloc (.cells (flL ⟨a, b, c, false, 0, 0⟩).toArray 169))) :=
  ⟨Blk.new w1 _ _, hc.alloc _⟩
theorem KPost.ch {w w' : World} {B pk : Nat} {U : Nat → Prop} {X : KX} (h : KPost w B U pk X w') : Chg U w w' := by
  obtain ⟨_, _, c, _⟩ := h
  exact c
end Go.Proofs.YtjllklddjkkddaaGreatDoor
