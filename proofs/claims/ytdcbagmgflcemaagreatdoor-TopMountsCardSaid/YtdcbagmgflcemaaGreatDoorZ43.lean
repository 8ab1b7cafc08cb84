/- The kernel is asked, with names in the call. Conditions: process 1 lives, does not sleep, and no signal came to it · The kernel's calls about descriptors of files: open; read and write of what is open. Conditions: a descriptor that leads to a file at its begin; what these calls answer · The kernel with files: opened. Conditions: as told of walk, last, Make and may · The kernel with files: opened, of a file that is there. Conditions: as told of walk and may · The kernel with files: open. Conditions: as told of opened, Hold and the table's Open. -/
import Derived.Test.YtdcbagmgflcemaaGreatDoorZ42
import Derived.Deep.QuietTactic
import Derived.BigQuiet
import Derived.Test.YtdcbagmgflcemaaGreatDoorZ44
import Derived.Test.YtdcbagmgflcemaaGreatDoorZ17
import Derived.Deep.CutBlock
import Derived.Test.YtdcbagmgflcemaaGreatDoorZ24
namespace Go.Proofs.YtdcbagmgflcemaaGreatDoor
open Go.ChangeShapes Go.WideShapes Go.ChangeAt Go.RowKit
set_option linter.unusedVariables false
theorem mliving_ok (w : World) (pk pc : Nat) (pl : Nat → Pe) (k7 : w.cell? ⟨pk, 7, none⟩ = some (.pointer (some ⟨pc, 0, none⟩))) (h : PrAt w pc pl) (hs : (pl 1).state = 1) :
    Calls Tryz.prog 13 #[.pointer (some ⟨pk, 0, none⟩), .int .i64 1] w fun e w' => e = .returned (.int .i64 0) ∧ w = w' := by
  have HS := prstate_ok w pc pl h 1 (by omega) (by omega)
  rw [hs] at HS
  replace HS := hid HS
  clear h hs
  go_enter Tryz.func13, Tryz.ntmps13
  go_wp2_with (go_at_call 35; refine HS.out.mono ?_; rintro e w' ⟨rfl, rfl⟩)
  go_ret
  exact ⟨rfl, rfl⟩
set_option maxRecDepth 100000 in
set_option maxHeartbeats 1000000 in
theorem mbetween_ok (w : World) (pk : Nat) (hd : Nat → Value) (ts : Nat → Nat → Value) (h : KnAt w pk hd ts) (s : Int) (ht : TsA ts 1 s) :
    Calls Tryz.prog 15 #[.pointer (some ⟨pk, 0, none⟩), .int .i64 1] w fun e w' => e = .returned (.tuple #[.int .i64 0, .bool false]) ∧ Chg Nil w w' := by
  have L1 := h.sig (q := 1) (by omega) ht
  clear h ht
  go_enter Tryz.func15, Tryz.ntmps15
  go_wp2_with (refine wpList_load_run L1 (by rfl) (by rfl) (by rfl) ?_)
  refine (sgtake_0 _).mono ?_
  rintro e w2 ⟨rfl, c2⟩
  have B2 := Blk.new w2 59 sgZ
  obtain ⟨S1, S2⟩ := sg_store B2
  have C2 := (c2.alloc (.cells sgZ.toArray 59)).one (g := w2.heap.size) (.inr c2.size) (setCells_chg _ w2.heap.size 0 sgZ _ rfl)
  obtain ⟨W, hW⟩ : ∃ W, W = (w2.alloc (.cells sgZ.toArray 59)).setCells w2.heap.size 0 sgZ := ⟨_, rfl⟩
  rw [← hW] at S1 C2
  replace hW := hid hW
  replace C2 := hid C2
  clear L1 c2 B2 S2
  go_wp2_with (refine wpList_store_run S1 (by rfl) (by rfl) (by rfl) (by rfl) ?_)
  go_ret2
  exact ⟨rfl, C2.out⟩
/-- An answer, apart from one block. -/
def AnR (w : World) (U : Nat → Prop) (A : World → (Nat → Prop) → Prop) (n a b : Int) (ds : List Int) (b0 : Nat) (vs : List Value) (w' : World) : Prop :=
  ∃ sa sc G U', vs = anC n a b (.slice sa ds.length sc) ∧ Sl w' 5 1 sa ds.length sc (bys ds) G ∧ G ≠ some b0 ∧ (∀ g, G = some g → ¬ U' g) ∧ A w' U' ∧ ¬ U' b0 ∧ Chg U w w' ∧ Grew w.heap.size U U' ∧ w.heap.size ≤ b0
section
variable {A : World → (Nat → Prop) → Prop} {w w' V W : World} {b0 : Nat} {U : Nat → Prop} {n a b : Int} {ds : List Int} {vs cs : List Value}
theorem AnP.q (hV : Chg Nil w V) (h : AnP V U A n a b ds vs w') (hb : ¬ U b0) (h1 : w.heap.size ≤ b0) (h2 : b0 < V.heap.size) (hB : Blk w' b0 33 cs) : AnR w U A n a b ds b0 vs w' := by
  obtain ⟨sa, sc, G, U2, rfl, hs, hg, a1, a2, a3⟩ := h
  refine ⟨sa, sc, G, U2, rfl, hs, hs.ne_blk hB (by decide), hg, a1, fun hh => ?_, (hV.mono (fun _ _ h => h.elim)).trans a2 (fun _ _ h => h), fun k hk => ?_, h1⟩
  · rcases a3 b0 hh with h3 | h3
    · exact hb h3
    · omega
  · rcases a3 k hk with h3 | h3
    · exact .inl h3
    · exact .inr (Nat.le_trans hV.size h3)
theorem AnR.far (S : StA A) (h : AnR w U A n a b ds b0 vs w') (hc : Chg (One b0) w' W) : AnR w U A n a b ds b0 vs W := by
  obtain ⟨sa, sc, G, U2, rfl, hs, hG, hg, a1, hU, a2, a3, h1⟩ := h
  exact ⟨sa, sc, G, U2, rfl, hs.chg hc (fun g hg hh => hG (by rw [hg, show g = b0 from hh])), hG, hg, S.chg a1 hc (fun k hk hh => hU (by rw [← show k = b0 from hh]; exact hk)), hU, a2.one (.inr h1) hc, a3, h1⟩
theorem AnR.post (h : AnR w U A n a b ds b0 vs w') : AnP w U A n a b ds vs w' := by
  obtain ⟨sa, sc, G, U2, rfl, hs, hG, hg, a1, hU, a2, a3, h1⟩ := h
  exact ⟨sa, sc, G, U2, rfl, hs, hg, a1, a2, a3⟩
end
set_option maxRecDepth 100000 in
set_option maxHeartbeats 4000000 in
theorem mask1_ok {A : World → (Nat → Prop) → Prop} (S : StA A) (w : World) (U : Nat → Prop) (hlt : ∀ k, U k → k < w.heap.size) (pk : Nat) (num ca cb cn n a b : Int) (s o : ByteArray) (d : Value) (ds : List Int) (b1 b2 b3 : Nat)
    (B1 : Blk w b1 23 [.pointer (some ⟨pk, 0, none⟩)]) (B2 : Blk w b2 3 [.int .i64 1]) (B3 : Blk w b3 36 (clS num ca cb cn s o d))
    (HD : ∀ w', Chg Nil w w' → KCallA 18 #[.pointer (some ⟨pk, 0, none⟩), .int .i64 1, .agg #[.int .i64 num, .int .i64 ca, .int .i64 cb, .int .i64 cn, .string s, .string o, d]] w' U A n a b ds) :
    KCallA 17 #[.pointer (some ⟨b1, 0, none⟩), .pointer (some ⟨b2, 0, none⟩), .pointer (some ⟨b3, 0, none⟩)] w U A n a b ds := by
  have CA : Chg Nil w (w.alloc (.cells anZ.toArray 33)) := (Chg.refl Nil w).alloc _
  have BC := Blk.new w 33 anZ
  have k1 := (B1.alloc (.cells anZ.toArray 33)).cell 0
  have k2 := (B2.alloc (.cells anZ.toArray 33)).cell 0
  have LA := load_blk (P := Tryz.prog) (ty := 36) (B3.alloc (.cells anZ.toArray 33)) Tryz.underlying36 rfl (by kernel_rfl)
  simp only [List.getElem?_cons_zero] at k1 k2
  have k1' : (w.alloc (.cells #[.int .i64 0, .int .i64 0, .int .i64 0, .slice none 0 0, .slice none 0 0, .int .i64 0, .int .i64 0, .int .i64 0, .int .i64 0, .int .i64 0, .int .i64 0] 33)).cell? ⟨b1, 0, none⟩ = some (.pointer (some ⟨pk, 0, none⟩)) := k1
  have k2' : (w.alloc (.cells #[.int .i64 0, .int .i64 0, .int .i64 0, .slice none 0 0, .slice none 0 0, .int .i64 0, .int .i64 0, .int .i64 0, .int .i64 0, .int .i64 0, .int .i64 0] 33)).cell? ⟨b2, 0, none⟩ = some (.int .i64 1) := k2
  clear k1 k2
  have HP := HD _ CA
  have hbU : ¬ U w.heap.size := fun hh => by have := hlt _ hh; omega
  replace HP := hid HP
  replace BC := hid BC
  replace CA := hid CA
  replace hbU := hid hbU
  replace S := hid S
  clear hlt HD B1 B2 B3
  unfold KCallA
  go_enter Tryz.func17, Tryz.ntmps17
  go_wp2_with (refine wpList_load_run LA (by rfl) (by rfl) (by rfl) ?_)
  refine HP.out.mono ?_
  rintro e w2 ⟨vs, rfl, kp⟩
  have B2 := kp.keeps BC.out hbU.out
  obtain ⟨W, S1, S2, S3⟩ := an_store B2 (vs := vs) rfl kp.len kp.one
  have kw := hid (AnP.laid S.out CA.out kp hbU.out (Nat.le_refl _) BC.out.lt B2 S3)
  have hl := hid kp.len
  replace S2 := hid S2
  clear S3 B2 kp HP k1' k2' LA
  go_wp2_with (refine wpList_store_run S1 (by rfl) (by rfl) (by rfl) (by rfl) ?_)
  refine bodyPost_ret (an_ret rfl S2.out hl.out rfl) rfl ?_
  exact ⟨vs, rfl, kw.out⟩
theorem boxes4m (w : World) (cc : List Value) (pk : Nat) (q : Int) :
    ∀ V, V = (((w.alloc (.cells #[.pointer (some ⟨pk, 0, none⟩)] 23)).alloc (.cells #[.int .i64 q] 3)).alloc (.cells cc.toArray 36)).alloc (.cells anZ.toArray 33) →
    Blk V w.heap.size 23 [.pointer (some ⟨pk, 0, none⟩)] ∧ Blk V (w.heap.size + 1) 3 [.int .i64 q] ∧ Blk V (w.heap.size + 1 + 1) 36 cc ∧ Blk V (w.heap.size + 1 + 1 + 1) 33 anZ ∧ Chg Nil w V := by
  intro V hV
  subst hV
  refine ⟨(((Blk.new w _ [.pointer (some ⟨pk, 0, none⟩)]).alloc _).alloc _).alloc _, ?_, ?_, ?_, ((((Chg.refl Nil w).alloc _).alloc _).alloc _).alloc _⟩
  · have := ((Blk.new (w.alloc (.cells #[.pointer (some ⟨pk, 0, none⟩)] 23)) 3 [.int .i64 q]).alloc (.cells cc.toArray 36)).alloc (.cells anZ.toArray 33)
    rwa [alloc_size] at this
  · have := (Blk.new ((w.alloc (.cells #[.pointer (some ⟨pk, 0, none⟩)] 23)).alloc (.cells #[.int .i64 q] 3)) 36 cc).alloc (.cells anZ.toArray 33)
    rwa [alloc_size, alloc_size] at this
  · have := Blk.new (((w.alloc (.cells #[.pointer (some ⟨pk, 0, none⟩)] 23)).alloc (.cells #[.int .i64 q] 3)).alloc (.cells cc.toArray 36)) 33 anZ
    rwa [alloc_size, alloc_size, alloc_size] at this
set_option maxRecDepth 100000 in
set_option maxHeartbeats 4000000 in
theorem mask_ok {A : World → (Nat → Prop) → Prop} (S : StA A) (w : World) (U : Nat → Prop) (P : MaP) (Y : MaY) (h : MaA P Y w U) (num ca cb cn n a b : Int) (s o : ByteArray) (d : Value) (ds : List Int)
    (HD : ∀ w', Chg Nil w w' → KCallA 18 #[.pointer (some ⟨P.pk, 0, none⟩), .int .i64 1, .agg #[.int .i64 num, .int .i64 ca, .int .i64 cb, .int .i64 cn, .string s, .string o, d]] w' U A n a b ds) :
    KCallA 5 #[.pointer (some ⟨P.pk, 0, none⟩), .int .i64 1, .agg #[.int .i64 num, .int .i64 ca, .int .i64 cb, .int .i64 cn, .string s, .string o, d]] w U A n a b ds := by
  have hmf : ∀ (fn : Fn) (first cap : Array Value) (w : World), (Instr.makeFunc fn first cap).run Tryz.prog w = .ok (.func fn first cap) w := fun _ _ _ _ => rfl
  obtain ⟨V, hV⟩ : ∃ V, V = (((w.alloc (.cells #[.pointer (some ⟨P.pk, 0, none⟩)] 23)).alloc (.cells #[.int .i64 1] 3)).alloc (.cells (clS num ca cb cn s o d).toArray 36)).alloc (.cells anZ.toArray 33) := ⟨_, rfl⟩
  obtain ⟨B1, B2, B3, B4, C4⟩ := boxes4m w (clS num ca cb cn s o d) P.pk 1 V hV
  obtain ⟨FF, X, Rm, Rc, ca', cc, ma, mc, pl, hd, ts, h⟩ := h
  have hlt := h.lt
  have hbU : ∀ k, w.heap.size ≤ k → ¬ U k := fun k hk hh => by have := hlt _ hh; omega
  have HV := h.nil C4
  have HL := hid (mliving_ok V P.pk P.pc pl HV.k7 HV.pr HV.p1)
  have k1 := B1.cell 0
  have k2 := B2.cell 0
  simp only [List.getElem?_cons_zero] at k1 k2
  have kas : V.cell? ⟨P.pk, 83, none⟩ = some (.bool false) := (HV.k (j := 37) (by omega)).trans (congrArg some h.ta.aw)
  have HB := hid (fun w' (hc : Chg Nil V w') => mbetween_ok w' P.pk hd ts (HV.nil hc).kn 1 h.ta)
  replace HV := hid HV
  replace HD := hid HD
  replace hbU := hid hbU
  replace B1 := hid B1
  replace B2 := hid B2
  replace B3 := hid B3
  replace B4 := hid B4
  replace C4 := hid C4
  replace hV := hid hV
  replace S := hid S
  clear h hlt
  unfold KCallA
  go_enter Tryz.func5, Tryz.ntmps5
  go_upto_region 1 with fail
  have hV2 : (((w.alloc (.cells #[.pointer (some ⟨P.pk, 0, none⟩)] 23)).alloc (.cells #[.int .i64 1] 3)).alloc (.cells #[.int .i64 num, .int .i64 ca, .int .i64 cb, .int .i64 cn, .string s, .string o, d] 36)).alloc (.cells #[.int .i64 0, .int .i64 0, .int .i64 0, .slice none 0 0, .slice none 0 0, .int .i64 0, .int .i64 0, .int .i64 0, .int .i64 0, .int .i64 0, .int .i64 0] 33) = V := hV.out.symm
  rw [hV2]
  replace hV2 := hid hV2
  go_wp2_with fail
  refine HL.out.mono ?_
  rintro e w' ⟨rfl, rfl⟩
  go_upto_region 4 with fail
  go_quiet (fail)
  clear kas
  go_wp2_with fail
  refine (HB.out _ ((Chg.refl Nil V).drewN _)).mono ?_
  rintro e w3 ⟨rfl, c3⟩
  have C3 := ((Chg.refl Nil V).drewN _).trans c3 (fun _ _ h => h)
  have D1 := B1.out.chg C3 (fun h => h)
  have D2 := B2.out.chg C3 (fun h => h)
  have D3 := B3.out.chg C3 (fun h => h)
  have D4 := hid (B4.out.chg C3 (fun h => h))
  have H3 := HV.out.nil C3
  have C03 := hid (C4.out.trans C3 (fun _ _ h => h))
  have HQ := hid (catch_ok w3 #[.pointer (some ⟨w.heap.size, 0, none⟩), .pointer (some ⟨w.heap.size + 1, 0, none⟩), .pointer (some ⟨w.heap.size + 1 + 1, 0, none⟩)] (fun cs w' => AnR w3 U A n a b ds w3.heap.size cs w' ∧ (∀ u ∈ cs, u.oneCell' = true) ∧ Blk w' (w.heap.size + 1 + 1 + 1) 33 anZ) (fun w4 c4 hs4 B44 => by
    have hlt : w.heap.size + 1 + 1 + 1 < w3.heap.size := D4.out.lt
    refine (mask1_ok S.out w4 U (fun k hk => (H3.nil c4).lt k hk) P.pk num ca cb cn n a b s o d ds w.heap.size (w.heap.size + 1) (w.heap.size + 1 + 1) (D1.chg c4 (fun h => h)) (D2.chg c4 (fun h => h)) (D3.chg c4 (fun h => h)) (fun w5 c5 => HD.out w5 (C03.out.trans (c4.trans c5 (fun _ _ h => h)) (fun _ _ h => h)))).mono ?_
    rintro e w5 ⟨vs, rfl, kp⟩
    have hbn : ¬ U w3.heap.size := hbU.out _ (by omega)
    exact ⟨vs, rfl, kp.len, kp.one, ⟨kp.q c4 hbn (Nat.le_refl _) hs4 (kp.keeps B44 hbn), kp.one, kp.keeps (D4.out.chg c4 (fun h => h)) (hbU.out _ (by omega))⟩, kp.size, kp.keeps B44 hbn⟩) (fun cs w4 w5 hq hc => ⟨hq.1.far S.out hc, hq.2.1, hq.2.2.chg hc (fun hh => by have := D4.out.lt; rw [show w.heap.size + 1 + 1 + 1 = w3.heap.size from hh] at this; omega)⟩))
  clear D1 D2 D3 H3 C3 c3 HL HB k1 k2
  go_wp2_with fail
  refine HQ.out.mono ?_
  rintro e w4 ⟨cs, rfl, hl, hq, h1, B5⟩
  obtain ⟨W, S1, S2, S3⟩ := an_store B5 (vs := cs) rfl hl h1
  have kw := hid (AnP.laid S.out C03.out hq.post (hbU.out _ (by omega)) (by omega) D4.out.lt B5 S3)
  replace hl := hid hl
  replace S2 := hid S2
  clear S3 B5 hq h1 HQ
  go_wp2_with (refine wpList_store_run S1 (by rfl) (by rfl) (by rfl) (by rfl) ?_)
  refine bodyPost_ret (an_ret rfl S2.out hl.out rfl) rfl ?_
  exact ⟨cs, rfl, kw.out⟩
end Go.Proofs.YtdcbagmgflcemaaGreatDoor
namespace Go.Proofs.YtdcbagmgflcemaaGreatDoor
open Go.ChangeShapes Go.WideShapes Go.ChangeAt Go.RowKit
set_option linter.unusedVariables false
set_option maxRecDepth 100000 in
set_option maxHeartbeats 4000000 in
theorem sdesc_read {A : World → (Nat → Prop) → Prop} (S : StA A) (w : World) (U : Nat → Prop) (hlt : ∀ k, U k → k < w.heap.size) (pk po : Nat) (fl : Nat → Fl) (fd : Nat → Nat → Nat) (hop : OpAt w po fl fd) (k6 : w.cell? ⟨pk, 6, none⟩ = some (.pointer (some ⟨po, 0, none⟩))) (fdn kf : Nat) (hd : fdn < 8) (hk : kf < 32) (hf : fd 1 fdn = kf + 1) (id my nf : Int) (hfl : fl kf = ⟨1, id, my, false, 0, nf⟩)
    (b nn n a' b' : Int) (d : Value) (ds : List Int)
    (HR : ∀ w', Chg Nil w w' → KCallA 83 #[.pointer (some ⟨pk, 0, none⟩), .int .i64 1, .agg #[.int .i64 7, .int .i64 (fdn : Int), .int .i64 b, .int .i64 nn, .string ⟨#[]⟩, .string ⟨#[]⟩, d], .agg #[.int .i64 1, .int .i64 id, .int .i64 my, .bool false, .int .i64 0]] w' U A n a' b' ds) :
    KCallA 39 #[.pointer (some ⟨pk, 0, none⟩), .int .i64 1, .agg #[.int .i64 7, .int .i64 (fdn : Int), .int .i64 b, .int .i64 nn, .string ⟨#[]⟩, .string ⟨#[]⟩, d]] w U A n a' b' ds := by
  obtain ⟨BA, BC⟩ := boxes2 w (clC 7 fdn b nn d)
  have CA : Chg Nil w ((w.alloc (.cells (clC 7 fdn b nn d).toArray 36)).alloc (.cells anZ.toArray 33)) := ((Chg.refl Nil w).alloc _).alloc _
  replace hlt := hid hlt
  have hpkl := (lt_of_cell k6).1
  unfold KCallA at HR ⊢
  replace HR := hid HR
  replace S := hid S
  go_enter Tryz.func39, Tryz.ntmps39
  go_wp2_with fail
  generalize hV : (w.alloc (.cells #[.int .i64 7, .int .i64 (fdn : Int), .int .i64 b, .int .i64 nn, .string ⟨#[]⟩, .string ⟨#[]⟩, d] 36)).alloc (.cells #[.int .i64 0, .int .i64 0, .int .i64 0, .slice none 0 0, .slice none 0 0, .int .i64 0, .int .i64 0, .int .i64 0, .int .i64 0, .int .i64 0, .int .i64 0] 33) = V
  have hV' : (w.alloc (.cells (clC 7 fdn b nn d).toArray 36)).alloc (.cells anZ.toArray 33) = V := hV
  rw [hV'] at BA BC CA
  replace hV := hid hV
  replace hV' := hid hV'
  have e1 := BA.cell 1
  simp only [clC, List.getElem?_cons_succ, List.getElem?_cons_zero] at e1
  have hV0 := CA.size
  replace k6 : V.cell? ⟨pk, 6, none⟩ = some (.pointer (some ⟨po, 0, none⟩)) := (CA.cell (a := ⟨pk, 6, none⟩) hpkl (fun h => h)).trans k6
  have hopV := hop.chg CA (fun h => h)
  have HG : ∀ w', Chg Nil V w' → Calls Tryz.prog 82 #[.pointer (some ⟨po, 0, none⟩), .int .i64 1, .int .i64 (fdn : Int)] w' fun e w2 => e = .returned (.tuple #[.agg #[.int .i64 1, .int .i64 id, .int .i64 my, .bool false, .int .i64 0], .int .i64 0]) ∧ Chg Nil w' w2 := fun w' hc => by
    have := opget_ok w' po fl fd (OpAt.chg (F := Nil) hopV hc (fun h => h)) 1 (by omega) (by omega) fdn hd kf hk hf
    rw [hfl] at this
    exact this
  replace HG := hid HG
  have k6' : (V.alloc (.cells #[.int .i64 0, .int .i64 0, .int .i64 0, .bool false, .int .i64 0] 159)).cell? ⟨pk, 6, none⟩ = some (.pointer (some ⟨po, 0, none⟩)) := ((Chg.refl Nil V).alloc (.cells #[.int .i64 0, .int .i64 0, .int .i64 0, .bool false, .int .i64 0] 159)).cell (a := ⟨pk, 6, none⟩) (Nat.lt_of_lt_of_le hpkl hV0) (fun h => h) |>.trans k6
  have e1' : (V.alloc (.cells #[.int .i64 0, .int .i64 0, .int .i64 0, .bool false, .int .i64 0] 159)).cell? ⟨w.heap.size, 1, none⟩ = some (.int .i64 (fdn : Int)) := ((Chg.refl Nil V).alloc (.cells #[.int .i64 0, .int .i64 0, .int .i64 0, .bool false, .int .i64 0] 159)).cell (a := ⟨w.heap.size, 1, none⟩) (Blk.lt BA) (fun h => h) |>.trans e1
  replace BA := hid BA
  replace BC := hid BC
  replace CA := hid CA
  clear hop hopV
  have LC : ∀ w', Chg Nil V w' → (Instr.loadAt 36 (.pointer (some ⟨w.heap.size, 0, none⟩))).run Tryz.prog w' = .ok (.agg (clC 7 fdn b nn d).toArray) w' := fun w' hc => load_blk (BA.out.chg hc (fun h => h)) Tryz.underlying36 rfl (by kernel_rfl)
  replace LC := hid LC
  go_region_law
    (first | (go_simp; go_at_call 82; refine (HG.out V.drew (Chg.refl Nil V).drew).mono ?_; rintro e w1 ⟨rfl, c1⟩; obtain ⟨D1, D2⟩ := th_new (((Chg.refl Nil V).drew).trans c1 (fun _ _ h => h)) 1 id my; replace c1 := hid c1) | (go_simp; go_at_call 82; refine (HG.out ((V.alloc (.cells (flL flZ).toArray 159)).drew) (((Chg.refl Nil V).alloc (.cells (flL flZ).toArray 159)).drew)).mono ?_; rintro e w1 ⟨rfl, c1⟩; have TB := Blk.chg (Blk.drew (Blk.new V 159 (flL flZ))) c1 (fun h => h); obtain ⟨D1, D2⟩ := th_chain TB ((((Chg.refl Nil V).alloc (.cells (flL flZ).toArray 159)).drew).trans c1 (fun _ _ h => h)) (Nat.le_refl _) 1 id my; have t0 := TB.cell 0; have t1 := TB.cell 1; have t2 := TB.cell 2; have t3 := TB.cell 3; have t4 := TB.cell 4; have u0 := TB.frozen 0; have u1 := TB.frozen 1; have u2 := TB.frozen 2; have u3 := TB.frozen 3; have u4 := TB.frozen 4; simp only [flL, List.getElem?_cons_succ, List.getElem?_cons_zero] at t0 t1 t2 t3 t4; replace c1 := hid c1; replace TB := hid TB))
  all_goals
    first
      | (have TB' := TB; clear TB'; clear t0 t1 t2 t3 t4 u0 u1 u2 u3 u4; generalize hwc : ((((w1.setCell ⟨V.heap.size, 0, none⟩ (.int .i64 1)).setCell ⟨V.heap.size, 1, none⟩ (.int .i64 id)).setCell ⟨V.heap.size, 2, none⟩ (.int .i64 my)).setCell ⟨V.heap.size, 3, none⟩ (.bool false)).setCell ⟨V.heap.size, 4, none⟩ (.int .i64 0) = wc at D1 D2 ⊢)
      | (have hw0 : w1.alloc (.cells #[.int .i64 1, .int .i64 id, .int .i64 my, .bool false, .int .i64 0] 159) = w1.alloc (.cells (flL ⟨1, id, my, false, 0, 0⟩).toArray 159) := rfl; rw [hw0]; clear hw0; generalize hwc : w1.alloc (.cells (flL ⟨1, id, my, false, 0, 0⟩).toArray 159) = wc at D1 D2 ⊢)
    replace hwc := hid hwc
    have LA := LC.out wc D2.out
    have LT := load_blk (P := Tryz.prog) (ty := 159) D1.out Tryz.underlying159 rfl (by kernel_rfl)
    have k0 := (BA.out.chg D2.out (fun h => h)).cell 0
    simp only [clC, List.getElem?_cons_zero] at k0
    have C2 := hid (CA.out.trans D2.out (fun _ _ h => h))
    have HP := hid (HR.out wc C2.out)
    have BC2 := hid (BC.out.chg D2.out (fun h => h))
    have hbU : Hid (¬ U (w.heap.size + 1)) := hid (fun hh => by have := hlt.out _ hh; omega)
    clear e1 e1' k6 k6'
    go_wp2_with (first | (refine wpList_load_run LA (by rfl) (by rfl) (by rfl) ?_) | (refine wpList_load_run LT (by rfl) (by rfl) (by rfl) ?_))
    refine HP.out.mono ?_
    rintro e w2 ⟨vs, rfl, kp⟩
    have B2 := kp.keeps BC2.out hbU.out
    obtain ⟨W, S1, S2, S3⟩ := an_store B2 (vs := vs) rfl kp.len kp.one
    have kw := hid (AnP.laid S.out C2.out kp hbU.out (by omega) BC2.out.lt B2 S3)
    have hl := hid kp.len
    replace S2 := hid S2
    clear S3 B2 kp HP LA LT k0
    go_wp2_with (refine wpList_store_run S1 (by rfl) (by rfl) (by rfl) (by rfl) ?_)
    refine bodyPost_ret (an_ret rfl S2.out hl.out rfl) rfl ?_
    exact ⟨vs, rfl, kw.out⟩
set_option maxRecDepth 100000 in
set_option maxHeartbeats 4000000 in
theorem sdesc_write {A : World → (Nat → Prop) → Prop} (S : StA A) (w : World) (U : Nat → Prop) (hlt : ∀ k, U k → k < w.heap.size) (pk po : Nat) (fl : Nat → Fl) (fd : Nat → Nat → Nat) (hop : OpAt w po fl fd) (k6 : w.cell? ⟨pk, 6, none⟩ = some (.pointer (some ⟨po, 0, none⟩))) (fdn kf : Nat) (hd : fdn < 8) (hk : kf < 32) (hf : fd 1 fdn = kf + 1) (id my nf : Int) (hfl : fl kf = ⟨1, id, my, false, 0, nf⟩)
    (b nn n a' b' : Int) (d : Value) (ds : List Int)
    (HR : ∀ w', Chg Nil w w' → KCallA 84 #[.pointer (some ⟨pk, 0, none⟩), .int .i64 1, .agg #[.int .i64 8, .int .i64 (fdn : Int), .int .i64 b, .int .i64 nn, .string ⟨#[]⟩, .string ⟨#[]⟩, d], .agg #[.int .i64 1, .int .i64 id, .int .i64 my, .bool false, .int .i64 0]] w' U A n a' b' ds) :
    KCallA 39 #[.pointer (some ⟨pk, 0, none⟩), .int .i64 1, .agg #[.int .i64 8, .int .i64 (fdn : Int), .int .i64 b, .int .i64 nn, .string ⟨#[]⟩, .string ⟨#[]⟩, d]] w U A n a' b' ds := by
  obtain ⟨BA, BC⟩ := boxes2 w (clC 8 fdn b nn d)
  have CA : Chg Nil w ((w.alloc (.cells (clC 8 fdn b nn d).toArray 36)).alloc (.cells anZ.toArray 33)) := ((Chg.refl Nil w).alloc _).alloc _
  replace hlt := hid hlt
  have hpkl := (lt_of_cell k6).1
  unfold KCallA at HR ⊢
  replace HR := hid HR
  replace S := hid S
  go_enter Tryz.func39, Tryz.ntmps39
  go_wp2_with fail
  generalize hV : (w.alloc (.cells #[.int .i64 8, .int .i64 (fdn : Int), .int .i64 b, .int .i64 nn, .string ⟨#[]⟩, .string ⟨#[]⟩, d] 36)).alloc (.cells #[.int .i64 0, .int .i64 0, .int .i64 0, .slice none 0 0, .slice none 0 0, .int .i64 0, .int .i64 0, .int .i64 0, .int .i64 0, .int .i64 0, .int .i64 0] 33) = V
  have hV' : (w.alloc (.cells (clC 8 fdn b nn d).toArray 36)).alloc (.cells anZ.toArray 33) = V := hV
  rw [hV'] at BA BC CA
  replace hV := hid hV
  replace hV' := hid hV'
  have e1 := BA.cell 1
  simp only [clC, List.getElem?_cons_succ, List.getElem?_cons_zero] at e1
  have hV0 := CA.size
  replace k6 : V.cell? ⟨pk, 6, none⟩ = some (.pointer (some ⟨po, 0, none⟩)) := (CA.cell (a := ⟨pk, 6, none⟩) hpkl (fun h => h)).trans k6
  have hopV := hop.chg CA (fun h => h)
  have HG : ∀ w', Chg Nil V w' → Calls Tryz.prog 82 #[.pointer (some ⟨po, 0, none⟩), .int .i64 1, .int .i64 (fdn : Int)] w' fun e w2 => e = .returned (.tuple #[.agg #[.int .i64 1, .int .i64 id, .int .i64 my, .bool false, .int .i64 0], .int .i64 0]) ∧ Chg Nil w' w2 := fun w' hc => by
    have := opget_ok w' po fl fd (OpAt.chg (F := Nil) hopV hc (fun h => h)) 1 (by omega) (by omega) fdn hd kf hk hf
    rw [hfl] at this
    exact this
  replace HG := hid HG
  have k6' : (V.alloc (.cells #[.int .i64 0, .int .i64 0, .int .i64 0, .bool false, .int .i64 0] 159)).cell? ⟨pk, 6, none⟩ = some (.pointer (some ⟨po, 0, none⟩)) := ((Chg.refl Nil V).alloc (.cells #[.int .i64 0, .int .i64 0, .int .i64 0, .bool false, .int .i64 0] 159)).cell (a := ⟨pk, 6, none⟩) (Nat.lt_of_lt_of_le hpkl hV0) (fun h => h) |>.trans k6
  have e1' : (V.alloc (.cells #[.int .i64 0, .int .i64 0, .int .i64 0, .bool false, .int .i64 0] 159)).cell? ⟨w.heap.size, 1, none⟩ = some (.int .i64 (fdn : Int)) := ((Chg.refl Nil V).alloc (.cells #[.int .i64 0, .int .i64 0, .int .i64 0, .bool false, .int .i64 0] 159)).cell (a := ⟨w.heap.size, 1, none⟩) (Blk.lt BA) (fun h => h) |>.trans e1
  replace BA := hid BA
  replace BC := hid BC
  replace CA := hid CA
  clear hop hopV
  have LC : ∀ w', Chg Nil V w' → (Instr.loadAt 36 (.pointer (some ⟨w.heap.size, 0, none⟩))).run Tryz.prog w' = .ok (.agg (clC 8 fdn b nn d).toArray) w' := fun w' hc => load_blk (BA.out.chg hc (fun h => h)) Tryz.underlying36 rfl (by kernel_rfl)
  replace LC := hid LC
  go_region_law
    (first | (go_simp; go_at_call 82; refine (HG.out V.drew (Chg.refl Nil V).drew).mono ?_; rintro e w1 ⟨rfl, c1⟩; obtain ⟨D1, D2⟩ := th_new (((Chg.refl Nil V).drew).trans c1 (fun _ _ h => h)) 1 id my; replace c1 := hid c1) | (go_simp; go_at_call 82; refine (HG.out ((V.alloc (.cells (flL flZ).toArray 159)).drew) (((Chg.refl Nil V).alloc (.cells (flL flZ).toArray 159)).drew)).mono ?_; rintro e w1 ⟨rfl, c1⟩; have TB := Blk.chg (Blk.drew (Blk.new V 159 (flL flZ))) c1 (fun h => h); obtain ⟨D1, D2⟩ := th_chain TB ((((Chg.refl Nil V).alloc (.cells (flL flZ).toArray 159)).drew).trans c1 (fun _ _ h => h)) (Nat.le_refl _) 1 id my; have t0 := TB.cell 0; have t1 := TB.cell 1; have t2 := TB.cell 2; have t3 := TB.cell 3; have t4 := TB.cell 4; have u0 := TB.frozen 0; have u1 := TB.frozen 1; have u2 := TB.frozen 2; have u3 := TB.frozen 3; have u4 := TB.frozen 4; simp only [flL, List.getElem?_cons_succ, List.getElem?_cons_zero] at t0 t1 t2 t3 t4; replace c1 := hid c1; replace TB := hid TB))
  all_goals
    first
      | (have TB' := TB; clear TB'; clear t0 t1 t2 t3 t4 u0 u1 u2 u3 u4; generalize hwc : ((((w1.setCell ⟨V.heap.size, 0, none⟩ (.int .i64 1)).setCell ⟨V.heap.size, 1, none⟩ (.int .i64 id)).setCell ⟨V.heap.size, 2, none⟩ (.int .i64 my)).setCell ⟨V.heap.size, 3, none⟩ (.bool false)).setCell ⟨V.heap.size, 4, none⟩ (.int .i64 0) = wc at D1 D2 ⊢)
      | (have hw0 : w1.alloc (.cells #[.int .i64 1, .int .i64 id, .int .i64 my, .bool false, .int .i64 0] 159) = w1.alloc (.cells (flL ⟨1, id, my, false, 0, 0⟩).toArray 159) := rfl; rw [hw0]; clear hw0; generalize hwc : w1.alloc (.cells (flL ⟨1, id, my, false, 0, 0⟩).toArray 159) = wc at D1 D2 ⊢)
    replace hwc := hid hwc
    have LA := LC.out wc D2.out
    have LT := load_blk (P := Tryz.prog) (ty := 159) D1.out Tryz.underlying159 rfl (by kernel_rfl)
    have k0 := (BA.out.chg D2.out (fun h => h)).cell 0
    simp only [clC, List.getElem?_cons_zero] at k0
    have C2 := hid (CA.out.trans D2.out (fun _ _ h => h))
    have HP := hid (HR.out wc C2.out)
    have BC2 := hid (BC.out.chg D2.out (fun h => h))
    have hbU : Hid (¬ U (w.heap.size + 1)) := hid (fun hh => by have := hlt.out _ hh; omega)
    clear e1 e1' k6 k6'
    go_wp2_with (first | (refine wpList_load_run LA (by rfl) (by rfl) (by rfl) ?_) | (refine wpList_load_run LT (by rfl) (by rfl) (by rfl) ?_))
    refine HP.out.mono ?_
    rintro e w2 ⟨vs, rfl, kp⟩
    have B2 := kp.keeps BC2.out hbU.out
    obtain ⟨W, S1, S2, S3⟩ := an_store B2 (vs := vs) rfl kp.len kp.one
    have kw := hid (AnP.laid S.out C2.out kp hbU.out (by omega) BC2.out.lt B2 S3)
    have hl := hid kp.len
    replace S2 := hid S2
    clear S3 B2 kp HP LA LT k0
    go_wp2_with (refine wpList_store_run S1 (by rfl) (by rfl) (by rfl) (by rfl) ?_)
    refine bodyPost_ret (an_ret rfl S2.out hl.out rfl) rfl ?_
    exact ⟨vs, rfl, kw.out⟩
set_option maxRecDepth 100000 in
set_option maxHeartbeats 4000000 in
theorem sdesc_open {A : World → (Nat → Prop) → Prop} (S : StA A) (w : World) (U : Nat → Prop) (hlt : ∀ k, U k → k < w.heap.size) (pk : Nat) (ca cb cn n a b : Int) (s o : ByteArray) (d : Value) (ds : List Int)
    (HD : ∀ w', Chg Nil w w' → KCallA 78 #[.pointer (some ⟨pk, 0, none⟩), .int .i64 1, .agg #[.int .i64 5, .int .i64 ca, .int .i64 cb, .int .i64 cn, .string s, .string o, d]] w' U A n a b ds) :
    KCallA 39 #[.pointer (some ⟨pk, 0, none⟩), .int .i64 1, .agg #[.int .i64 5, .int .i64 ca, .int .i64 cb, .int .i64 cn, .string s, .string o, d]] w U A n a b ds := by
  obtain ⟨BA, BC⟩ := boxes2 w (clS 5 ca cb cn s o d)
  have CA : Chg Nil w ((w.alloc (.cells (clS 5 ca cb cn s o d).toArray 36)).alloc (.cells anZ.toArray 33)) := ((Chg.refl Nil w).alloc _).alloc _
  have HP := HD _ CA
  have hbU : ¬ U (w.heap.size + 1) := fun hh => by have := hlt _ hh; omega
  have LC := load_blk (P := Tryz.prog) (ty := 36) BA Tryz.underlying36 rfl (by kernel_rfl)
  replace HP := hid HP
  replace BA := hid BA
  replace BC := hid BC
  replace CA := hid CA
  replace hbU := hid hbU
  replace S := hid S
  clear hlt HD
  unfold KCallA
  go_enter Tryz.func39, Tryz.ntmps39
  go_wp2_with (refine wpList_load_run LC (by rfl) (by rfl) (by rfl) ?_)
  refine HP.out.mono ?_
  rintro e w2 ⟨vs, rfl, kp⟩
  have B2 := kp.keeps BC.out hbU.out
  obtain ⟨W, S1, S2, S3⟩ := an_store B2 (vs := vs) rfl kp.len kp.one
  have kw := hid (AnP.laid S.out CA.out kp hbU.out (by omega) BC.out.lt B2 S3)
  have hl := hid kp.len
  replace S2 := hid S2
  clear S3 B2 kp HP
  go_wp2_with (refine wpList_store_run S1 (by rfl) (by rfl) (by rfl) (by rfl) ?_)
  refine bodyPost_ret (an_ret rfl S2.out hl.out rfl) rfl ?_
  exact ⟨vs, rfl, kw.out⟩
end Go.Proofs.YtdcbagmgflcemaaGreatDoor
namespace Go.Proofs.YtdcbagmgflcemaaGreatDoor
open Go.ChangeShapes Go.WideShapes Go.ChangeAt Go.RowKit
set_option linter.unusedVariables false
set_option maxRecDepth 100000 in
set_option maxHeartbeats 8000000 in
theorem kopened_new {w : World} {pk pf : Nat} {ca : Option Addr} {cc : Nat} {ma : Option Addr} {mn mc : Nat} (h : KmC w pk pf ca cc ma mn mc) (s : ByteArray) (x : UInt8) (tn i : Nat) (d : Value) (Q : World → World → Prop)
    (HW : ∀ W, Chg Nil w W → Calls Tryz.prog 88 #[.pointer (some ⟨pk, 0, none⟩), .int .i64 1, .string s] W fun e w' => e = .returned (.tuple #[.slice none 0 0, stN 0 0 0 0, .int .i64 4]) ∧ Chg Nil W w')
    (HL : ∀ W, Chg Nil w W → Calls Tryz.prog 163 #[.pointer (some ⟨pk, 0, none⟩), .int .i64 1, .string s] W fun e w' => e = .returned (.tuple #[.int .i64 (tn : Int), .string ⟨#[x]⟩, .int .i64 0]) ∧ Chg Nil W w')
    (HM : ∀ W, Chg Nil w W → Calls Tryz.prog 62 #[.pointer (some ⟨pf, 0, none⟩), .int .i64 (tn : Int), .string ⟨#[x]⟩, .int .i64 1, .int .i64 420, .int .i64 0, .int .i64 0] W fun e w' => e = .returned (.tuple #[.int .i64 (i : Int), .int .i64 0]) ∧ Q W w' ∧ ∃ F : Nat → Prop, Chg F W w' ∧ ¬ F pk ∧ ∀ k, F k → k < w.heap.size)
    (hQ : ∀ W w', Chg Nil w W → Q W w' → Q w w') :
    Calls Tryz.prog 153 #[.pointer (some ⟨pk, 0, none⟩), .int .i64 1, .agg #[.int .i64 5, .int .i64 3, .int .i64 1, .int .i64 420, .string s, .string ⟨#[]⟩, d]] w fun e w' => e = .returned (.tuple #[.int .i64 (i : Int), .int .i64 0]) ∧ Q w w' := by
  have CA := (Chg.refl Nil w).alloc (.cells (clS 5 3 1 420 s ⟨#[]⟩ d).toArray 36)
  have BA := Blk.new w 36 (clS 5 3 1 420 s ⟨#[]⟩ d)
  obtain ⟨W0, hW0⟩ : ∃ W0, W0 = w.alloc (.cells (clS 5 3 1 420 s ⟨#[]⟩ d).toArray 36) := ⟨_, rfl⟩
  rw [← hW0] at CA BA
  have HWW := HW W0 CA
  unfold stN at HWW
  replace HWW := hid HWW
  have HLL := hid HL
  have HMM := hid HM
  have H := hid h
  have hQ' := hid hQ
  have k2 := BA.cell 2
  have k4 := BA.cell 4
  simp only [clS, List.getElem?_cons_succ, List.getElem?_cons_zero] at k2 k4
  have ba : bits .and .i64 1 1 = 1 := by decide
  have CA' := hid CA
  have BA' := hid BA
  have hW0' := hid hW0
  simp only [clS] at hW0'
  clear h HL HM hQ HW CA BA hW0
  go_enter Tryz.func153, Tryz.ntmps153
  go_wp2_with fail
  rw [← hW0'.out]
  refine HWW.out.mono ?_
  rintro e w1 ⟨rfl, d1⟩
  have C1 := (CA'.out.trans d1 (fun _ _ h => h)).alloc (.cells #[.int .i64 0, .int .i64 0, .int .i64 0, .int .i64 0, .int .i64 0, .int .i64 0] 31)
  have B1 := (BA'.out.chg d1 (fun h => h)).alloc (.cells #[.int .i64 0, .int .i64 0, .int .i64 0, .int .i64 0, .int .i64 0, .int .i64 0] 31)
  have j2 := B1.cell 2
  have j4 := B1.cell 4
  simp only [clS, List.getElem?_cons_succ, List.getElem?_cons_zero] at j2 j4
  have HL1 := hid (HLL.out _ C1)
  have C1' := hid C1
  replace B1 := hid B1
  clear C1 d1 k2 k4
  go_wp2_with fail
  refine HL1.out.mono ?_
  rintro e w2 ⟨rfl, d2⟩
  have C2 := C1'.out.trans d2 (fun _ _ h => h)
  have B2 := B1.out.chg d2 (fun h => h)
  have j3 := B2.cell 3
  simp only [clS, List.getElem?_cons_succ, List.getElem?_cons_zero] at j3
  have j3d := (show w2.drew.cell? ⟨w.heap.size, 3, none⟩ = _ from j3)
  obtain ⟨c2, r0, r1, r2, r3, r4, r5, cw, mo⟩ := H.out.nil C2.drew
  have S0 := hid (And.intro c2 (And.intro j3d (And.intro r0 r1)))
  have HM1 := hid (HMM.out w2.drew C2.drew)
  have C2' := hid C2
  have hbl := B2.lt
  have hpl := (H.out.nil C2).lt
  replace B2 := hid B2
  clear C2 d2 c2 r0 r1 r2 r3 r4 r5 cw mo j2 j4 j3d
  go_upto_region 7 with fail
  go_region_held3 (fun w' => w'.cell? ⟨pk, 2, none⟩ = some (.pointer (some ⟨pf, 0, none⟩)) ∧ w'.cell? ⟨w.heap.size, 3, none⟩ = some (.int .i64 420) ∧ w'.cell? ⟨pk, 57, none⟩ = some (.int .i64 0) ∧ w'.cell? ⟨pk, 58, none⟩ = some (.int .i64 0)) (first | exact S0.out | exact S3.out | go_keep) (first | (go_at_call 62; (refine HM1.out.mono ?_); rintro e w3 ⟨rfl, q3, F, cF, hF1, hF2⟩; have S3 := hid (And.intro ((cF.cell (a := ⟨pk, 2, none⟩) hpl hF1).trans S0.out.1) (And.intro ((cF.cell (a := ⟨w.heap.size, 3, none⟩) hbl (fun hh => Nat.lt_irrefl _ (hF2 _ hh))).trans S0.out.2.1) (And.intro ((cF.cell (a := ⟨pk, 57, none⟩) hpl hF1).trans S0.out.2.2.1) ((cF.cell (a := ⟨pk, 58, none⟩) hpl hF1).trans S0.out.2.2.2)))); have Q3 := hid (hQ'.out _ _ C2'.out.drew q3); clear q3 cF hF1 hF2) | fail)
  all_goals
    go_wp2
    go_ret2
    exact ⟨rfl, Q3.out⟩
end Go.Proofs.YtdcbagmgflcemaaGreatDoor
namespace Go.Proofs.YtdcbagmgflcemaaGreatDoor
open Go.ChangeShapes Go.WideShapes Go.ChangeAt Go.RowKit
set_option linter.unusedVariables false
set_option maxRecDepth 100000 in
set_option maxHeartbeats 8000000 in
theorem kopened_old {w : World} {pk : Nat} (s : ByteArray) (st : List Nat) (tn : Nat) (htn : st.getLast? = some tn) (h6 : st.length ≤ 6) (md sz ln : Int) (d : Value)
    (HW : ∀ W, Chg Nil w W → Calls Tryz.prog 88 #[.pointer (some ⟨pk, 0, none⟩), .int .i64 1, .string s] W fun e w' => ∃ a c G, e = .returned (.tuple #[.slice a st.length c, stN 1 md sz ln, .int .i64 0]) ∧ Sl w' 3 1 a st.length c (ints .i64 (stI st)) G ∧ (∀ g, G = some g → W.heap.size ≤ g) ∧ Chg Nil W w')
    (HM : ∀ W, Chg Nil w W → Calls Tryz.prog 94 #[.pointer (some ⟨pk, 0, none⟩), .int .i64 1, .int .i64 (tn : Int), .int .i64 3] W fun e w' => e = .returned (.int .i64 0) ∧ Chg Nil W w') :
    Calls Tryz.prog 153 #[.pointer (some ⟨pk, 0, none⟩), .int .i64 1, .agg #[.int .i64 5, .int .i64 3, .int .i64 0, .int .i64 420, .string s, .string ⟨#[]⟩, d]] w fun e w' => e = .returned (.tuple #[.int .i64 (tn : Int), .int .i64 0]) ∧ Chg Nil w w' := by
  have CA := (Chg.refl Nil w).alloc (.cells (clS 5 3 0 420 s ⟨#[]⟩ d).toArray 36)
  have BA := Blk.new w 36 (clS 5 3 0 420 s ⟨#[]⟩ d)
  obtain ⟨W0, hW0⟩ : ∃ W0, W0 = w.alloc (.cells (clS 5 3 0 420 s ⟨#[]⟩ d).toArray 36) := ⟨_, rfl⟩
  rw [← hW0] at CA BA
  have HWW := HW W0 CA
  have h0 : 0 < st.length := by
    cases st with
    | nil => cases htn
    | cons _ _ => simp
  have hx : (ints .i64 (stI st))[st.length - 1]? = some (.int .i64 (tn : Int)) := by
    rw [List.getLast?_eq_getElem?] at htn
    simp [ints, stI, htn]
  obtain ⟨m, hm⟩ : ∃ m, m = st.length := ⟨_, rfl⟩
  rw [← hm] at HWW h0 h6 hx
  have i4 : IntKind.i64.wrap ((m : Int) - 1) = (m : Int) - 1 := IntWalk.i64_in _ (by omega)
  have i1 : (m : Int) - 1 < (m : Int) := by omega
  have i2 : (1 : Int) ≤ (m : Int) := by omega
  have i3 : ((m : Int) - 1).toNat = m - 1 := by omega
  replace hm := hid hm
  replace hx := hid hx
  unfold stN at HWW
  replace HWW := hid HWW
  have HMM := hid HM
  have k2 := BA.cell 2
  have k4 := BA.cell 4
  simp only [clS, List.getElem?_cons_succ, List.getElem?_cons_zero] at k2 k4
  have ba : bits .and .i64 0 1 = 0 := by decide
  have bb : bits .and .i64 0 4 = 0 := by decide
  have CA' := hid CA
  have BA' := hid BA
  have hW0' := hid hW0
  simp only [clS] at hW0'
  clear HM HW CA BA hW0 htn
  go_enter Tryz.func153, Tryz.ntmps153
  go_wp2_with fail
  rw [← hW0'.out]
  refine HWW.out.mono ?_
  rintro e w1 ⟨a, c, G, rfl, s1, g1, d1⟩
  have C1 := (CA'.out.trans d1 (fun _ _ h => h)).alloc (.cells #[.int .i64 1, .int .i64 md, .int .i64 0, .int .i64 0, .int .i64 sz, .int .i64 ln] 31)
  have B1 := (BA'.out.chg d1 (fun h => h)).alloc (.cells #[.int .i64 1, .int .i64 md, .int .i64 0, .int .i64 0, .int .i64 sz, .int .i64 ln] 31)
  have S1 := s1.alloc (.cells #[.int .i64 1, .int .i64 md, .int .i64 0, .int .i64 0, .int .i64 sz, .int .i64 ln] 31)
  obtain ⟨g, off, hg0, hgl, _, hc⟩ := S1.rd.cellAt h0
  subst hg0
  have z0 := hc (m - 1) (by omega)
  rw [hx.out] at z0
  have j1 := B1.cell 1
  have j2 := B1.cell 2
  simp only [clS, List.getElem?_cons_succ, List.getElem?_cons_zero] at j1 j2
  have HM1 := hid (HMM.out _ C1)
  have C1' := hid C1
  replace B1 := hid B1
  clear C1 d1 k2 k4 hc S1 s1 g1
  go_wp2_with fail
  refine HM1.out.mono ?_
  rintro e w2 ⟨rfl, d2⟩
  have B2 := B1.out.chg d2 (fun h => h)
  have l2 := B2.cell 2
  simp only [clS, List.getElem?_cons_succ, List.getElem?_cons_zero] at l2
  replace B2 := hid B2
  replace d2 := hid d2
  clear j1 j2 z0
  go_wp2
  go_ret2
  exact ⟨rfl, C1'.out.trans d2.out (fun _ _ h => h)⟩
end Go.Proofs.YtdcbagmgflcemaaGreatDoor
namespace Go.Proofs.YtdcbagmgflcemaaGreatDoor
open Go.ChangeShapes Go.WideShapes Go.ChangeAt Go.RowKit
set_option linter.unusedVariables false
/-- A call leaves the kernel's block and all blocks from a number on as they were. -/
def Fm (pk N : Nat) (w w' : World) : Prop := ∃ F : Nat → Prop, Chg F w w' ∧ ¬ F pk ∧ ∀ k, F k → k < N
theorem Fm.cell {pk N : Nat} {w w' : World} (h : Fm pk N w w') {g i : Nat} {v : Value} (hv : w.cell? ⟨g, i, none⟩ = some v) (hg : g = pk ∨ N ≤ g) : w'.cell? ⟨g, i, none⟩ = some v := by
  obtain ⟨F, c, h1, h2⟩ := h
  refine (c.cell (a := ⟨g, i, none⟩) (lt_of_cell hv).1 (fun hh => ?_)).trans hv
  rcases hg with hg | hg
  · exact h1 (by rw [← hg]; exact hh)
  · have := h2 g hh; omega
theorem Fm.blk {pk N : Nat} {w w' : World} (h : Fm pk N w w') {g : Nat} {t : TypeId} {cs : List Value} (hb : Blk w g t cs) (hg : N ≤ g) : Blk w' g t cs := by
  obtain ⟨F, c, h1, h2⟩ := h
  exact hb.chg c (fun hh => by have := h2 g hh; omega)
set_option maxRecDepth 100000 in
set_option maxHeartbeats 8000000 in
theorem kopen_ok {w : World} {pk pf po : Nat} {ca : Option Addr} {cc : Nat} {ma : Option Addr} {mn mc : Nat} (h : KmC w pk pf ca cc ma mn mc) (hpo : w.cell? ⟨pk, 6, none⟩ = some (.pointer (some ⟨po, 0, none⟩))) (s : ByteArray) (B : Int) (hB : B = 0 ∨ B = 1) (tn dn : Nat) (d : Value) (hd1 : d.oneCell' = true) (Q1 Q2 Q3 : World → World → Prop)
    (HO : ∀ W, Chg Nil w W → Calls Tryz.prog 153 #[.pointer (some ⟨pk, 0, none⟩), .int .i64 1, .agg #[.int .i64 5, .int .i64 3, .int .i64 B, .int .i64 420, .string s, .string ⟨#[]⟩, d]] W fun e w' => e = .returned (.tuple #[.int .i64 (tn : Int), .int .i64 0]) ∧ Q1 W w' ∧ Fm pk w.heap.size W w')
    (HH : ∀ W w1, Chg Nil w W → Q1 W w1 → Calls Tryz.prog 154 #[.pointer (some ⟨pf, 0, none⟩), .int .i64 (tn : Int)] w1 fun e w' => e = .returned (.int .i64 0) ∧ Q2 W w' ∧ Fm pk w.heap.size w1 w')
    (HF : ∀ W w2, Chg Nil w W → Q2 W w2 → Calls Tryz.prog 155 #[.pointer (some ⟨po, 0, none⟩), .int .i64 1, .agg #[.int .i64 1, .int .i64 (tn : Int), .int .i64 3, .bool false, .int .i64 0]] w2.drew fun e w' => e = .returned (.tuple #[.int .i64 (dn : Int), .int .i64 0]) ∧ Q3 W w' ∧ Fm pk w.heap.size w2.drew w') (R : World → World → Prop)
    (hR : ∀ W w3 w4 b, Chg Nil w W → w.heap.size ≤ b → b < W.heap.size → Q3 W w3 → Chg (One b) w3 w4 → R w w4) :
    Calls Tryz.prog 78 #[.pointer (some ⟨pk, 0, none⟩), .int .i64 1, .agg #[.int .i64 5, .int .i64 3, .int .i64 B, .int .i64 420, .string s, .string ⟨#[]⟩, d]] w fun e w' => e = .returned (.agg (anC 0 (dn : Int) 0 (.slice none 0 0)).toArray) ∧ R w w' := by
  have BC0 := Blk.new w 36 (clS 5 3 B 420 s ⟨#[]⟩ d)
  obtain ⟨W1, hW1⟩ : ∃ W1, W1 = w.alloc (.cells (clS 5 3 B 420 s ⟨#[]⟩ d).toArray 36) := ⟨_, rfl⟩
  have hs1 : W1.heap.size = w.heap.size + 1 := by rw [hW1]; exact alloc_size _ _
  rw [← hW1] at BC0
  have BC := BC0.alloc (.cells anZ.toArray 33)
  have BN := Blk.new W1 33 anZ
  rw [hs1] at BN
  obtain ⟨W0, hW0⟩ : ∃ W0, W0 = W1.alloc (.cells anZ.toArray 33) := ⟨_, rfl⟩
  have hs0 : W0.heap.size = w.heap.size + 1 + 1 := by rw [hW0, alloc_size, hs1]
  rw [← hW0] at BC BN
  have C0 : Chg Nil w W0 := by rw [hW0, hW1]; exact ((Chg.refl Nil w).alloc _).alloc _
  have k6 := (C0.cell (a := ⟨pk, 6, none⟩) h.lt (fun h => h)).trans hpo
  have k2 := (h.nil C0).c2
  have LB := load_blk (P := Tryz.prog) (ty := 36) BC Tryz.underlying36 rfl (by kernel_rfl)
  have HO1 := hid (HO W0 C0)
  have x1 := BC.cell 1
  have x2 := BC.cell 2
  have x3 := BC.cell 3
  simp only [clS, List.getElem?_cons_succ, List.getElem?_cons_zero] at x1 x2 x3 LB
  have b1 : ¬ (B < 0) := by omega
  have b2 : ¬ (B > 15) := by omega
  have b3 : bits .and .i64 B 8 = 0 := by rcases hB with rfl | rfl <;> decide
  have hHH := hid HH
  have hHF := hid HF
  have hR' := hid hR
  have hW : Hid (W0 = (w.alloc (.cells #[.int .i64 5, .int .i64 3, .int .i64 B, .int .i64 420, .string s, .string ⟨#[]⟩, d] 36)).alloc (.cells #[.int .i64 0, .int .i64 0, .int .i64 0, .slice none 0 0, .slice none 0 0, .int .i64 0, .int .i64 0, .int .i64 0, .int .i64 0, .int .i64 0, .int .i64 0] 33)) := hid (by rw [hW0, hW1]; rfl)
  replace hs0 := hid hs0
  replace C0 := hid C0
  replace BC := hid BC
  replace BN := hid BN
  clear h hpo HO HH HF hR hB hW0 hW1 hs1 BC0
  go_enter Tryz.func78, Tryz.ntmps78
  go_upto_region 3 with fail
  rw [← hW.out]
  go_wp2_with (refine wpList_load_run LB (by rfl) (by rfl) (by rfl) ?_)
  refine HO1.out.mono ?_
  rintro e w1 ⟨rfl, q1, f1⟩
  have y2 := f1.cell k2 (.inl rfl)
  have y6 := f1.cell k6 (.inl rfl)
  have y21 := f1.cell x1 (.inr (Nat.le_refl _))
  have y22 := f1.cell x2 (.inr (Nat.le_refl _))
  have BN1 := hid (f1.blk BN.out (by omega))
  have HH1 := hid (hHH.out W0 w1 C0.out q1)
  replace q1 := hid q1
  clear f1 k2 k6 x1 x2 x3 LB
  go_wp2_with fail
  refine HH1.out.mono ?_
  rintro e w2 ⟨rfl, q2, f2⟩
  have z6 := f2.cell y6 (.inl rfl)
  have z21 := f2.cell y21 (.inr (Nat.le_refl _))
  have z22 := f2.cell y22 (.inr (Nat.le_refl _))
  have BN2 := hid (f2.blk BN1.out (by omega))
  have HF1 := hid (hHF.out W0 w2 C0.out q2)
  have z6d := (show w2.drew.cell? ⟨pk, 6, none⟩ = _ from z6)
  have z21d := (show w2.drew.cell? ⟨w.heap.size, 1, none⟩ = _ from z21)
  have z22d := (show w2.drew.cell? ⟨w.heap.size, 2, none⟩ = _ from z22)
  have S0 := hid (And.intro z6d (And.intro z21d z22d))
  replace q2 := hid q2
  clear f2 y2 y6 y21 y22 z6d z21d z22d
  go_upto_region 9 with fail
  go_region_held3 (fun w' => w'.cell? ⟨pk, 6, none⟩ = some (.pointer (some ⟨po, 0, none⟩)) ∧ w'.cell? ⟨w.heap.size, 1, none⟩ = some (.int .i64 3) ∧ w'.cell? ⟨w.heap.size, 2, none⟩ = some (.int .i64 B)) (first | exact S0.out | exact S3.out | go_keep) (first | (go_at_call 155; (refine HF1.out.mono ?_); rintro e w3 ⟨rfl, q3, f3⟩; have S3 := hid (And.intro (f3.cell S0.out.1 (.inl rfl)) (And.intro (f3.cell S0.out.2.1 (.inr (Nat.le_refl _))) (f3.cell S0.out.2.2 (.inr (Nat.le_refl _))))); have BN3 := hid (f3.blk (BN2.out.drewN 1) (by omega)); replace q3 := hid q3; clear f3) | fail)
  all_goals
    obtain ⟨V, V1, V2, V3⟩ := an_store BN3.out (vs := anC 0 (dn : Int) 0 (.slice none 0 0)) rfl rfl (anC_one _ _ _ _ rfl)
    have V2' := hid V2
    have V3' := hid V3
    clear V2 V3
    go_wp2_with (refine wpList_store_run V1 (by rfl) (by rfl) (by rfl) (by rfl) ?_)
    refine bodyPost_ret (an_ret rfl V2'.out rfl rfl) rfl ?_
    exact ⟨rfl, hR'.out W0 w3 V (w.heap.size + 1) C0.out (by omega) (by have := hs0.out; omega) q3.out V3'.out⟩
end Go.Proofs.YtdcbagmgflcemaaGreatDoor
