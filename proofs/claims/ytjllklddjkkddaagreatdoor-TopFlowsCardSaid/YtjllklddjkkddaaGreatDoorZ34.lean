/- The kernel as one thing in memory, with one footprint. No program is walked here; no condition · The kernel makes a pipe. Conditions: the first one; two descriptors and two places are free · The kernel reads of the pipe. Conditions: a descriptor that takes of it. -/
import Derived.Test.YtjllklddjkkddaaGreatDoorZ33
namespace Go.Proofs.YtjllklddjkkddaaGreatDoor
open Go.ChangeShapes Go.WideShapes Go.ChangeAt Go.RowKit
set_option linter.unusedVariables false
/-- In one of these. -/
def uni (Fs : List (Nat → Prop)) : Nat → Prop := fun k => ∃ (i : Nat) (F : Nat → Prop), Fs[i]? = some F ∧ F k
theorem uni_of {Fs : List (Nat → Prop)} {F : Nat → Prop} (i : Nat) (h : Fs[i]? = some F) : ∀ k, F k → uni Fs k := fun k hk => ⟨i, F, h, hk⟩
theorem uni_set {N : Nat} {Fs : List (Nat → Prop)} {F F' : Nat → Prop} {i : Nat} (h : Fs[i]? = some F) (hg : Grew N F F') : Grew N (uni Fs) (uni (Fs.set i F')) := by
  rintro k ⟨j, G, hj, hk⟩
  rw [List.getElem?_set] at hj
  split at hj
  · rename_i hij
    split at hj
    · injection hj with hj
      subst hj
      rcases hg k hk with h1 | h1
      · exact .inl ⟨i, F, h, h1⟩
      · exact .inr h1
    · cases hj
  · exact .inl ⟨j, G, hj, hk⟩
/-- The kernel, whole. -/
def KAt (w : World) (B : Nat) (U : Nat → Prop) (pk : Nat) (X : KX) : Prop := ∃ pm pf pp pr pw po pc pq FM FP FR FW, KSy w B pk pm pf pp pr pw po pc pq FM FP FR FW X ∧ U = uni (kFs pk po pc pq X.cw FM FP FR FW)
section
variable {w w' : World} {B pk : Nat} {U H : Nat → Prop} {X : KX}
theorem KAt.chg (h : KAt w B U pk X) (hc : Chg H w w') (hd : Dj U H) : KAt w' B U pk X := by
  obtain ⟨pm, pf, pp, pr, pw, po, pc, pq, FM, FP, FR, FW, h, rfl⟩ := h
  exact ⟨pm, pf, pp, pr, pw, po, pc, pq, FM, FP, FR, FW, h.far hc (fun k hk => .inr (fun i F hi hF => hd k ⟨i, F, hi, hF⟩ hk)), rfl⟩
theorem KAt.nil (h : KAt w B U pk X) (hc : Chg Nil w w') : KAt w' B U pk X := h.chg hc (fun _ _ h => h)
theorem KAt.lt (h : KAt w B U pk X) : ∀ k, U k → k < w.heap.size := by
  obtain ⟨pm, pf, pp, pr, pw, po, pc, pq, FM, FP, FR, FW, h, rfl⟩ := h
  rintro k ⟨i, F, hi, hk⟩
  exact h.sep.lt i hi k hk
theorem KAt.ge (h : KAt w B U pk X) : ∀ k, U k → B ≤ k := by
  obtain ⟨pm, pf, pp, pr, pw, po, pc, pq, FM, FP, FR, FW, h, rfl⟩ := h
  rintro k ⟨i, F, hi, hk⟩
  exact h.sep.ge i hi k hk
theorem KAt.st (h : KAt w B U pk X) : KSt B w pk X := by
  obtain ⟨pm, pf, pp, pr, pw, po, pc, pq, FM, FP, FR, FW, h, rfl⟩ := h
  exact ⟨pm, pf, pp, pr, pw, po, pc, pq, FM, FP, FR, FW, h⟩
theorem KSt.at (h : KSt B w pk X) : ∃ U, KAt w B U pk X := by
  obtain ⟨pm, pf, pp, pr, pw, po, pc, pq, FM, FP, FR, FW, h⟩ := h
  exact ⟨_, pm, pf, pp, pr, pw, po, pc, pq, FM, FP, FR, FW, h, rfl⟩
end
/-- What a call of the kernel leaves: its state, and what may have changed. -/
def KPost (w : World) (B : Nat) (U : Nat → Prop) (pk : Nat) (X : KX) (w' : World) : Prop := ∃ U', KAt w' B U' pk X ∧ Chg U w w' ∧ Grew w.heap.size U U'
theorem KPost.far {w w1 w2 : World} {B pk b : Nat} {U : Nat → Prop} {X : KX} (h : KPost w B U pk X w1) (hb : ¬ U b) (hlt : b < w.heap.size) (hc : Chg (One b) w1 w2) : KAt w2 B h.choose pk X := by
  obtain ⟨h1, h2, h3⟩ := h.choose_spec
  refine h1.chg hc (fun k hk hh => ?_)
  rw [show k = b from hh] at hk
  rcases h3 b hk with h4 | h4
  · exact hb h4
  · omega
section
variable {w w' : World} {B pk pm pf pp pr pw po pc pq : Nat} {FM FP FR FW : Nat → Prop} {X : KX}
theorem KSy.postOp (h : KSy w B pk pm pf pp pr pw po pc pq FM FP FR FW X) {fl : Nat → Fl} {fd : Nat → Nat → Nat} (hk : OpAt w' po fl fd) (hc : Chg (One po) w w') : KPost w B (uni (kFs pk po pc pq X.cw FM FP FR FW)) pk { X with fl := fl, fd := fd } w' :=
  ⟨_, ⟨_, _, _, _, _, _, _, _, _, _, _, _, h.upOp hk hc, rfl⟩, hc.mono (fun k _ hk => uni_of 5 rfl k hk), Grew.refl _ _⟩
theorem KSy.postPr (h : KSy w B pk pm pf pp pr pw po pc pq FM FP FR FW X) {pl : Nat → Pe} (hk : PrAt w' pc pl) (hc : Chg (One pc) w w') : KPost w B (uni (kFs pk po pc pq X.cw FM FP FR FW)) pk { X with pl := pl } w' :=
  ⟨_, ⟨_, _, _, _, _, _, _, _, _, _, _, _, h.upPr hk hc, rfl⟩, hc.mono (fun k _ hk => uni_of 6 rfl k hk), Grew.refl _ _⟩
theorem KSy.postKn (h : KSy w B pk pm pf pp pr pw po pc pq FM FP FR FW X) {ts : Nat → Nat → Value} (hk : KnAt w' pk (hdK pm pf pp pr pw po pc) ts) (hc : Chg (One pk) w w') (ht : X.cw = true → ts 1 17 = X.ts 1 17) : KPost w B (uni (kFs pk po pc pq X.cw FM FP FR FW)) pk { X with ts := ts } w' :=
  ⟨_, ⟨_, _, _, _, _, _, _, _, _, _, _, _, h.upKn hk hc ht, rfl⟩, hc.mono (fun k _ hk => uni_of 0 rfl k hk), Grew.refl _ _⟩
theorem KSy.postSp (h : KSy w B pk pm pf pp pr pw po pc pq FM FP FR FW X) {F' : Nat → Prop} {n : Nat} {sp : Nat → Bool} (hk : SpB w' F' pm n sp) (hc : Chg FM w w') (hg : Grew w.heap.size FM F') : KPost w B (uni (kFs pk po pc pq X.cw FM FP FR FW)) pk { X with n := n, sp := sp } w' :=
  ⟨_, ⟨_, _, _, _, _, _, _, _, _, _, _, _, h.upSp hk hc hg, rfl⟩, hc.mono (fun k _ hk => uni_of 1 rfl k hk), uni_set (Fs := kFs pk po pc pq X.cw FM FP FR FW) (i := 1) rfl hg⟩
theorem KSy.postPi (h : KSy w B pk pm pf pp pr pw po pc pq FM FP FR FW X) {F' : Nat → Prop} {o : Option (Int × Int × List Int)} (hk : PipeAt w' F' pp o) (hc : Chg FP w w') (hg : Grew w.heap.size FP F') : KPost w B (uni (kFs pk po pc pq X.cw FM FP FR FW)) pk { X with pipe := o } w' :=
  ⟨_, ⟨_, _, _, _, _, _, _, _, _, _, _, _, h.upPi hk hc hg, rfl⟩, hc.mono (fun k _ hk => uni_of 2 rfl k hk), uni_set (Fs := kFs pk po pc pq X.cw FM FP FR FW) (i := 2) rfl hg⟩
theorem KSy.postRn (h : KSy w B pk pm pf pp pr pw po pc pq FM FP FR FW X) {F' : Nat → Prop} {r : SR} (hk : RunAt w' F' pr r) (hc : Chg FR w w') (hg : Grew w.heap.size FR F') : KPost w B (uni (kFs pk po pc pq X.cw FM FP FR FW)) pk { X with run := r } w' :=
  ⟨_, ⟨_, _, _, _, _, _, _, _, _, _, _, _, h.upRn hk hc hg, rfl⟩, hc.mono (fun k _ hk => uni_of 3 rfl k hk), uni_set (Fs := kFs pk po pc pq X.cw FM FP FR FW) (i := 3) rfl hg⟩
end
theorem KPost.trans {w w1 w2 : World} {B pk : Nat} {U U1 : Nat → Prop} {X X2 : KX} (hc : Chg U w w1) (hg : Grew w.heap.size U U1) (h2 : KPost w1 B U1 pk X2 w2) : KPost w B U pk X2 w2 := by
  obtain ⟨U2, a1, a2, a3⟩ := h2
  refine ⟨U2, a1, hc.trans a2 (fun k hk h => ?_), hg.trans a3 hc.size⟩
  rcases hg k h with h1 | h1
  · exact h1
  · omega
theorem KPost.nil {w w1 w2 : World} {B pk : Nat} {U : Nat → Prop} {X : KX} (h : KPost w B U pk X w1) (hc : Chg Nil w1 w2) : KPost w B U pk X w2 := by
  obtain ⟨U2, a1, a2, a3⟩ := h
  exact ⟨U2, a1.nil hc, a2.trans hc (fun _ _ h => h.elim), a3⟩
theorem KPost.pre {w w0 w1 : World} {B pk : Nat} {U : Nat → Prop} {X : KX} (hc : Chg Nil w0 w) (h : KPost w B U pk X w1) : KPost w0 B U pk X w1 := by
  obtain ⟨U2, a1, a2, a3⟩ := h
  exact ⟨U2, a1, (hc.mono (fun _ _ h => h.elim)).trans a2 (fun _ _ h => h), fun k hk => by
    rcases a3 k hk with h | h
    · exact .inl h
    · exact .inr (Nat.le_trans hc.size h)⟩
end Go.Proofs.YtjllklddjkkddaaGreatDoor
namespace Go.Proofs.YtjllklddjkkddaaGreatDoor
open Go.ChangeShapes Go.WideShapes Go.ChangeAt Go.RowKit
set_option linter.unusedVariables false
theorem an_store {w : World} {b : Nat} {cs vs : List Value} (h : Blk w b 33 cs) (hl : cs.length = 11) (hv : vs.length = 11) (h1 : ∀ u ∈ vs, u.oneCell' = true) :
    ∃ W, (Instr.storeAt 33 (.pointer (some ⟨b, 0, none⟩)) (.agg vs.toArray)).run Tryz.prog w = .ok () W ∧ Blk W b 33 vs ∧ Chg (One b) w W := by
  obtain ⟨S1, S2⟩ := store_blk (P := Tryz.prog) (ty := 33) h (vs := vs) (by rw [hv, hl]) (by rw [hv]; kernel_rfl) h1
  exact ⟨_, S1, S2, setCells_chg _ _ _ _ _ rfl⟩
theorem an_ret {tmps : Array Value} {fn : Func} {p : Tmp} {w : World} {b : Nat} {vs : List Value} (h : fn.results = #[.cell p 33]) (hb : Blk w b 33 vs) (hl : vs.length = 11) (hp : tmps.getD p undef = .pointer (some ⟨b, 0, none⟩)) :
    (results fn tmps).run Tryz.prog w = .ok (.agg vs.toArray) w := results_blk h hb hp Tryz.underlying33 rfl (by rw [hl]; kernel_rfl)
set_option maxRecDepth 100000 in
set_option maxHeartbeats 2000000 in
theorem kpipe_ok (w : World) (B : Nat) (U : Nat → Prop) (pk : Nat) (X : KX) (h : KAt w B U pk X) (q : Nat) (q1 : 1 ≤ q) (q2 : q ≤ 16) (hp : X.pipe = none) (d0 : X.fd q 0 = 0) (d1 : X.fd q 1 = 0) (n0 : (X.fl 0).n = 0) (n1 : (X.fl 1).n = 0) :
    Calls Tryz.prog 79 #[.pointer (some ⟨pk, 0, none⟩), .int .i64 (q : Int)] w fun e w' => e = .returned (.agg (anC 0 0 1 (.slice none 0 0)).toArray) ∧ KPost w B U pk { X with pipe := some (1, 1, []), fl := updF (updF X.fl 0 ⟨2, 1, 1, false, 0, 1⟩) 1 ⟨3, 1, 2, false, 0, 1⟩, fd := updD (updD X.fd q 0 1) q 1 2 } w' := by
  have hlt := h.lt
  have h0 := h.nil ((Chg.refl Nil w).alloc (.cells anZ.toArray 33))
  have B0 := hid (Blk.new w 33 anZ)
  have hb : ¬ U w.heap.size := fun hh => absurd (hlt _ hh) (by omega)
  obtain ⟨W0, hW0⟩ : ∃ W0, W0 = w.alloc (.cells anZ.toArray 33) := ⟨_, rfl⟩
  have C0 : Chg Nil w W0 := by rw [hW0]; exact (Chg.refl Nil w).alloc _
  rw [← hW0] at h0 B0
  obtain ⟨pm, pf, pp, pr, pw, po, pc, pq, FM, FP, FR, FW, h0, rfl⟩ := h0
  have k3 : W0.cell? ⟨pk, 3, none⟩ = some (.pointer (some ⟨pp, 0, none⟩)) := h0.kn.h (i := 3) (by omega)
  have k3' : (w.alloc (.cells #[.int .i64 0, .int .i64 0, .int .i64 0, .slice none 0 0, .slice none 0 0, .int .i64 0, .int .i64 0, .int .i64 0, .int .i64 0, .int .i64 0, .int .i64 0] 33)).cell? ⟨pk, 3, none⟩ = some (.pointer (some ⟨pp, 0, none⟩)) := by rw [hW0] at k3; exact k3
  have P0 := h0.pi
  rw [hp] at P0
  have HM := hid (pimake_0 W0 pp P0.1)
  replace P0 := hid P0
  replace h0 := hid h0
  replace hb := hid hb
  replace hlt := hid hlt
  clear h
  have hW0' : w.alloc (.cells #[.int .i64 0, .int .i64 0, .int .i64 0, .slice none 0 0, .slice none 0 0, .int .i64 0, .int .i64 0, .int .i64 0, .int .i64 0, .int .i64 0, .int .i64 0] 33) = W0 := hW0.symm
  rw [hW0] at HM
  clear k3
  go_enter Tryz.func79, Tryz.ntmps79
  replace hW0 := hid hW0
  replace hW0' := hid hW0'
  go_wp2_with fail
  refine HM.out.mono ?_
  rintro e w1 ⟨rfl, p1, c1⟩
  rw [← hW0.out] at p1 c1
  have P1 := h0.out.postPi (o := some (1, 1, [])) ⟨_, p1⟩ (c1.mono (fun k _ hk => by rw [show k = pp from hk]; exact P0.out.2.1)) (fun k hk => by
    rcases hk with hk | hk
    · exact .inl (by rw [show k = pp from hk]; exact P0.out.2.1)
    · exact .inr (Nat.le_of_eq (show k = W0.heap.size from hk).symm))
  have B1 := B0.out.chg c1 (fun hh => hb.out (by rw [show w.heap.size = pp from hh]; exact uni_of 2 rfl pp P0.out.2.1))
  clear p1 c1 HM k3'
  obtain ⟨U1, ⟨pm1, pf1, pp1, pr1, pw1, po1, pc1, pq1, FM1, FP1, FR1, FW1, h1, hU1⟩, c1, g1⟩ := P1
  have k6 : w1.cell? ⟨pk, 6, none⟩ = some (.pointer (some ⟨po1, 0, none⟩)) := h1.kn.h (i := 6) (by omega)
  have HO1 := hid (opopen_ok w1 po1 _ _ h1.op q q1 q2 0 (by omega) d0 (fun j hj => absurd hj (by omega)) 0 (by omega) n0 (fun j hj => absurd hj (by omega)) 2 1 1 0 false (by omega) (by omega) (by omega) (by omega) (by omega) (by omega))
  have hb1 : ¬ U1 w.heap.size := fun hh => by
    rcases g1 _ hh with h | h
    · exact hb.out h
    · have := B0.out.lt; omega
  have KP1 : KPost w B (uni (kFs pk po pc pq X.cw FM FP FR FW)) pk { X with pipe := some (1, 1, []) } w1 := KPost.pre C0 ⟨U1, ⟨_, _, _, _, _, _, _, _, _, _, _, _, h1, hU1⟩, c1, g1⟩
  have cU1 := C0.mono (G := uni (kFs pk po pc pq X.cw FM FP FR FW)) (fun _ _ h => h.elim)
  have c01 := hid (cU1.trans c1 (fun _ _ h => h))
  have g01 : Hid (Grew w.heap.size (uni (kFs pk po pc pq X.cw FM FP FR FW)) U1) := hid (fun k hk => by
    rcases g1 k hk with h | h
    · exact .inl h
    · exact .inr (Nat.le_trans C0.size h))
  subst hU1
  replace h1 := hid h1
  replace B1 := hid B1
  replace hb1 := hid hb1
  clear KP1 cU1 c1 g1 h0 P0 hW0 hW0' B0 C0
  go_wp2_with fail
  refine HO1.out.mono ?_
  rintro e w2 ⟨rfl, o2, c2⟩
  obtain ⟨U2, ⟨pm2, pf2, pp2, pr2, pw2, po2, pc2, pq2, FM2, FP2, FR2, FW2, h2, hU2⟩, c12, g12⟩ := h1.out.postOp o2 c2
  have B2 := B1.out.chg c12 hb1.out
  have k6 : w2.cell? ⟨pk, 6, none⟩ = some (.pointer (some ⟨po2, 0, none⟩)) := h2.kn.h (i := 6) (by omega)
  have HO2 := hid (opopen_ok w2 po2 _ _ h2.op q q1 q2 1 (by omega) (by show updD X.fd q 0 1 q 1 = 0; unfold updD; rw [if_neg (by omega)]; exact d1) (fun j hj => by
    obtain rfl : j = 0 := by omega
    show updD X.fd q 0 1 q 0 ≠ 0
    unfold updD
    rw [if_pos ⟨rfl, rfl⟩]
    omega) 1 (by omega) (by show (updF X.fl 0 ⟨2, 1, 1, false, 0, 1⟩ 1).n = 0; unfold updF; rw [if_neg (by omega)]; exact n1) (fun j hj => by
    obtain rfl : j = 0 := by omega
    show (updF X.fl 0 ⟨2, 1, 1, false, 0, 1⟩ 0).n ≠ 0
    unfold updF
    rw [if_pos rfl]
    show (1 : Int) ≠ 0
    omega) 3 1 2 0 false (by omega) (by omega) (by omega) (by omega) (by omega) (by omega))
  have hb2 : ¬ U2 w.heap.size := fun hh => by
    rcases g12 _ hh with h | h
    · exact hb1.out h
    · have := B1.out.lt; omega
  subst hU2
  replace h2 := hid h2
  replace B2 := hid B2
  replace hb2 := hid hb2
  replace c12 := hid c12
  replace g12 := hid g12
  clear HO1 o2 c2 h1
  go_wp2_with fail
  refine HO2.out.mono ?_
  rintro e w3 ⟨rfl, o3, c3⟩
  obtain ⟨U3, a3, c23, g23⟩ := h2.out.postOp o3 c3
  have B3 := B2.out.chg c23 hb2.out
  have hb3 : ¬ U3 w.heap.size := fun hh => by
    rcases g23 _ hh with h | h
    · exact hb2.out h
    · have := B2.out.lt; omega
  obtain ⟨W, S1, S2, S3⟩ := an_store B3 (vs := anC 0 0 1 (.slice none 0 0)) rfl rfl (anC_one _ _ _ _ rfl)
  have a4 := hid (a3.chg S3 (fun k hk hh => hb3 (by rw [← show k = w.heap.size from hh]; exact hk)))
  have cc := hid (c12.out.trans c23 (fun k hk h => by
    rcases g12.out k h with h1 | h1
    · exact h1
    · omega))
  have gg := hid (g12.out.trans g23 c12.out.size)
  replace S2 := hid S2
  replace S3 := hid S3
  have hsz3 := hid (Nat.le_trans c12.out.size c23.size)
  clear HO2 o3 c3 h2 a3 B3 k6 hb3 c23 g23
  go_wp2_with (refine wpList_store_run S1 (by rfl) (by rfl) (by rfl) (by rfl) ?_)
  refine bodyPost_ret (an_ret rfl S2.out rfl rfl) rfl ?_
  refine ⟨rfl, U3, a4.out, ?_, ?_⟩
  · refine (c01.out.trans cc.out (fun k hk h => ?_)).one (.inr (Nat.le_refl _)) S3.out
    rcases g01.out k h with h1 | h1
    · exact h1
    · omega
  · exact g01.out.trans gg.out c01.out.size
end Go.Proofs.YtjllklddjkkddaaGreatDoor
namespace Go.Proofs.YtjllklddjkkddaaGreatDoor
open Go.ChangeShapes Go.WideShapes Go.ChangeAt Go.RowKit
set_option linter.unusedVariables false
/-- A call. -/
def clC (num a b c : Int) (d : Value) : List Value := [.int .i64 num, .int .i64 a, .int .i64 b, .int .i64 c, .string ⟨#[]⟩, .string ⟨#[]⟩, d]
theorem boxes (w : World) (cc tt : List Value) :
    Blk (((w.alloc (.cells cc.toArray 36)).alloc (.cells tt.toArray 169)).alloc (.cells anZ.toArray 33)) w.heap.size 36 cc ∧
    Blk (((w.alloc (.cells cc.toArray 36)).alloc (.cells tt.toArray 169)).alloc (.cells anZ.toArray 33)) (w.heap.size + 1) 169 tt ∧
    Blk (((w.alloc (.cells cc.toArray 36)).alloc (.cells tt.toArray 169)).alloc (.cells anZ.toArray 33)) (w.heap.size + 1 + 1) 33 anZ := by
  refine ⟨((Blk.new w _ cc).alloc _).alloc _, ?_, ?_⟩
  · have := (Blk.new (w.alloc (.cells cc.toArray 36)) 169 tt).alloc (.cells anZ.toArray 33)
    rwa [alloc_size] at this
  · have := Blk.new ((w.alloc (.cells cc.toArray 36)).alloc (.cells tt.toArray 169)) 33 anZ
    rwa [alloc_size, alloc_size] at this
set_option maxRecDepth 100000 in
set_option maxHeartbeats 2000000 in
theorem kread_wait (w : World) (B : Nat) (U : Nat → Prop) (pk : Nat) (X : KX) (h : KAt w B U pk X) (q : Nat) (s : Int) (hp : X.pipe = some (1, s, [])) (hs : 0 < s) (a b : Int) (n : Nat) (hn0 : 0 < n) (hn : n ≤ 256) (d : Value) (k : Int) :
    Calls Tryz.prog 83 #[.pointer (some ⟨pk, 0, none⟩), .int .i64 (q : Int), .agg #[.int .i64 7, .int .i64 a, .int .i64 b, .int .i64 (n : Int), .string ⟨#[]⟩, .string ⟨#[]⟩, d], .agg #[.int .i64 2, .int .i64 1, .int .i64 1, .bool false, .int .i64 0]] w fun e w' => e = .returned (.agg (anC 9 0 0 (.slice none 0 0)).toArray) ∧ Chg Nil w w' := by
  obtain ⟨pm, pf, pp, pr, pw, po, pc, pq, FM, FP, FR, FW, h, rfl⟩ := h
  have P0 := h.pi
  rw [hp] at P0
  obtain ⟨g, P0⟩ := P0
  have hlk := Blk.lt h.kn
  have HR := hid (fun w' (hc : Chg Nil w w') => piread_wait w' FP pp g s (P0.nil hc) hs n hn0 hn)
  have k3 : w.cell? ⟨pk, 3, none⟩ = some (.pointer (some ⟨pp, 0, none⟩)) := h.kn.h (i := 3) (by omega)
  have o1 : bits BinOp.and IntKind.i64 1 1 = 1 := by kernel_rfl
  have i1 : ¬ (n : Int) < 0 := by omega
  have i2 : ¬ (256 : Int) < (n : Int) := by omega
  clear h P0 hp
  go_enter Tryz.func83, Tryz.ntmps83
  go_wp2
  obtain ⟨BA, BB, BC⟩ := boxes w (clC 7 a b n d) [.int .i64 2, .int .i64 1, .int .i64 1, .bool false, .int .i64 0]
  have CA : Chg Nil w (((w.alloc (.cells (clC 7 a b n d).toArray 36)).alloc (.cells [Value.int .i64 2, .int .i64 1, .int .i64 1, .bool false, .int .i64 0].toArray 169)).alloc (.cells anZ.toArray 33)) := (((Chg.refl Nil w).alloc _).alloc _).alloc _
  generalize hV : ((w.alloc (.cells #[.int .i64 7, .int .i64 a, .int .i64 b, .int .i64 (n : Int), .string ⟨#[]⟩, .string ⟨#[]⟩, d] 36)).alloc (.cells #[.int .i64 2, .int .i64 1, .int .i64 1, .bool false, .int .i64 0] 169)).alloc (.cells #[.int .i64 0, .int .i64 0, .int .i64 0, .slice none 0 0, .slice none 0 0, .int .i64 0, .int .i64 0, .int .i64 0, .int .i64 0, .int .i64 0, .int .i64 0] 33) = V
  have hV' : ((w.alloc (.cells (clC 7 a b n d).toArray 36)).alloc (.cells [Value.int .i64 2, .int .i64 1, .int .i64 1, .bool false, .int .i64 0].toArray 169)).alloc (.cells anZ.toArray 33) = V := hV
  rw [hV'] at BA BB BC CA
  replace hV := hid hV
  replace hV' := hid hV'
  have k3V := (CA.cell (a := ⟨pk, 3, none⟩) hlk (fun h => h)).trans k3
  have e3 := BA.cell 3
  have e1 := BB.cell 1
  simp only [clC, List.getElem?_cons_succ, List.getElem?_cons_zero] at e3 e1
  have HRV := hid (HR.out V.drew CA.drew)
  replace BA := hid BA
  replace BB := hid BB
  replace BC := hid BC
  replace CA := hid CA
  obtain ⟨W, S1, S2, S3⟩ := an_store (Blk.drew BC.out) (vs := anC 9 0 0 (.slice none 0 0)) rfl rfl (anC_one _ _ _ _ rfl)
  have CW := hid (CA.out.drew.one (g := w.heap.size + 1 + 1) (.inr (by omega)) S3)
  replace S1 := hid S1
  replace S2 := hid S2
  clear S3
  clear k3 HR
  go_region_law
    (go_simp; go_at_call 158; refine HRV.out.mono ?_; rintro e w2 ⟨rfl, rfl⟩)
  all_goals
    clear e3 e1 k3V
    go_wp2_with (refine wpList_store_run S1.out (by rfl) (by rfl) (by rfl) (by rfl) ?_)
    refine bodyPost_ret (an_ret rfl S2.out rfl rfl) rfl ?_
    exact ⟨rfl, CW.out⟩
set_option maxRecDepth 100000 in
set_option maxHeartbeats 2000000 in
theorem kread_ok (w : World) (B : Nat) (U : Nat → Prop) (pk : Nat) (X : KX) (h : KAt w B U pk X) (q : Nat) (s : Int) (bs : List Int) (hp : X.pipe = some (1, s, bs)) (a b : Int) (n : Nat) (hn : n ≤ 256) (hw : n = 0 ∨ bs ≠ [] ∨ s = 0) (d : Value) (k : Int) :
    Calls Tryz.prog 83 #[.pointer (some ⟨pk, 0, none⟩), .int .i64 (q : Int), .agg #[.int .i64 7, .int .i64 a, .int .i64 b, .int .i64 (n : Int), .string ⟨#[]⟩, .string ⟨#[]⟩, d], .agg #[.int .i64 2, .int .i64 1, .int .i64 1, .bool false, .int .i64 0]] w fun e w' => ∃ a c G, e = .returned (.agg (anC 0 ((min n bs.length : Nat) : Int) 0 (.slice a (min n bs.length) c)).toArray) ∧ Sl w' 5 1 a (min n bs.length) c (bys (bs.take n)) G ∧ KPost w B U pk { X with pipe := some (1, s, bs.drop n) } w' := by
  obtain ⟨m, hm⟩ : ∃ m, m = min n bs.length := ⟨_, rfl⟩
  rw [← hm]
  obtain ⟨pm, pf, pp, pr, pw, po, pc, pq, FM, FP, FR, FW, h, rfl⟩ := h
  have P0 := h.pi
  rw [hp] at P0
  obtain ⟨g, P0⟩ := P0
  have hlk := Blk.lt h.kn
  have HR := hid (fun w' (hc : Chg Nil w w') => piread_ok w' FP pp g s bs (P0.nil hc) n hn hw)
  have hFP := hid h.pi.lt
  have H := hid h
  have k3 : w.cell? ⟨pk, 3, none⟩ = some (.pointer (some ⟨pp, 0, none⟩)) := h.kn.h (i := 3) (by omega)
  have o1 : bits BinOp.and IntKind.i64 1 1 = 1 := by kernel_rfl
  have i1 : ¬ (n : Int) < 0 := by omega
  have i2 : ¬ (256 : Int) < (n : Int) := by omega
  clear h P0 hp hw
  go_enter Tryz.func83, Tryz.ntmps83
  go_wp2
  obtain ⟨BA, BB, BC⟩ := boxes w (clC 7 a b n d) [.int .i64 2, .int .i64 1, .int .i64 1, .bool false, .int .i64 0]
  have CA : Chg Nil w (((w.alloc (.cells (clC 7 a b n d).toArray 36)).alloc (.cells [Value.int .i64 2, .int .i64 1, .int .i64 1, .bool false, .int .i64 0].toArray 169)).alloc (.cells anZ.toArray 33)) := (((Chg.refl Nil w).alloc _).alloc _).alloc _
  generalize hV : ((w.alloc (.cells #[.int .i64 7, .int .i64 a, .int .i64 b, .int .i64 (n : Int), .string ⟨#[]⟩, .string ⟨#[]⟩, d] 36)).alloc (.cells #[.int .i64 2, .int .i64 1, .int .i64 1, .bool false, .int .i64 0] 169)).alloc (.cells #[.int .i64 0, .int .i64 0, .int .i64 0, .slice none 0 0, .slice none 0 0, .int .i64 0, .int .i64 0, .int .i64 0, .int .i64 0, .int .i64 0, .int .i64 0] 33) = V
  have hV' : ((w.alloc (.cells (clC 7 a b n d).toArray 36)).alloc (.cells [Value.int .i64 2, .int .i64 1, .int .i64 1, .bool false, .int .i64 0].toArray 169)).alloc (.cells anZ.toArray 33) = V := hV
  rw [hV'] at BA BB BC CA
  replace hV := hid hV
  replace hV' := hid hV'
  have k3V := (CA.cell (a := ⟨pk, 3, none⟩) hlk (fun h => h)).trans k3
  have e3 := BA.cell 3
  have e1 := BB.cell 1
  simp only [clC, List.getElem?_cons_succ, List.getElem?_cons_zero] at e3 e1
  have HRV := HR.out V.drew CA.drew
  rw [← hm] at HRV
  replace HRV := hid HRV
  replace hm := hid hm
  replace BA := hid BA
  replace BB := hid BB
  replace BC := hid BC
  replace CA := hid CA
  clear k3 HR
  go_region_law
    (go_simp; go_at_call 158; refine HRV.out.mono ?_; rintro e w2 ⟨a2, c2, G2, F2, rfl, s2, p2, d2, g2⟩; replace s2 := hid s2; replace p2 := hid p2; replace d2 := hid d2; replace g2 := hid g2)
  all_goals
    clear e3 e1 k3V
    have hbF : ¬ FP (w.heap.size + 1 + 1) := fun hh => by have := hFP.out _ hh; omega
    have B2 := Blk.chg (Blk.drew BC.out) d2.out hbF
    obtain ⟨U2, a3, c3, g3⟩ := (H.out.nil CA.out.drew).postPi (o := some (1, s, bs.drop n)) ⟨g, p2.out⟩ d2.out g2.out
    obtain ⟨W, S1, S2, S3⟩ := an_store B2 (vs := anC 0 (m : Int) 0 (.slice a2 m c2)) rfl rfl (anC_one _ _ _ _ rfl)
    have hU2 : ¬ U2 (w.heap.size + 1 + 1) := fun hh => by
      have hsz := BC.out.lt
      rcases g3 _ hh with h1 | h1
      · obtain ⟨i, F, hi, hk⟩ := h1
        have := H.out.sep.lt i hi _ hk
        omega
      · have : V.drew.heap.size = V.heap.size := rfl
        omega
    have a4 := hid (a3.chg S3 (fun k hk hh => hU2 (by rw [← show k = w.heap.size + 1 + 1 from hh]; exact hk)))
    have s4 := hid (s2.out.chg S3 (fun g hg hh => s2.out.ne_blk B2 (by decide) (by rw [hg, show g = w.heap.size + 1 + 1 from hh])))
    have c4 := hid (((CA.out.drew.mono (fun _ _ h => h.elim)).trans c3 (fun _ _ h => h)).one (g := w.heap.size + 1 + 1) (.inr (by omega)) S3)
    have g4 : Hid (Grew w.heap.size (uni (kFs pk po pc pq X.cw FM FP FR FW)) U2) := hid (fun k hk => by
      rcases g3 k hk with h1 | h1
      · exact .inl h1
      · exact .inr (Nat.le_trans CA.out.drew.size h1))
    replace S2 := hid S2
    clear a3 c3 g3 S3 B2 hU2 hbF
    go_wp2_with (refine wpList_store_run S1 (by rfl) (by rfl) (by rfl) (by rfl) ?_)
    refine bodyPost_ret (an_ret rfl S2.out rfl rfl) rfl ?_
    exact ⟨a2, c2, G2, rfl, s4.out, U2, a4.out, c4.out, g4.out⟩
end Go.Proofs.YtjllklddjkkddaaGreatDoor
