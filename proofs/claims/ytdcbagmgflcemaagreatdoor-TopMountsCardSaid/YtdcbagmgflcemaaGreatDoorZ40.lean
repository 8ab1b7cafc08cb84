/- package path: Last. Conditions: as for Walk; the way ahead of its last piece leads to a directory · The kernel with files: what of process 1 the calls about names read; may. Conditions: the first user with all capabilities · The kernel with files: last, walk. Conditions: as told of path.Last and path.Walk · The kernel with files: walk. Conditions: as told of path.Walk · The kernel with files: walk to what is there. Conditions: as told of path.Walk and of Stat. -/
import Derived.Test.YtdcbagmgflcemaaGreatDoorZ39
import Derived.Test.YtdcbagmgflcemaaGreatDoorZ26
namespace Go.Proofs.YtdcbagmgflcemaaGreatDoor
open Go.ChangeShapes Go.WideShapes Go.ChangeAt Go.RowKit
set_option linter.unusedVariables false
set_option maxRecDepth 100000 in
set_option maxHeartbeats 8000000 in
theorem pLast_ok (w : World) (f : Nat) (Rm : Nat → Prop) (ma : Option Addr) (mn mc : Nat) (ms : List Mn) (hm : Rd w Rm 2 ma mn mc (moL ms)) (hmn : mn = ms.length) (hms : MoS ms) (Rc : Nat → Prop) (ca : Option Addr) (cc : Nat) (st : List Nat) (hc : Rd w Rc 1 ca st.length cc (ints .i64 (stI st))) (h0 : 0 < st.length) (h6 : st.length ≤ 4) (l : List UInt8) (hl : NmL l) (y : Way) (x : UInt8) (l1 : List UInt8) (hlx : l = l1 ++ [x]) (hy : WayOk w f (.slice ma mn mc) l1 y 0) (hy0 : y.S 0 = st) (tn : Nat) (htn : (y.S l1.length).getLast? = some tn)
    (hmay : ∀ W, Chg Nil w W → ∃ md sz ln : Int, 0 ≤ md ∧ md ≤ 511 ∧ ∀ W', Chg Nil W W' → Calls Tryz.prog 161 #[.pointer (some ⟨f, 0, none⟩), .int .i64 (tn : Int)] W' fun e W'' => e = .returned (.tuple #[stN 2 md sz ln, .int .i64 0]) ∧ Chg Nil W' W'') :
    Calls Tryz.prog 233 #[trV f, .slice ma mn mc, crV, .slice ca st.length cc, .string (nmB l)] w fun e w' => ∃ a c G, e = .returned (.tuple #[.slice a (y.S l1.length).length c, .string ⟨#[x]⟩, .int .i64 0]) ∧ Sl w' 3 1 a (y.S l1.length).length c (ints .i64 (stI (y.S l1.length))) G ∧ (∀ g, G = some g → w.heap.size ≤ g) ∧ Chg Nil w w' := by
  have CA := (Chg.refl Nil w).alloc (.cells #[.int .i64 0, .int .i64 0, .slice none 0 0, .int .i64 127, .int .i64 0, .int .i64 0] 55)
  have BA := Blk.new w 55 [.int .i64 0, .int .i64 0, .slice none 0 0, .int .i64 127, .int .i64 0, .int .i64 0]
  have HST := hid (pstart_ok _ f Rm ma mn mc ms (hm.chg CA (fun _ _ _ h => h)) hmn hms Rc ca cc st (hc.chg CA (fun _ _ _ h => h)) h0 h6 l hl)
  have L1 := load_blk (P := Tryz.prog) (ty := 55) BA Tryz.underlying55 rfl (by kernel_rfl)
  have HY := hid hy
  have hl2 := hl.len
  have hnm := hl.nm
  have hlen : l.length = l1.length + 1 := by rw [hlx, List.length_append]; rfl
  have hnm1 := hid (fun z (hz : z ∈ l1) => hnm z (by rw [hlx]; exact List.mem_append_left _ hz))
  have hxn : IsNm x := hnm x (by rw [hlx]; simp)
  have b1 : ((⟨#[x]⟩ : ByteArray) == ⟨#[46]⟩) = false := by rcases hxn with rfl | rfl | rfl <;> rfl
  have b2 : ((⟨#[x]⟩ : ByteArray) == ⟨#[46, 46]⟩) = false := by rcases hxn with rfl | rfl | rfl <;> rfl
  have b3 : (x == 46) = false := by rcases hxn with rfl | rfl | rfl <;> rfl
  have hl1 := hid (show l1.length ≤ 2 by omega)
  have hmv : nmV l = nmV l1 ++ [.string ⟨#[x]⟩] := by rw [hlx]; simp [nmV]
  obtain ⟨n, hn⟩ : ∃ n, n = st.length := ⟨_, rfl⟩
  obtain ⟨s, hs⟩ : ∃ s, s = nmB l := ⟨_, rfl⟩
  obtain ⟨K, hK⟩ : ∃ K, K = l1.length := ⟨_, rfl⟩
  unfold StPost at HST
  rw [← hn, ← hs, hlen, ← hK] at HST
  rw [← hn, ← hs]
  rw [← hK] at htn ⊢
  have hl6 := hid (hy.len l1.length (Nat.le_refl _))
  rw [← hK] at hl6
  rw [← hK] at hlen
  replace hl2 : K + 1 ≤ 2 := by omega
  have i1 : (((K + 1 : Nat) : Int) == 0) = false := by rw [beq_eq_false_iff_ne]; omega
  have i2 : IntKind.i64.wrap (((K + 1 : Nat) : Int) - 1) = (K : Int) := by rw [show ((K + 1 : Nat) : Int) - 1 = (K : Int) by omega]; exact IntWalk.i64_in _ (by omega)
  have i3 : (K : Int) < ((K + 1 : Nat) : Int) := by omega
  have i4 : IntKind.i64.wrap (K : Int) = (K : Int) := IntWalk.i64_in _ (by omega)
  have i5 : IntKind.i64.wrap ((K : Int) + 1 - 1) = (K : Int) := by rw [Int.add_sub_cancel]; exact i4
  have i6 : (K : Int) < (K : Int) + 1 := by omega
  have i7 : (0 : Int) ≤ (K : Int) := by omega
  replace hn := hid hn
  replace hs := hid hs
  replace hK := hid hK
  replace CA := hid CA
  replace hy0 := hid hy0
  replace hmv := hid hmv
  have htn' := hid htn
  have hmay' := hid hmay
  unfold trV crV at HST
  clear hm hmn hms hc hl hy BA hlx hlen hnm hxn htn hmay
  unfold trV crV
  go_enter Tryz.func233, Tryz.ntmps233
  go_wp2_with (refine wpList_load_run L1 (by rfl) (by rfl) (by rfl) ?_)
  refine HST.out.mono ?_
  rintro e w1 ⟨pw, a, c, sa, sc, G, Gl, rfl, W1, S1, d1, g1, g2, g3⟩
  have D1 := CA.out.trans d1 (fun _ _ h => h)
  have hz0 : w.heap.size ≤ (w.alloc (.cells #[.int .i64 0, .int .i64 0, .slice none 0 0, .int .i64 127, .int .i64 0, .int .i64 0] 55)).heap.size := CA.out.size
  rw [← hy0.out] at W1
  obtain ⟨gl, ol, rfl, rfl, _⟩ := S1.block (by omega)
  obtain ⟨g8, o8, e8, _, _, hcl⟩ := S1.rd.cellAt (by omega)
  obtain ⟨rfl, rfl⟩ : gl = g8 ∧ ol = o8 := by simpa using e8
  have z0 := hcl K (by omega)
  have S0 := S1.init (m := K) (by omega)
  have hkc : K ≤ c := by have := S1.1; omega
  rw [hmv.out] at z0 S0
  have hnl : (nmV l1).length = K := by rw [nmV_len, hK.out]
  rw [List.getElem?_append_right (by omega), hnl, Nat.sub_self, List.getElem?_cons_zero] at z0
  rw [Nat.mul_one, List.take_append_of_le_length (by omega), List.take_of_length_le (by omega)] at S0
  rw [hK.out] at S0
  have HW := hid (way_go HY.out hl1.out hnm1.out ⟨ma, mc, mn, rfl⟩ W1 S0 D1 (Nat.le_trans hz0 g1) (fun g hg => Nat.le_trans hz0 (g2 g hg)))
  rw [← hK.out] at HW
  have D1' := hid D1
  have hS1 := hid S1
  have hg3 := hid g3
  have hglt := hid (hS1.out.lt gl rfl)
  have hglp := hid (fun hh : gl = pw => hS1.out.ne_blk W1.blk (by decide) (by rw [hh]))
  have hglG := hid (fun hh : Opt G gl => hS1.out.ne_sl W1.sl (by decide) gl rfl hh)
  clear W1 S0 S1 d1 g1 g2 g3 D1 L1 hcl e8 hnl
  go_wp2_with fail
  refine HW.out.mono ?_
  rintro e w2 ⟨rfl, c2, cF, sa2, sc2, G2, hw2, hg2⟩
  have W2 := hw2 trivial
  have z2 := (cF.cell (a := ⟨gl, ol + K, none⟩) hglt.out (fun hh => by
    rcases hh with hh | hh
    · exact hglp.out hh
    · exact hglG.out hh)).trans z0
  obtain ⟨md, sz, ln, m1, m2, HM1⟩ := hmay'.out w2 c2
  have HMAY := hid (pmay_ok W2 tn htn'.out (by have := hl6.out; omega) md sz ln m1 m2 HM1)
  have W2' := hid W2
  have C2 := hid c2
  have hg2' := hid hg2
  clear W2 c2 hw2 hg2 HM1 m1 m2
  have hsz2 := hid cF.size
  clear cF
  go_wp2_with fail
  refine HMAY.out.mono ?_
  rintro e w3 ⟨rfl, d3⟩
  have W3 := W2'.out.nil d3
  have C3 := hid (C2.out.trans d3 (fun _ _ h => h))
  have y8 := W3.blk.cell 8
  simp only [List.getElem?_cons_succ, List.getElem?_cons_zero] at y8
  have y8d := (show w3.drew.cell? ⟨pw, 8, none⟩ = _ from y8)
  have hpl := W3.blk.lt
  have HC := hid (clone_int _ _ _ _ _ w3.drew (W3.sl.drewN 1).rd (ints_one _ _) (by have := hl6.out; omega))
  have z3 := (d3.cell (a := ⟨gl, ol + K, none⟩) (by have := hglt.out; have := C2.out.size; exact Nat.lt_of_lt_of_le hglt.out hsz2.out) (fun h => h)).trans z2
  have z3d := (show w3.drew.cell? ⟨gl, ol + K, none⟩ = _ from z3)
  have hglt3 := Nat.lt_of_lt_of_le (Nat.lt_of_lt_of_le hglt.out hsz2.out) d3.size
  replace d3 := hid d3
  clear W3
  go_upto_region 12 with fail
  go_region_law (go_simp; go_at_call 130; refine HC.out.mono ?_; rintro e w4 ⟨a4, c4, G4, rfl, s4, d4, g4⟩; have z4 := (d4.cell (a := ⟨gl, ol + K, none⟩) hglt3 (fun h => h)).trans z3d; have D4 := hid ((C3.out.drewN 1).trans d4 (fun _ _ h => h)); have S4 := hid s4; have G4' := hid g4; clear d4 s4 g4)
  all_goals
    go_wp2
    go_ret3
    exact ⟨a4, c4, G4, rfl, S4.out, fun g hg => Nat.le_trans C3.out.size (G4'.out g hg), D4.out⟩
end Go.Proofs.YtdcbagmgflcemaaGreatDoor
namespace Go.Proofs.YtdcbagmgflcemaaGreatDoor
open Go.ChangeShapes Go.WideShapes Go.ChangeAt Go.RowKit
set_option linter.unusedVariables false
/-- The kernel's cells that calls about names read: the file system; of process 1 who it is, where it is, what is mounted. -/
structure KmC (w : World) (pk pf : Nat) (ca : Option Addr) (cc : Nat) (ma : Option Addr) (mn mc : Nat) : Prop where
  c2 : w.cell? ⟨pk, 2, none⟩ = some (.pointer (some ⟨pf, 0, none⟩))
  r0 : w.cell? ⟨pk, 57, none⟩ = some (.int .i64 0)
  r1 : w.cell? ⟨pk, 58, none⟩ = some (.int .i64 0)
  r2 : w.cell? ⟨pk, 59, none⟩ = some (.slice none 0 0)
  r3 : w.cell? ⟨pk, 60, none⟩ = some (.int .i64 127)
  r4 : w.cell? ⟨pk, 61, none⟩ = some (.int .i64 0)
  r5 : w.cell? ⟨pk, 62, none⟩ = some (.int .i64 0)
  cw : w.cell? ⟨pk, 63, none⟩ = some (.slice ca 1 cc)
  mo : w.cell? ⟨pk, 64, none⟩ = some (.slice ma mn mc)
theorem KmC.lt {w : World} {pk pf : Nat} {ca : Option Addr} {cc : Nat} {ma : Option Addr} {mn mc : Nat} (h : KmC w pk pf ca cc ma mn mc) : pk < w.heap.size := (lt_of_cell h.c2).1
theorem KmC.chg {w w' : World} {F : Nat → Prop} {pk pf : Nat} {ca : Option Addr} {cc : Nat} {ma : Option Addr} {mn mc : Nat} (h : KmC w pk pf ca cc ma mn mc) (c : Chg F w w') (hF : ¬ F pk) : KmC w' pk pf ca cc ma mn mc :=
  have g := fun (i : Nat) => c.cell (a := ⟨pk, i, none⟩) h.lt hF
  ⟨(g 2).trans h.c2, (g 57).trans h.r0, (g 58).trans h.r1, (g 59).trans h.r2, (g 60).trans h.r3, (g 61).trans h.r4, (g 62).trans h.r5, (g 63).trans h.cw, (g 64).trans h.mo⟩
theorem KmC.nil {w w' : World} {pk pf : Nat} {ca : Option Addr} {cc : Nat} {ma : Option Addr} {mn mc : Nat} (h : KmC w pk pf ca cc ma mn mc) (c : Chg Nil w w') : KmC w' pk pf ca cc ma mn mc := h.chg c (fun h => h)
set_option maxRecDepth 100000 in
set_option maxHeartbeats 8000000 in
theorem kmay_ok {w : World} {pk pf : Nat} {ca : Option Addr} {cc : Nat} {ma : Option Addr} {mn mc : Nat} (h : KmC w pk pf ca cc ma mn mc) (n : Int) (kd md sz ln want wb ov : Int) (m1 : 0 ≤ md) (m2 : md ≤ 511) (hw : (want = 1 ∧ wb = 4) ∨ (want = 2 ∧ wb = 2) ∨ (want = 3 ∧ wb = 6) ∨ (want = 4 ∧ wb = 1)) (ho : (kd = 2 ∧ ov = 7) ∨ (kd = 1 ∧ ov = 6)) (hok : ∀ b, bits .andNot .i64 wb (bits .or .i64 b ov) = 0)
    (HST : ∀ W, Chg Nil w W → Calls Tryz.prog 161 #[.pointer (some ⟨pf, 0, none⟩), .int .i64 n] W fun e W' => e = .returned (.tuple #[stN kd md sz ln, .int .i64 0]) ∧ Chg Nil W W') :
    Calls Tryz.prog 94 #[.pointer (some ⟨pk, 0, none⟩), .int .i64 1, .int .i64 n, .int .i64 want] w fun e w' => e = .returned (.int .i64 0) ∧ Chg Nil w w' := by
  have HS := hid (HST w (Chg.refl _ _))
  have HMY := hid (fun W => mdmay_ok W kd md sz ln want wb ov m1 m2 hw ho hok)
  have H := hid h
  have k2 := h.c2
  have hpl := h.lt
  unfold stN at HS
  unfold stV crV at HMY
  replace hw := hid hw
  replace ho := hid ho
  clear h HST hok
  go_enter Tryz.func94, Tryz.ntmps94
  go_wp2_with fail
  refine HS.out.mono ?_
  rintro e w1 ⟨rfl, d1⟩
  have BB := Blk.new w1 31 [.int .i64 kd, .int .i64 md, .int .i64 0, .int .i64 0, .int .i64 sz, .int .i64 ln]
  have D1 := hid (d1.alloc (.cells #[.int .i64 kd, .int .i64 md, .int .i64 0, .int .i64 0, .int .i64 sz, .int .i64 ln] 31))
  obtain ⟨W, hW⟩ : ∃ W, W = w1.alloc (.cells #[.int .i64 kd, .int .i64 md, .int .i64 0, .int .i64 0, .int .i64 sz, .int .i64 ln] 31) := ⟨_, rfl⟩
  rw [← hW] at D1
  have BB' : Blk W w1.heap.size 31 [.int .i64 kd, .int .i64 md, .int .i64 0, .int .i64 0, .int .i64 sz, .int .i64 ln] := by rw [hW]; exact BB
  have K1 := H.out.nil D1.out
  have p0 := BB'.cell 0
  have p1 := BB'.cell 1
  have p2 := BB'.cell 2
  have p3 := BB'.cell 3
  have p4 := BB'.cell 4
  have p5 := BB'.cell 5
  simp only [List.getElem?_cons_succ, List.getElem?_cons_zero] at p0 p1 p2 p3 p4 p5
  obtain ⟨c2, r0, r1, r2, r3, r4, r5, cw, mo⟩ := K1
  replace hW := hid hW
  clear BB BB' d1 k2
  go_upto_region 4 with fail
  rw [← hW.out]
  go_region_law (go_simp; go_at_call 170; refine (HMY.out _).mono ?_; rintro e w3 ⟨rfl, d3⟩; replace d3 := hid d3)
  all_goals
    go_wp2
    go_ret
    exact ⟨rfl, (D1.out.drewN 1).trans d3.out (fun _ _ h => h)⟩
end Go.Proofs.YtdcbagmgflcemaaGreatDoor
namespace Go.Proofs.YtdcbagmgflcemaaGreatDoor
open Go.ChangeShapes Go.WideShapes Go.ChangeAt Go.RowKit
set_option linter.unusedVariables false
set_option maxRecDepth 100000 in
set_option maxHeartbeats 8000000 in
theorem klast_ok {w : World} {pk pf : Nat} {ca : Option Addr} {cc : Nat} {ma : Option Addr} {mn mc : Nat} (h : KmC w pk pf ca cc ma mn mc) (s : ByteArray) (x : UInt8) (st : List Nat) (tn : Nat) (htn : st.getLast? = some tn) (h6 : st.length ≤ 6) (md sz ln : Int) (m1 : 0 ≤ md) (m2 : md ≤ 511)
    (HP : ∀ W, Chg Nil w W → Calls Tryz.prog 233 #[trV pf, .slice ma mn mc, crV, .slice ca 1 cc, .string s] W fun e w' => ∃ a c G, e = .returned (.tuple #[.slice a st.length c, .string ⟨#[x]⟩, .int .i64 0]) ∧ Sl w' 3 1 a st.length c (ints .i64 (stI st)) G ∧ (∀ g, G = some g → W.heap.size ≤ g) ∧ Chg Nil W w')
    (HST : ∀ W, Chg Nil w W → Calls Tryz.prog 161 #[.pointer (some ⟨pf, 0, none⟩), .int .i64 (tn : Int)] W fun e W' => e = .returned (.tuple #[stN 2 md sz ln, .int .i64 0]) ∧ Chg Nil W W') :
    Calls Tryz.prog 163 #[.pointer (some ⟨pk, 0, none⟩), .int .i64 1, .string s] w fun e w' => e = .returned (.tuple #[.int .i64 (tn : Int), .string ⟨#[x]⟩, .int .i64 0]) ∧ Chg Nil w w' := by
  have HPP := hid (HP w.drew (Chg.refl Nil w).drew)
  have HS := hid HST
  have H := hid h
  have hpl := h.lt
  have h0 : 0 < st.length := by
    cases st with
    | nil => cases htn
    | cons _ _ => simp
  have hx : (ints .i64 (stI st))[st.length - 1]? = some (.int .i64 (tn : Int)) := by
    rw [List.getLast?_eq_getElem?] at htn
    simp [ints, stI, htn]
  obtain ⟨m, hm⟩ : ∃ m, m = st.length := ⟨_, rfl⟩
  rw [← hm] at HPP h0 h6 hx
  have i4 : IntKind.i64.wrap ((m : Int) - 1) = (m : Int) - 1 := IntWalk.i64_in _ (by omega)
  have i1 : (m : Int) - 1 < (m : Int) := by omega
  have i2 : (1 : Int) ≤ (m : Int) := by omega
  have i3 : ((m : Int) - 1).toNat = m - 1 := by omega
  obtain ⟨c2, r0, r1, r2, r3, r4, r5, cw, mo⟩ := h.nil (Chg.refl Nil w).drew
  have S0 := hid (And.intro c2 (And.intro r0 (And.intro r1 (And.intro r2 (And.intro r3 (And.intro r4 (And.intro r5 (And.intro cw mo))))))))
  replace hm := hid hm
  replace hx := hid hx
  unfold trV crV at HPP
  clear h HP HST htn c2 r0 r1 r2 r3 r4 r5 cw mo
  go_enter Tryz.func163, Tryz.ntmps163
  go_upto_region 2 with fail
  go_region_held3 (fun w' => w'.cell? ⟨pk, 2, none⟩ = some (.pointer (some ⟨pf, 0, none⟩)) ∧ w'.cell? ⟨pk, 57, none⟩ = some (.int .i64 0) ∧ w'.cell? ⟨pk, 58, none⟩ = some (.int .i64 0) ∧ w'.cell? ⟨pk, 59, none⟩ = some (.slice none 0 0) ∧ w'.cell? ⟨pk, 60, none⟩ = some (.int .i64 127) ∧ w'.cell? ⟨pk, 61, none⟩ = some (.int .i64 0) ∧ w'.cell? ⟨pk, 62, none⟩ = some (.int .i64 0) ∧ w'.cell? ⟨pk, 63, none⟩ = some (.slice ca 1 cc) ∧ w'.cell? ⟨pk, 64, none⟩ = some (.slice ma mn mc)) (first | exact S0.out | exact S3.out | go_keep) (first | (go_at_call 233; (refine HPP.out.mono ?_); rintro e w3 ⟨a3, c3, G3, rfl, s3, g3, d3⟩; have D3 := hid (((Chg.refl Nil w).drew).trans d3 (fun _ _ h => h)); have S3 := hid (have q := H.out.nil D3.out; And.intro q.c2 (And.intro q.r0 (And.intro q.r1 (And.intro q.r2 (And.intro q.r3 (And.intro q.r4 (And.intro q.r5 (And.intro q.cw q.mo)))))))); replace s3 := hid s3; replace g3 := hid g3; replace d3 := hid d3) | fail)
  all_goals
    obtain ⟨g, off, hg0, _, _, hc⟩ := s3.out.rd.cellAt h0
    subst hg0
    have z0 := hc (m - 1) (by omega)
    rw [hx.out] at z0
    have HM := hid (kmay_ok (H.out.nil D3.out) (tn : Int) 2 md sz ln 2 2 7 m1 m2 (.inr (.inl ⟨rfl, rfl⟩)) (.inl ⟨rfl, rfl⟩) an_2_7 (fun W hW => HS.out W (D3.out.trans hW (fun _ _ h => h))))
    clear hc
    go_wp2_with fail
    refine HM.out.mono ?_
    rintro e w4 ⟨rfl, d4⟩
    replace d4 := hid d4
    go_wp2
    go_ret3
    exact ⟨rfl, D3.out.trans d4.out (fun _ _ h => h)⟩
end Go.Proofs.YtdcbagmgflcemaaGreatDoor
namespace Go.Proofs.YtdcbagmgflcemaaGreatDoor
open Go.ChangeShapes Go.WideShapes Go.ChangeAt Go.RowKit
set_option linter.unusedVariables false
theorem results_blkm {P : Program} {fn : Func} {p u v : Tmp} {ty t : TypeId} (h : fn.results = #[.tmp u, .cell p ty, .tmp v]) {tmps : Array Value} {w : World} {g : Nat} {cs : List Value} {d : TypeDesc} (hb : Blk w g t cs)
    (hp : tmps.getD p undef = .pointer (some ⟨g, 0, none⟩)) (hu : P.underlying ty = some d) (hd : d.isRow = true) (hi : (P.info? ty).map (·.size) = some cs.length) :
    (results fn tmps).run P w = .ok (.tuple #[tmps.getD u undef, .agg cs.toArray, tmps.getD v undef]) w := by
  have := run_loadVar_mid (P := P) w g 0 ty cs d (fun j v hv => by rw [Nat.zero_add, hb.cell, hv]) hu hd hi
  have e : (results fn tmps).run P w = ((asAddr (tmps.getD p undef)).run P w).andThen fun a w1 => ((loadVar ty a).run P w1).andThen fun x w2 => .ok (.tuple #[tmps.getD u undef, x, tmps.getD v undef]) w2 := by
    simp only [results, h]
    simp [Sem.run_bind, Result.andThen]
  rw [e, hp]
  simp [asAddr, Result.andThen, this]
theorem st_six' {w0 w : World} {b : Nat} (kd md sz ln : Int) (B : Blk w b 31 [.int .i64 0, .int .i64 0, .int .i64 0, .int .i64 0, .int .i64 0, .int .i64 0]) (hb : w0.heap.size ≤ b) (C : Chg Nil w0 w) : Blk ((((((w.setCell ⟨b, 0, none⟩ (.int .i64 kd)).setCell ⟨b, 1, none⟩ (.int .i64 md)).setCell ⟨b, 2, none⟩ (.int .i64 0)).setCell ⟨b, 3, none⟩ (.int .i64 0)).setCell ⟨b, 4, none⟩ (.int .i64 sz)).setCell ⟨b, 5, none⟩ (.int .i64 ln)) b 31 [.int .i64 kd, .int .i64 md, .int .i64 0, .int .i64 0, .int .i64 sz, .int .i64 ln] ∧ Chg Nil w0 ((((((w.setCell ⟨b, 0, none⟩ (.int .i64 kd)).setCell ⟨b, 1, none⟩ (.int .i64 md)).setCell ⟨b, 2, none⟩ (.int .i64 0)).setCell ⟨b, 3, none⟩ (.int .i64 0)).setCell ⟨b, 4, none⟩ (.int .i64 sz)).setCell ⟨b, 5, none⟩ (.int .i64 ln)) :=
  ⟨(((((B.set 0 (.int .i64 kd)).set 1 (.int .i64 md)).set 2 (.int .i64 0)).set 3 (.int .i64 0)).set 4 (.int .i64 sz)).set 5 (.int .i64 ln), (((((C.setCell (p := ⟨b, 0, none⟩) (.inr hb) _).setCell (p := ⟨b, 1, none⟩) (.inr hb) _).setCell (p := ⟨b, 2, none⟩) (.inr hb) _).setCell (p := ⟨b, 3, none⟩) (.inr hb) _).setCell (p := ⟨b, 4, none⟩) (.inr hb) _).setCell (p := ⟨b, 5, none⟩) (.inr hb) _⟩
set_option maxRecDepth 100000 in
set_option maxHeartbeats 8000000 in
theorem kwalk_4 {w : World} {pk pf : Nat} {ca : Option Addr} {cc : Nat} {ma : Option Addr} {mn mc : Nat} (h : KmC w pk pf ca cc ma mn mc) (s : ByteArray) (HP : ∀ W, Chg Nil w W → Calls Tryz.prog 169 #[trV pf, .slice ma mn mc, crV, .slice ca 1 cc, .string s, .bool true] W fun e w' => e = .returned (.tuple #[.slice none 0 0, .int .i64 4]) ∧ Chg Nil W w') :
    Calls Tryz.prog 88 #[.pointer (some ⟨pk, 0, none⟩), .int .i64 1, .string s] w fun e w' => e = .returned (.tuple #[.slice none 0 0, stN 0 0 0 0, .int .i64 4]) ∧ Chg Nil w w' := by
  have CA := (Chg.refl Nil w).alloc (.cells #[.int .i64 0, .int .i64 0, .int .i64 0, .int .i64 0, .int .i64 0, .int .i64 0] 31)
  have BA := Blk.new w 31 [.int .i64 0, .int .i64 0, .int .i64 0, .int .i64 0, .int .i64 0, .int .i64 0]
  obtain ⟨W0, hW0⟩ : ∃ W0, W0 = w.alloc (.cells #[.int .i64 0, .int .i64 0, .int .i64 0, .int .i64 0, .int .i64 0, .int .i64 0] 31) := ⟨_, rfl⟩
  rw [← hW0] at CA BA
  have HPP := hid (HP W0.drew CA.drew)
  have H := hid h
  obtain ⟨c2, r0, r1, r2, r3, r4, r5, cw, mo⟩ := h.nil CA.drew
  have S0 := hid (And.intro c2 (And.intro r0 (And.intro r1 (And.intro r2 (And.intro r3 (And.intro r4 (And.intro r5 (And.intro cw mo))))))))
  have CA' := hid CA
  have BA' := hid BA
  have hW0' := hid hW0
  unfold trV crV at HPP
  unfold stN
  clear h HP c2 r0 r1 r2 r3 r4 r5 cw mo CA BA hW0
  go_enter Tryz.func88, Tryz.ntmps88
  go_upto_region 2 with fail
  rw [← hW0'.out]
  go_region_held3 (fun w' => w'.cell? ⟨pk, 2, none⟩ = some (.pointer (some ⟨pf, 0, none⟩)) ∧ w'.cell? ⟨pk, 57, none⟩ = some (.int .i64 0) ∧ w'.cell? ⟨pk, 58, none⟩ = some (.int .i64 0) ∧ w'.cell? ⟨pk, 59, none⟩ = some (.slice none 0 0) ∧ w'.cell? ⟨pk, 60, none⟩ = some (.int .i64 127) ∧ w'.cell? ⟨pk, 61, none⟩ = some (.int .i64 0) ∧ w'.cell? ⟨pk, 62, none⟩ = some (.int .i64 0) ∧ w'.cell? ⟨pk, 63, none⟩ = some (.slice ca 1 cc) ∧ w'.cell? ⟨pk, 64, none⟩ = some (.slice ma mn mc)) (first | exact S0.out | exact S3.out | go_keep) (first | (go_at_call 169; (refine HPP.out.mono ?_); rintro e w3 ⟨rfl, d3⟩; have D3 := hid ((CA'.out.drewN 1).trans d3 (fun _ _ h => h)); have B3 := hid ((BA'.out.drewN 1).chg d3 (fun h => h)); have S3 := hid (have q := H.out.nil D3.out; And.intro q.c2 (And.intro q.r0 (And.intro q.r1 (And.intro q.r2 (And.intro q.r3 (And.intro q.r4 (And.intro q.r5 (And.intro q.cw q.mo)))))))); replace d3 := hid d3) | fail)
  all_goals
    obtain ⟨qf, z0, z1, z2, z3, z4, z5⟩ := st_cells B3.out
    go_wp2
    obtain ⟨b1, c1⟩ := st_six' (w0 := w) 0 0 0 0 B3.out (Nat.le_refl _) D3.out
    refine bodyPost_ret (results_blkm rfl b1 rfl Tryz.underlying31 rfl (by kernel_rfl)) rfl ?_
    exact ⟨rfl, c1⟩
end Go.Proofs.YtdcbagmgflcemaaGreatDoor
namespace Go.Proofs.YtdcbagmgflcemaaGreatDoor
open Go.ChangeShapes Go.WideShapes Go.ChangeAt Go.RowKit
set_option linter.unusedVariables false
theorem st_sixo {w : World} {b : Nat} (kd md sz ln : Int) : Chg (One b) w ((((((w.setCell ⟨b, 0, none⟩ (.int .i64 kd)).setCell ⟨b, 1, none⟩ (.int .i64 md)).setCell ⟨b, 2, none⟩ (.int .i64 0)).setCell ⟨b, 3, none⟩ (.int .i64 0)).setCell ⟨b, 4, none⟩ (.int .i64 sz)).setCell ⟨b, 5, none⟩ (.int .i64 ln)) :=
  (((((((Chg.refl (One b) w).setCell (p := ⟨b, 0, none⟩) (.inl rfl) _).setCell (p := ⟨b, 1, none⟩) (.inl rfl) _).setCell (p := ⟨b, 2, none⟩) (.inl rfl) _).setCell (p := ⟨b, 3, none⟩) (.inl rfl) _).setCell (p := ⟨b, 4, none⟩) (.inl rfl) _).setCell (p := ⟨b, 5, none⟩) (.inl rfl) _)
set_option maxRecDepth 100000 in
set_option maxHeartbeats 16000000 in
theorem kwalk_0 {w : World} {pk pf : Nat} {ca : Option Addr} {cc : Nat} {ma : Option Addr} {mn mc : Nat} (h : KmC w pk pf ca cc ma mn mc) (s : ByteArray) (st : List Nat) (tn : Nat) (htn : st.getLast? = some tn) (h6 : st.length ≤ 6) (kd md sz ln : Int)
    (HP : ∀ W, Chg Nil w W → Calls Tryz.prog 169 #[trV pf, .slice ma mn mc, crV, .slice ca 1 cc, .string s, .bool true] W fun e w' => ∃ a c G, e = .returned (.tuple #[.slice a st.length c, .int .i64 0]) ∧ Sl w' 3 1 a st.length c (ints .i64 (stI st)) G ∧ (∀ g, G = some g → W.heap.size ≤ g) ∧ Chg Nil W w')
    (HST : ∀ W, Chg Nil w W → Calls Tryz.prog 161 #[.pointer (some ⟨pf, 0, none⟩), .int .i64 (tn : Int)] W fun e W' => e = .returned (.tuple #[stN kd md sz ln, .int .i64 0]) ∧ Chg Nil W W') :
    Calls Tryz.prog 88 #[.pointer (some ⟨pk, 0, none⟩), .int .i64 1, .string s] w fun e w' => ∃ a c G, e = .returned (.tuple #[.slice a st.length c, stN kd md sz ln, .int .i64 0]) ∧ Sl w' 3 1 a st.length c (ints .i64 (stI st)) G ∧ (∀ g, G = some g → w.heap.size ≤ g) ∧ Chg Nil w w' := by
  have CA := (Chg.refl Nil w).alloc (.cells #[.int .i64 0, .int .i64 0, .int .i64 0, .int .i64 0, .int .i64 0, .int .i64 0] 31)
  have BA := Blk.new w 31 [.int .i64 0, .int .i64 0, .int .i64 0, .int .i64 0, .int .i64 0, .int .i64 0]
  obtain ⟨W0, hW0⟩ : ∃ W0, W0 = w.alloc (.cells #[.int .i64 0, .int .i64 0, .int .i64 0, .int .i64 0, .int .i64 0, .int .i64 0] 31) := ⟨_, rfl⟩
  rw [← hW0] at CA BA
  have HPP := hid (HP W0.drew CA.drew)
  have HS := hid HST
  have H := hid h
  obtain ⟨c2, r0, r1, r2, r3, r4, r5, cw, mo⟩ := h.nil CA.drew
  have S0 := hid (And.intro c2 (And.intro r0 (And.intro r1 (And.intro r2 (And.intro r3 (And.intro r4 (And.intro r5 (And.intro cw mo))))))))
  have CA' := hid CA
  have BA' := hid BA
  have hW0' := hid hW0
  have h0 : 0 < st.length := by
    cases st with
    | nil => cases htn
    | cons _ _ => simp
  have hx : (ints .i64 (stI st))[st.length - 1]? = some (.int .i64 (tn : Int)) := by
    rw [List.getLast?_eq_getElem?] at htn
    simp [ints, stI, htn]
  obtain ⟨m, hm⟩ : ∃ m, m = st.length := ⟨_, rfl⟩
  rw [← hm] at HPP h0 h6 hx ⊢
  have i4 : IntKind.i64.wrap ((m : Int) - 1) = (m : Int) - 1 := IntWalk.i64_in _ (by omega)
  have i1 : (m : Int) - 1 < (m : Int) := by omega
  have i2 : (1 : Int) ≤ (m : Int) := by omega
  have i3 : ((m : Int) - 1).toNat = m - 1 := by omega
  replace hm := hid hm
  replace hx := hid hx
  unfold trV crV at HPP
  unfold stN at HS
  unfold stN
  clear h HP HST htn c2 r0 r1 r2 r3 r4 r5 cw mo CA BA hW0
  go_enter Tryz.func88, Tryz.ntmps88
  go_upto_region 2 with fail
  rw [← hW0'.out]
  go_region_held3 (fun w' => w'.cell? ⟨pk, 2, none⟩ = some (.pointer (some ⟨pf, 0, none⟩)) ∧ w'.cell? ⟨pk, 57, none⟩ = some (.int .i64 0) ∧ w'.cell? ⟨pk, 58, none⟩ = some (.int .i64 0) ∧ w'.cell? ⟨pk, 59, none⟩ = some (.slice none 0 0) ∧ w'.cell? ⟨pk, 60, none⟩ = some (.int .i64 127) ∧ w'.cell? ⟨pk, 61, none⟩ = some (.int .i64 0) ∧ w'.cell? ⟨pk, 62, none⟩ = some (.int .i64 0) ∧ w'.cell? ⟨pk, 63, none⟩ = some (.slice ca 1 cc) ∧ w'.cell? ⟨pk, 64, none⟩ = some (.slice ma mn mc)) (first | exact S0.out | exact S3.out | go_keep) (first | (go_at_call 169; (refine HPP.out.mono ?_); rintro e w3 ⟨a3, c3, G3, rfl, s3, g3, d3⟩; have D3 := hid ((CA'.out.drewN 1).trans d3 (fun _ _ h => h)); have B3 := hid ((BA'.out.drewN 1).chg d3 (fun h => h)); have S3 := hid (have q := H.out.nil D3.out; And.intro q.c2 (And.intro q.r0 (And.intro q.r1 (And.intro q.r2 (And.intro q.r3 (And.intro q.r4 (And.intro q.r5 (And.intro q.cw q.mo)))))))); replace s3 := hid s3; replace g3 := hid g3; replace d3 := hid d3) | fail)
  all_goals
    obtain ⟨g, off, hg0, hgl, _, hc⟩ := s3.out.rd.cellAt h0
    subst hg0
    have z0 := hc (m - 1) (by omega)
    rw [hx.out] at z0
    have z0d := (show w3.drew.cell? ⟨g, off + (m - 1), none⟩ = _ from z0)
    have k2 := (H.out.nil D3.out).c2
    have k2d := (show w3.drew.cell? ⟨pk, 2, none⟩ = _ from k2)
    have hpl := (H.out.nil D3.out).lt
    have hbl := B3.out.lt
    clear hc
    go_upto_region 5 with fail
    go_cut [11, 12] (fun s11 s12 wx => ∃ b, s11 = .int .i64 0 ∧ s12 = .pointer (some ⟨b, 0, none⟩) ∧ Hid (Blk wx b 31 [.int .i64 kd, .int .i64 md, .int .i64 0, .int .i64 0, .int .i64 sz, .int .i64 ln]) ∧ Hid (b ≠ w.heap.size) ∧ Hid (Chg Nil w3 wx))
    case first =>
      go_region_law (first | (go_simp; go_at_call 161; refine (HS.out _ (D3.out.trans (by first | exact (Chg.refl Nil w3).drew | exact ((Chg.refl Nil w3).drew).alloc _ | exact ((Chg.refl Nil w3).alloc _).drew) (fun _ _ h => h))).mono ?_; rintro e w4 ⟨rfl, d4⟩; have D4 : Hid (Chg Nil w3 w4) := hid (by first | exact ((Chg.refl Nil w3).drew).trans d4 (fun _ _ h => h) | exact (((Chg.refl Nil w3).drew).alloc _).trans d4 (fun _ _ h => h) | exact (((Chg.refl Nil w3).alloc _).drew).trans d4 (fun _ _ h => h)); (first | (have BB : Hid (Blk w4 w3.heap.size 31 [.int .i64 0, .int .i64 0, .int .i64 0, .int .i64 0, .int .i64 0, .int .i64 0]) := hid (((Blk.new w3 31 [.int .i64 0, .int .i64 0, .int .i64 0, .int .i64 0, .int .i64 0, .int .i64 0]).drew).chg d4 (fun h => h)); obtain ⟨qf, y0, y1, y2, y3, y4, y5⟩ := st_cells BB.out) | have BB0 := hid True.intro); replace d4 := hid d4))
      all_goals
        go_wp2
        go_meet
        first
        | (clear BB0; exact ⟨w4.heap.size, rfl, rfl, Blk.new w4 31 [.int .i64 kd, .int .i64 md, .int .i64 0, .int .i64 0, .int .i64 sz, .int .i64 ln], hid (by have := D4.out.size; omega), D4.out.alloc _⟩)
        | exact ⟨w3.heap.size, rfl, rfl, (st_six' (w0 := w3) kd md sz ln BB.out (Nat.le_refl _) D4.out).1, hid (by omega), (st_six' (w0 := w3) kd md sz ln BB.out (Nat.le_refl _) D4.out).2⟩
    case rest =>
      obtain ⟨b, rfl, rfl, B5, hb5, D5⟩ := hcut
      have B7 := B3.out.chg D5.out (fun h => h)
      obtain ⟨qf, y0, y1, y2, y3, y4, y5⟩ := st_cells B7
      have x0 := B5.out.cell 0
      have x1 := B5.out.cell 1
      have x2 := B5.out.cell 2
      have x3 := B5.out.cell 3
      have x4 := B5.out.cell 4
      have x5 := B5.out.cell 5
      simp only [List.getElem?_cons_succ, List.getElem?_cons_zero] at x0 x1 x2 x3 x4 x5
      have hG3 : ∀ g, G3 = some g → w.heap.size < g := fun g hg => by
        have h1 := g3.out g hg
        rw [hW0'.out] at h1
        have h2 : (w.alloc (.cells #[.int .i64 0, .int .i64 0, .int .i64 0, .int .i64 0, .int .i64 0, .int .i64 0] 31)).drew.heap.size = w.heap.size + 1 := alloc_size _ _
        omega
      have D6 := hid (D3.out.trans D5.out (fun _ _ h => h))
      have S6 := hid (s3.out.chg D5.out (fun _ _ h => h))
      obtain ⟨b1, c1⟩ := st_six' (w0 := w) kd md sz ln B7 (Nat.le_refl _) D6.out
      have S7 := S6.out.chg (st_sixo kd md sz ln (w := wc) (b := w.heap.size)) (fun g hg hh => by have := hG3 g hg; rw [show g = w.heap.size from hh] at this; exact Nat.lt_irrefl _ this)
      have b1' := hid b1
      have c1' := hid c1
      have S7' := hid S7
      have hG3' := hid hG3
      replace hb5 := hb5.out
      clear b1 c1 S7 hG3 z0d k2d k2
      have hbn := hb5.symm
      clear z0 S3 S0
      go_upto_region 6 with fail
      go_region_held3 (fun w' => w'.cell? ⟨b, 0, none⟩ = some (.int .i64 kd) ∧ w'.cell? ⟨b, 1, none⟩ = some (.int .i64 md) ∧ w'.cell? ⟨b, 2, none⟩ = some (.int .i64 0) ∧ w'.cell? ⟨b, 3, none⟩ = some (.int .i64 0) ∧ w'.cell? ⟨b, 4, none⟩ = some (.int .i64 sz) ∧ w'.cell? ⟨b, 5, none⟩ = some (.int .i64 ln)) (go_keep) (fail)
      all_goals
        go_wp2
        refine bodyPost_ret (results_blkm rfl b1'.out.drew rfl Tryz.underlying31 rfl (by kernel_rfl)) rfl ?_
        exact ⟨some ⟨g, off, none⟩, c3, G3, rfl, S7'.out.drewN 1, fun g hg => Nat.le_of_lt (hG3'.out g hg), c1'.out.drew⟩
end Go.Proofs.YtdcbagmgflcemaaGreatDoor
