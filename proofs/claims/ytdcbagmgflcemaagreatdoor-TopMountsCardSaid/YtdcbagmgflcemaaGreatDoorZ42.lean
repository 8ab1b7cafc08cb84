/- Ways through a file system: what each piece leads to, out of what the file system holds. Conditions: directories of at most two entries, names of one letter; at most one mount · The kernel with files: walk and last, in plain words. Conditions: a way in plain words; at most one mount; process 1 stands at the root · The kernel with files: folder; a directory is made. Conditions: as told of walk, last and Make · The kernel's answers where the state is whatever one keeps (A): what a call leaves. No program is walked here; no condition · The kernel with files, its state whole: what it holds, what lies apart. No program is walked here; no condition. -/
import Derived.Test.YtdcbagmgflcemaaGreatDoorZ40
import Derived.Test.YtdcbagmgflcemaaGreatDoorZ41
import Derived.Test.YtdcbagmgflcemaaGreatDoorZ27
namespace Go.Proofs.YtdcbagmgflcemaaGreatDoor
open Go.ChangeShapes Go.WideShapes Go.ChangeAt Go.RowKit
set_option linter.unusedVariables false
/-- A way in plain words. -/
structure WayM (M : Nat → FM) (ms : List Mn) (l : List UInt8) (y : Way) (fin : Int) (L : Nat → List En) : Prop where
  nm : ∀ x, x ∈ l → IsNm x
  len : ∀ k, k ≤ l.length → (y.S k).length ≤ 6
  top : ∀ k, k < l.length → (y.S k).getLast? = some (y.t k)
  dir : ∀ k, k < l.length → 1 ≤ y.t k ∧ DirM M (y.t k - 1) (L k)
  look : ∀ k (hk : k < l.length), dlk (L k) l[k] = (y.n k : Int) ∧ dle (L k) l[k] = y.e k
  node : ∀ k, k < l.length → y.e k = 0 → 1 ≤ y.n k ∧ y.n k ≤ 32 ∧ ((M (y.n k - 1)).kd : Int) = y.kd k ∧ y.d k = moDn ms (y.n k)
  kd : ∀ k, k < l.length → y.kd k = 1 ∨ y.kd k = 2
  S : ∀ k, k < l.length → y.e k = 0 → y.S (k + 1) = y.S k ++ [y.d k]
  e : ∀ k, k < l.length → y.e k = 0 ∨ (y.e k = 4 ∧ fin = 4)
  fin : (∀ k, k < l.length → y.e k = 0) → fin = 0
/-- Stat of a node, in plain words. -/
theorem fstatm_ok {w : World} {FF FD : Nat → Prop} {f p q bt bh : Nat} {zs : List Int} {X : FX} {M : Nat → FM} (h : FsA w FF FD f p q bt bh zs X) (hM : XM X zs M) (i : Nat) (h1 : 1 ≤ i) (h2 : i ≤ 32) (hkd : 0 < (M (i - 1)).kd) :
    Calls Tryz.prog 161 #[.pointer (some ⟨f, 0, none⟩), .int .i64 (i : Int)] w fun e w' => e = .returned (.tuple #[stN ((M (i - 1)).kd : Int) ((M (i - 1)).md : Int) ((M (i - 1)).sz : Int) ((M (i - 1)).ln : Int), .int .i64 0]) ∧ Chg Nil w w' := by
  obtain ⟨d1, d2, d3, d4, d5, d6⟩ := hM.nd (i - 1) (by omega)
  have := fstat_ok h (i - 1) (by omega) (i : Int) (by omega) (by rw [d1]; exact hkd)
  rw [d1, d2, d3, d4] at this
  exact this
theorem mdle {w : World} {FF FD : Nat → Prop} {f p q bt bh : Nat} {zs : List Int} {X : FX} {M : Nat → FM} (h : FsA w FF FD f p q bt bh zs X) (hM : XM X zs M) (k : Nat) (hk : k < 32) : (M k).md ≤ 511 := by
  have h1 := h.nok k hk
  have h2 := (hM.nd k hk).2.1
  rcases h1 with h1 | h1
  · rw [← h2, h1]; decide
  · rw [← h2]; exact h1.2.1
theorem way_of {w : World} {FF FD : Nat → Prop} {f p q bt bh : Nat} {zs : List Int} {X : FX} {M : Nat → FM} (h : FsA w FF FD f p q bt bh zs X) (hM : XM X zs M) {Rm : Nat → Prop} {ma : Option Addr} {mn mc : Nat} {ms : List Mn} (hm : Rd w Rm 2 ma mn mc (moL ms)) (hmn : mn = ms.length) (hms : MoS ms) {l : List UInt8} {y : Way} {fin : Int} {L : Nat → List En} (hy : WayM M ms l y fin L) :
    WayOk w f (.slice ma mn mc) l y fin := by
  refine ⟨hy.len, hy.top, fun k hk W hc => ?_, fun k hk W hc => ?_, fun k hk he W hc => ?_, fun k hk he W hc => ?_, hy.kd, hy.S, hy.e, hy.fin⟩
  · obtain ⟨t1, hd⟩ := hy.dir k hk
    have hmd := mdle h hM (y.t k - 1) hd.lt
    refine ⟨((M (y.t k - 1)).md : Int), ((M (y.t k - 1)).sz : Int), ((M (y.t k - 1)).ln : Int), by omega, by omega, fun W' hc' => ?_⟩
    have := fstatm_ok (h.nil (hc.trans hc' (fun _ _ h => h))) hM (y.t k) t1 (by have := hd.lt; omega) (by rw [hd.kd]; decide)
    rw [hd.kd] at this
    exact this
  · obtain ⟨t1, hd⟩ := hy.dir k hk
    have := flook_ok (h.nil hc) (y.t k - 1) (L k) (hM.dir hd) (y.t k : Int) (by omega) l[k] (hy.nm _ (List.getElem_mem hk))
    rw [(hy.look k hk).1, (hy.look k hk).2] at this
    exact this
  · obtain ⟨n1, n2, n3, n4⟩ := hy.node k hk he
    have hkk := hy.kd k hk
    have := fstatm_ok (h.nil hc) hM (y.n k) n1 n2 (by rcases hkk with hkk | hkk <;> omega)
    rw [n3] at this
    exact ⟨_, _, _, this⟩
  · obtain ⟨n1, n2, n3, n4⟩ := hy.node k hk he
    have := moDown_ok Rm ma mn mc ms W (hm.chg hc (fun _ _ _ h => h)) hmn hms (y.n k) n1 n2
    rw [n4]
    exact this
end Go.Proofs.YtdcbagmgflcemaaGreatDoor
namespace Go.Proofs.YtdcbagmgflcemaaGreatDoor
open Go.ChangeShapes Go.WideShapes Go.ChangeAt Go.RowKit
set_option linter.unusedVariables false
/-- What calls about names read: the kernel's cells, the file system in plain words, the mounts, where process 1 stands. -/
structure KmN (w : World) (pk pf : Nat) (FF FD : Nat → Prop) (p q bt bh : Nat) (zs : List Int) (X : FX) (M : Nat → FM) (ms : List Mn) (Rm Rc : Nat → Prop) (ca : Option Addr) (cc : Nat) (ma : Option Addr) (mn mc : Nat) : Prop where
  kc : KmC w pk pf ca cc ma mn mc
  fs : FsA w FF FD pf p q bt bh zs X
  xm : XM X zs M
  mt : Rd w Rm 2 ma mn mc (moL ms)
  mn_ : mn = ms.length
  ms_ : MoS ms
  cw : Rd w Rc 1 ca 1 cc (ints .i64 (stI [1]))
section
variable {w w' : World} {pk pf : Nat} {FF FD : Nat → Prop} {p q bt bh : Nat} {zs : List Int} {X : FX} {M : Nat → FM} {ms : List Mn} {Rm Rc : Nat → Prop} {ca : Option Addr} {cc : Nat} {ma : Option Addr} {mn mc : Nat}
theorem KmN.nil (h : KmN w pk pf FF FD p q bt bh zs X M ms Rm Rc ca cc ma mn mc) (c : Chg Nil w w') : KmN w' pk pf FF FD p q bt bh zs X M ms Rm Rc ca cc ma mn mc :=
  ⟨h.kc.nil c, h.fs.nil c, h.xm, h.mt.chg c (fun _ _ _ h => h), h.mn_, h.ms_, h.cw.chg c (fun _ _ _ h => h)⟩
theorem KmN.way (h : KmN w pk pf FF FD p q bt bh zs X M ms Rm Rc ca cc ma mn mc) {l : List UInt8} {y : Way} {fin : Int} {L : Nat → List En} (hy : WayM M ms l y fin L) : WayOk w pf (.slice ma mn mc) l y fin := way_of h.fs h.xm h.mt h.mn_ h.ms_ hy
theorem kwalkm_4 (h : KmN w pk pf FF FD p q bt bh zs X M ms Rm Rc ca cc ma mn mc) (l : List UInt8) (hl : NmL l) (y : Way) (L : Nat → List En) (hy : WayM M ms l y 4 L) (hy0 : y.S 0 = [1]) :
    Calls Tryz.prog 88 #[.pointer (some ⟨pk, 0, none⟩), .int .i64 1, .string (nmB l)] w fun e w' => e = .returned (.tuple #[.slice none 0 0, stN 0 0 0 0, .int .i64 4]) ∧ Chg Nil w w' :=
  kwalk_4 h.kc (nmB l) (fun W hW => (pWalk_ok W pf Rm ma mn mc ms (h.nil hW).mt h.mn_ h.ms_ Rc ca cc [1] (h.nil hW).cw (by simp) (by simp) l hl y 4 ((h.nil hW).way hy) hy0 (.inr rfl)).mono (fun e w' hh => ⟨hh.1 rfl, hh.2.2⟩))
theorem kwalkm_0 (h : KmN w pk pf FF FD p q bt bh zs X M ms Rm Rc ca cc ma mn mc) (l : List UInt8) (hl : NmL l) (y : Way) (L : Nat → List En) (hy : WayM M ms l y 0 L) (hy0 : y.S 0 = [1]) (tn : Nat) (htn : (y.S l.length).getLast? = some tn) (h1 : 1 ≤ tn) (h2 : tn ≤ 32) (hkd : 0 < (M (tn - 1)).kd) :
    Calls Tryz.prog 88 #[.pointer (some ⟨pk, 0, none⟩), .int .i64 1, .string (nmB l)] w fun e w' => ∃ a c G, e = .returned (.tuple #[.slice a (y.S l.length).length c, stN ((M (tn - 1)).kd : Int) ((M (tn - 1)).md : Int) ((M (tn - 1)).sz : Int) ((M (tn - 1)).ln : Int), .int .i64 0]) ∧ Sl w' 3 1 a (y.S l.length).length c (ints .i64 (stI (y.S l.length))) G ∧ (∀ g, G = some g → w.heap.size ≤ g) ∧ Chg Nil w w' :=
  kwalk_0 h.kc (nmB l) (y.S l.length) tn htn (hy.len _ (Nat.le_refl _)) _ _ _ _ (fun W hW => (pWalk_ok W pf Rm ma mn mc ms (h.nil hW).mt h.mn_ h.ms_ Rc ca cc [1] (h.nil hW).cw (by simp) (by simp) l hl y 0 ((h.nil hW).way hy) hy0 (.inl rfl)).mono (fun e w' hh => by
    obtain ⟨a, c, G, e1, e2, e3⟩ := hh.2.1 rfl
    exact ⟨a, c, G, e1, e2, e3, hh.2.2⟩)) (fun W hW => fstatm_ok (h.nil hW).fs h.xm tn h1 h2 hkd)
theorem klastm_ok (h : KmN w pk pf FF FD p q bt bh zs X M ms Rm Rc ca cc ma mn mc) (l l1 : List UInt8) (x : UInt8) (hlx : l = l1 ++ [x]) (hl : NmL l) (y : Way) (L : Nat → List En) (hy : WayM M ms l1 y 0 L) (hy0 : y.S 0 = [1]) (tn : Nat) (htn : (y.S l1.length).getLast? = some tn) (h1 : 1 ≤ tn) (h2 : tn ≤ 32) (hkd : (M (tn - 1)).kd = 2) :
    Calls Tryz.prog 163 #[.pointer (some ⟨pk, 0, none⟩), .int .i64 1, .string (nmB l)] w fun e w' => e = .returned (.tuple #[.int .i64 (tn : Int), .string ⟨#[x]⟩, .int .i64 0]) ∧ Chg Nil w w' := by
  have hmd := mdle h.fs h.xm (tn - 1) (by omega)
  have hst : ∀ W, Chg Nil w W → Calls Tryz.prog 161 #[.pointer (some ⟨pf, 0, none⟩), .int .i64 (tn : Int)] W fun e W' => e = .returned (.tuple #[stN 2 ((M (tn - 1)).md : Int) ((M (tn - 1)).sz : Int) ((M (tn - 1)).ln : Int), .int .i64 0]) ∧ Chg Nil W W' := fun W hW => by
    have := fstatm_ok (h.nil hW).fs h.xm tn h1 h2 (by rw [hkd]; decide)
    rw [hkd] at this
    exact this
  exact klast_ok h.kc (nmB l) x (y.S l1.length) tn htn (hy.len _ (Nat.le_refl _)) ((M (tn - 1)).md : Int) ((M (tn - 1)).sz : Int) ((M (tn - 1)).ln : Int) (by omega) (by omega) (fun W hW => pLast_ok W pf Rm ma mn mc ms (h.nil hW).mt h.mn_ h.ms_ Rc ca cc [1] (h.nil hW).cw (by simp) (by simp) l hl y x l1 hlx ((h.nil hW).way hy) hy0 tn htn (fun W' hW' => ⟨_, _, _, by omega, by omega, fun W'' hW'' => hst W'' ((hW.trans hW' (fun _ _ h => h)).trans hW'' (fun _ _ h => h))⟩)) hst
end
end Go.Proofs.YtdcbagmgflcemaaGreatDoor
namespace Go.Proofs.YtdcbagmgflcemaaGreatDoor
open Go.ChangeShapes Go.WideShapes Go.ChangeAt Go.RowKit
set_option linter.unusedVariables false
/-- A call, as it is handed on. -/
def clS (num a b c : Int) (s o : ByteArray) (d : Value) : List Value := [.int .i64 num, .int .i64 a, .int .i64 b, .int .i64 c, .string s, .string o, d]
set_option maxRecDepth 100000 in
set_option maxHeartbeats 4000000 in
theorem kfolder_ok {w : World} {pk : Nat} (s : ByteArray) (st : List Nat) (tn : Nat) (htn : st.getLast? = some tn) (h6 : st.length ≤ 6) (md sz ln : Int)
    (HW : Calls Tryz.prog 88 #[.pointer (some ⟨pk, 0, none⟩), .int .i64 1, .string s] w fun e w' => ∃ a c G, e = .returned (.tuple #[.slice a st.length c, stN 2 md sz ln, .int .i64 0]) ∧ Sl w' 3 1 a st.length c (ints .i64 (stI st)) G ∧ (∀ g, G = some g → w.heap.size ≤ g) ∧ Chg Nil w w') :
    Calls Tryz.prog 166 #[.pointer (some ⟨pk, 0, none⟩), .int .i64 1, .string s] w fun e w' => e = .returned (.tuple #[.int .i64 (tn : Int), .int .i64 0]) ∧ Chg Nil w w' := by
  have h0 : 0 < st.length := by
    cases st with
    | nil => cases htn
    | cons _ _ => simp
  have hx : (ints .i64 (stI st))[st.length - 1]? = some (.int .i64 (tn : Int)) := by
    rw [List.getLast?_eq_getElem?] at htn
    simp [ints, stI, htn]
  obtain ⟨m, hm⟩ : ∃ m, m = st.length := ⟨_, rfl⟩
  rw [← hm] at HW h0 h6 hx
  have i4 : IntKind.i64.wrap ((m : Int) - 1) = (m : Int) - 1 := IntWalk.i64_in _ (by omega)
  have i1 : (m : Int) - 1 < (m : Int) := by omega
  have i2 : (1 : Int) ≤ (m : Int) := by omega
  have i3 : ((m : Int) - 1).toNat = m - 1 := by omega
  unfold stN at HW
  have HW' := hid HW
  replace hm := hid hm
  replace hx := hid hx
  clear HW htn
  go_enter Tryz.func166, Tryz.ntmps166
  go_wp2_with fail
  refine HW'.out.mono ?_
  rintro e w1 ⟨a, c, G, rfl, s1, g1, d1⟩
  obtain ⟨g, off, hg0, hgl, _, hc⟩ := s1.rd.cellAt h0
  subst hg0
  have z0 := hc (m - 1) (by omega)
  rw [hx.out] at z0
  replace d1 := hid d1
  clear hc s1 g1
  go_wp2
  go_ret2
  exact ⟨rfl, d1.out.alloc _⟩
set_option maxRecDepth 100000 in
set_option maxHeartbeats 8000000 in
theorem kmkdir_ok {w : World} {pk pf : Nat} {ca : Option Addr} {cc : Nat} {ma : Option Addr} {mn mc : Nat} (h : KmC w pk pf ca cc ma mn mc) (s : ByteArray) (x : UInt8) (tn i : Nat) (d : Value) (Q : World → World → Prop)
    (HL : ∀ W, Chg Nil w W → Calls Tryz.prog 163 #[.pointer (some ⟨pk, 0, none⟩), .int .i64 1, .string s] W fun e w' => e = .returned (.tuple #[.int .i64 (tn : Int), .string ⟨#[x]⟩, .int .i64 0]) ∧ Chg Nil W w')
    (HM : ∀ W, Chg Nil w W → Calls Tryz.prog 62 #[.pointer (some ⟨pf, 0, none⟩), .int .i64 (tn : Int), .string ⟨#[x]⟩, .int .i64 2, .int .i64 493, .int .i64 0, .int .i64 0] W fun e w' => e = .returned (.tuple #[.int .i64 (i : Int), .int .i64 0]) ∧ Q W w' ∧ ∃ F : Nat → Prop, Chg F W w' ∧ ¬ F pk ∧ ∀ k, F k → k < w.heap.size)
    (hQ : ∀ W w', Chg Nil w W → Q W w' → Q w w') :
    Calls Tryz.prog 86 #[.pointer (some ⟨pk, 0, none⟩), .int .i64 1, .agg #[.int .i64 12, .int .i64 493, .int .i64 0, .int .i64 0, .string s, .string ⟨#[]⟩, d]] w fun e w' => e = .returned (.int .i64 0) ∧ Q w w' := by
  have CA := (Chg.refl Nil w).alloc (.cells (clS 12 493 0 0 s ⟨#[]⟩ d).toArray 36)
  have BA := Blk.new w 36 (clS 12 493 0 0 s ⟨#[]⟩ d)
  obtain ⟨W0, hW0⟩ : ∃ W0, W0 = w.alloc (.cells (clS 12 493 0 0 s ⟨#[]⟩ d).toArray 36) := ⟨_, rfl⟩
  rw [← hW0] at CA BA
  have HLL := hid (HL W0 CA)
  have HMM := hid HM
  have H := hid h
  have hQ' := hid hQ
  have k0 := BA.cell 0
  have k1 := BA.cell 1
  have k4 := BA.cell 4
  simp only [clS, List.getElem?_cons_succ, List.getElem?_cons_zero] at k0 k1 k4
  have CA' := hid CA
  have BA' := hid BA
  have hW0' := hid hW0
  simp only [clS] at hW0'
  clear h HL HM hQ CA BA hW0
  go_enter Tryz.func86, Tryz.ntmps86
  go_wp2_with fail
  rw [← hW0'.out]
  refine HLL.out.mono ?_
  rintro e w1 ⟨rfl, d1⟩
  have C1 := CA'.out.trans d1 (fun _ _ h => h)
  have B1 := BA'.out.chg d1 (fun h => h)
  have j0 := B1.cell 0
  have j1 := B1.cell 1
  simp only [clS, List.getElem?_cons_succ, List.getElem?_cons_zero] at j0 j1
  have j1d := (show w1.drew.cell? ⟨w.heap.size, 1, none⟩ = _ from j1)
  obtain ⟨c2, r0, r1, r2, r3, r4, r5, cw, mo⟩ := H.out.nil C1.drew
  have S0 := hid (And.intro c2 (And.intro j1d (And.intro r0 r1)))
  have HM1 := hid (HMM.out w1.drew C1.drew)
  have C1' := hid C1
  have hbl := B1.lt
  have hpl := (H.out.nil C1).lt
  replace B1 := hid B1
  clear C1 d1 c2 r0 r1 r2 r3 r4 r5 cw mo k0 k1 k4 j1d
  go_upto_region 11 with fail
  go_region_held3 (fun w' => w'.cell? ⟨pk, 2, none⟩ = some (.pointer (some ⟨pf, 0, none⟩)) ∧ w'.cell? ⟨w.heap.size, 1, none⟩ = some (.int .i64 493) ∧ w'.cell? ⟨pk, 57, none⟩ = some (.int .i64 0) ∧ w'.cell? ⟨pk, 58, none⟩ = some (.int .i64 0)) (first | exact S0.out | exact S3.out | go_keep) (first | (go_at_call 62; (refine HM1.out.mono ?_); rintro e w3 ⟨rfl, q3, F, cF, hF1, hF2⟩; have S3 := hid (And.intro ((cF.cell (a := ⟨pk, 2, none⟩) hpl hF1).trans S0.out.1) (And.intro ((cF.cell (a := ⟨w.heap.size, 1, none⟩) hbl (fun hh => Nat.lt_irrefl _ (hF2 _ hh))).trans S0.out.2.1) (And.intro ((cF.cell (a := ⟨pk, 57, none⟩) hpl hF1).trans S0.out.2.2.1) ((cF.cell (a := ⟨pk, 58, none⟩) hpl hF1).trans S0.out.2.2.2)))); have Q3 := hid (hQ'.out _ _ C1'.out.drew q3); clear q3 cF hF1 hF2) | fail)
  all_goals
    go_wp2
    go_ret
    exact ⟨rfl, Q3.out⟩
end Go.Proofs.YtdcbagmgflcemaaGreatDoor
namespace Go.Proofs.YtdcbagmgflcemaaGreatDoor
open Go.ChangeShapes Go.WideShapes Go.ChangeAt Go.RowKit
set_option linter.unusedVariables false
/-- A state in blocks U: other blocks don't matter to it. -/
structure StA (A : World → (Nat → Prop) → Prop) : Prop where
  chg : ∀ {w w' : World} {U F : Nat → Prop}, A w U → Chg F w w' → (∀ k, U k → ¬ F k) → A w' U
  lt : ∀ {w : World} {U : Nat → Prop}, A w U → ∀ k, U k → k < w.heap.size
def StP (w : World) (U : Nat → Prop) (A : World → (Nat → Prop) → Prop) (w' : World) : Prop := ∃ U', A w' U' ∧ Chg U w w' ∧ Grew w.heap.size U U'
/-- An answer with some bytes that are nobody's, and the state behind it. -/
def AnP (w : World) (U : Nat → Prop) (A : World → (Nat → Prop) → Prop) (n a b : Int) (ds : List Int) (vs : List Value) (w' : World) : Prop :=
  ∃ sa sc G U', vs = anC n a b (.slice sa ds.length sc) ∧ Sl w' 5 1 sa ds.length sc (bys ds) G ∧ (∀ g, G = some g → ¬ U' g) ∧ A w' U' ∧ Chg U w w' ∧ Grew w.heap.size U U'
section
variable {A : World → (Nat → Prop) → Prop} {w w' V W : World} {b0 : Nat} {U : Nat → Prop} {n a b : Int} {ds : List Int} {vs cs : List Value}
theorem StP.laid (S : StA A) (hV : Chg Nil w V) (h : StP V U A w') (hb : ¬ U b0) (h1 : w.heap.size ≤ b0) (h2 : b0 < V.heap.size) (hc : Chg (One b0) w' W) : StP w U A W := by
  obtain ⟨U2, a1, a2, a3⟩ := h
  have hU2 : ¬ U2 b0 := fun hh => by
    rcases a3 b0 hh with h3 | h3
    · exact hb h3
    · omega
  refine ⟨U2, S.chg a1 hc (fun k hk hh => hU2 (by rw [← show k = b0 from hh]; exact hk)), ((hV.mono (fun _ _ h => h.elim)).trans a2 (fun _ _ h => h)).one (.inr h1) hc, fun k hk => ?_⟩
  rcases a3 k hk with h3 | h3
  · exact .inl h3
  · exact .inr (Nat.le_trans hV.size h3)
theorem StP.pre (hV : Chg Nil w V) (h : StP V U A w') : StP w U A w' := by
  obtain ⟨U2, a1, a2, a3⟩ := h
  refine ⟨U2, a1, (hV.mono (fun _ _ h => h.elim)).trans a2 (fun _ _ h => h), fun k hk => ?_⟩
  rcases a3 k hk with h3 | h3
  · exact .inl h3
  · exact .inr (Nat.le_trans hV.size h3)
theorem StP.nil (S : StA A) (h : StP w U A w') (hc : Chg Nil w' W) : StP w U A W := by
  obtain ⟨U2, a1, a2, a3⟩ := h
  exact ⟨U2, S.chg a1 hc (fun _ _ h => h), a2.trans hc (fun _ _ h => h.elim), a3⟩
theorem StP.size (h : StP w U A w') : w.heap.size ≤ w'.heap.size := by
  obtain ⟨U2, a1, a2, a3⟩ := h
  exact a2.size
theorem AnP.len (h : AnP w U A n a b ds vs w') : vs.length = 11 := by
  obtain ⟨sa, sc, G, U2, rfl, _⟩ := h
  rfl
theorem AnP.one (h : AnP w U A n a b ds vs w') : ∀ u ∈ vs, u.oneCell' = true := by
  obtain ⟨sa, sc, G, U2, rfl, _⟩ := h
  exact anC_one _ _ _ _ rfl
theorem AnP.size (h : AnP w U A n a b ds vs w') : w.heap.size ≤ w'.heap.size := by
  obtain ⟨sa, sc, G, U2, rfl, _, _, _, h, _⟩ := h
  exact h.size
theorem AnP.keeps {t : TypeId} (h : AnP w U A n a b ds vs w') (hB : Blk w b0 t cs) (hb : ¬ U b0) : Blk w' b0 t cs := by
  obtain ⟨sa, sc, G, U2, rfl, _, _, _, h2, _⟩ := h
  exact hB.chg h2 hb
theorem AnP.laid (S : StA A) (hV : Chg Nil w V) (h : AnP V U A n a b ds vs w') (hb : ¬ U b0) (h1 : w.heap.size ≤ b0) (h2 : b0 < V.heap.size) (hB : Blk w' b0 33 cs) (hc : Chg (One b0) w' W) : AnP w U A n a b ds vs W := by
  obtain ⟨sa, sc, G, U2, rfl, hs, hg, a1, a2, a3⟩ := h
  have hU2 : ¬ U2 b0 := fun hh => by
    rcases a3 b0 hh with h3 | h3
    · exact hb h3
    · omega
  refine ⟨sa, sc, G, U2, rfl, hs.chg hc (fun g hg hh => hs.ne_blk hB (by decide) (by rw [hg, show g = b0 from hh])), hg, S.chg a1 hc (fun k hk hh => hU2 (by rw [← show k = b0 from hh]; exact hk)), ((hV.mono (fun _ _ h => h.elim)).trans a2 (fun _ _ h => h)).one (.inr h1) hc, fun k hk => ?_⟩
  rcases a3 k hk with h3 | h3
  · exact .inl h3
  · exact .inr (Nat.le_trans hV.size h3)
theorem AnP.of (h : StP w U A w') : AnP w U A n a b [] (anC n a b (.slice none 0 0)) w' := by
  obtain ⟨U2, a1, a2, a3⟩ := h
  exact ⟨none, 0, none, U2, rfl, Sl.empty _ _ _ _, fun g hg => (by cases hg), a1, a2, a3⟩
theorem AnP.pre (hV : Chg Nil w V) (h : AnP V U A n a b ds vs w') : AnP w U A n a b ds vs w' := by
  obtain ⟨sa, sc, G, U2, rfl, hs, hg, a1, a2, a3⟩ := h
  refine ⟨sa, sc, G, U2, rfl, hs, hg, a1, (hV.mono (fun _ _ h => h.elim)).trans a2 (fun _ _ h => h), fun k hk => ?_⟩
  rcases a3 k hk with h3 | h3
  · exact .inl h3
  · exact .inr (Nat.le_trans hV.size h3)
end
/-- A call of the kernel that ends in an answer. -/
def KCallA (f : FuncId) (args : Array Value) (w : World) (U : Nat → Prop) (A : World → (Nat → Prop) → Prop) (n a b : Int) (ds : List Int) : Prop :=
  Calls Tryz.prog f args w fun e w' => ∃ vs, e = .returned (.agg vs.toArray) ∧ AnP w U A n a b ds vs w'
set_option maxRecDepth 100000 in
set_option maxHeartbeats 4000000 in
theorem sdo_desc {A : World → (Nat → Prop) → Prop} (S : StA A) (w : World) (U : Nat → Prop) (hlt : ∀ k, U k → k < w.heap.size) (pk : Nat) (num ca cb cn n a b : Int) (s o : ByteArray) (d : Value) (ds : List Int) (hn : num = 5 ∨ num = 7 ∨ num = 8)
    (HD : ∀ w', Chg Nil w w' → KCallA 39 #[.pointer (some ⟨pk, 0, none⟩), .int .i64 1, .agg #[.int .i64 num, .int .i64 ca, .int .i64 cb, .int .i64 cn, .string s, .string o, d]] w' U A n a b ds) :
    KCallA 18 #[.pointer (some ⟨pk, 0, none⟩), .int .i64 1, .agg #[.int .i64 num, .int .i64 ca, .int .i64 cb, .int .i64 cn, .string s, .string o, d]] w U A n a b ds := by
  obtain ⟨BA, BC⟩ := boxes2 w (clS num ca cb cn s o d)
  have CA : Chg Nil w ((w.alloc (.cells (clS num ca cb cn s o d).toArray 36)).alloc (.cells anZ.toArray 33)) := ((Chg.refl Nil w).alloc _).alloc _
  have HP := HD _ CA
  have hbU : ¬ U (w.heap.size + 1) := fun hh => by have := hlt _ hh; omega
  replace HP := hid HP
  replace BA := hid BA
  replace BC := hid BC
  replace CA := hid CA
  replace hbU := hid hbU
  replace S := hid S
  clear hlt HD
  unfold KCallA
  rcases hn with rfl | rfl | rfl
  all_goals
    go_enter Tryz.func18, Tryz.ntmps18
    go_wp2_with fail
    refine HP.out.mono ?_
    rintro e w2 ⟨vs, rfl, kp⟩
    have B2 := kp.keeps BC.out hbU.out
    obtain ⟨W, S1, S2, S3⟩ := an_store B2 (vs := vs) rfl kp.len kp.one
    have kw := hid (AnP.laid S.out CA.out kp hbU.out (by omega) BC.out.lt B2 S3)
    have hl := hid kp.len
    replace S2 := hid S2
    clear S3 B2 kp HP
    go_wp2_with (refine wpList_store_run S1 (by rfl) (by rfl) (by rfl) (by rfl) ?_)
    refine bodyPost_ret (an_ret rfl S2.out hl.out rfl) rfl ?_
    exact ⟨vs, rfl, kw.out⟩
set_option maxRecDepth 100000 in
set_option maxHeartbeats 4000000 in
theorem sdo_named {A : World → (Nat → Prop) → Prop} (S : StA A) (w : World) (U : Nat → Prop) (hlt : ∀ k, U k → k < w.heap.size) (pk : Nat) (num ca cb cn n a b : Int) (s o : ByteArray) (d : Value) (ds : List Int) (hn : num = 12 ∨ num = 27 ∨ num = 28)
    (HD : ∀ w', Chg Nil w w' → KCallA 40 #[.pointer (some ⟨pk, 0, none⟩), .int .i64 1, .agg #[.int .i64 num, .int .i64 ca, .int .i64 cb, .int .i64 cn, .string s, .string o, d]] w' U A n a b ds) :
    KCallA 18 #[.pointer (some ⟨pk, 0, none⟩), .int .i64 1, .agg #[.int .i64 num, .int .i64 ca, .int .i64 cb, .int .i64 cn, .string s, .string o, d]] w U A n a b ds := by
  obtain ⟨BA, BC⟩ := boxes2 w (clS num ca cb cn s o d)
  have CA : Chg Nil w ((w.alloc (.cells (clS num ca cb cn s o d).toArray 36)).alloc (.cells anZ.toArray 33)) := ((Chg.refl Nil w).alloc _).alloc _
  have HP := HD _ CA
  have hbU : ¬ U (w.heap.size + 1) := fun hh => by have := hlt _ hh; omega
  replace HP := hid HP
  replace BA := hid BA
  replace BC := hid BC
  replace CA := hid CA
  replace hbU := hid hbU
  replace S := hid S
  clear hlt HD
  unfold KCallA
  rcases hn with rfl | rfl | rfl
  all_goals
    go_enter Tryz.func18, Tryz.ntmps18
    go_wp2_with fail
    refine HP.out.mono ?_
    rintro e w2 ⟨vs, rfl, kp⟩
    have B2 := kp.keeps BC.out hbU.out
    obtain ⟨W, S1, S2, S3⟩ := an_store B2 (vs := vs) rfl kp.len kp.one
    have kw := hid (AnP.laid S.out CA.out kp hbU.out (by omega) BC.out.lt B2 S3)
    have hl := hid kp.len
    replace S2 := hid S2
    clear S3 B2 kp HP
    go_wp2_with (refine wpList_store_run S1 (by rfl) (by rfl) (by rfl) (by rfl) ?_)
    refine bodyPost_ret (an_ret rfl S2.out hl.out rfl) rfl ?_
    exact ⟨vs, rfl, kw.out⟩
set_option maxRecDepth 100000 in
set_option maxHeartbeats 4000000 in
/-- named: what change or seen answers. -/
theorem snamed_ok {A : World → (Nat → Prop) → Prop} (S : StA A) (w : World) (U : Nat → Prop) (hlt : ∀ k, U k → k < w.heap.size) (pk : Nat) (num ca cb cn : Int) (s o : ByteArray) (d : Value) (fn : FuncId) (hn : (num = 12 ∧ fn = 86) ∨ (num = 27 ∧ fn = 87) ∨ (num = 28 ∧ fn = 87))
    (HD : ∀ w', Chg Nil w w' → Calls Tryz.prog fn #[.pointer (some ⟨pk, 0, none⟩), .int .i64 1, .agg #[.int .i64 num, .int .i64 ca, .int .i64 cb, .int .i64 cn, .string s, .string o, d]] w' fun e w2 => e = .returned (.int .i64 0) ∧ StP w' U A w2) :
    KCallA 40 #[.pointer (some ⟨pk, 0, none⟩), .int .i64 1, .agg #[.int .i64 num, .int .i64 ca, .int .i64 cb, .int .i64 cn, .string s, .string o, d]] w U A 0 0 0 [] := by
  obtain ⟨BA, BC⟩ := boxes2 w (clS num ca cb cn s o d)
  have CA : Chg Nil w ((w.alloc (.cells (clS num ca cb cn s o d).toArray 36)).alloc (.cells anZ.toArray 33)) := ((Chg.refl Nil w).alloc _).alloc _
  have HP := HD _ CA
  have hbU : ¬ U (w.heap.size + 1) := fun hh => by have := hlt _ hh; omega
  replace HP := hid HP
  replace BA := hid BA
  replace BC := hid BC
  replace CA := hid CA
  replace hbU := hid hbU
  replace S := hid S
  clear hlt HD
  unfold KCallA
  rcases hn with ⟨rfl, rfl⟩ | ⟨rfl, rfl⟩ | ⟨rfl, rfl⟩
  all_goals
    go_enter Tryz.func40, Tryz.ntmps40
    go_wp2_with fail
    refine HP.out.mono ?_
    rintro e w1 ⟨rfl, kp1⟩
    clear HP
    go_wp2_with fail
    refine (kfail_ok w1 0).mono ?_
    rintro e w2 ⟨rfl, d2⟩
    have kp := AnP.of (n := 0) (a := 0) (b := 0) (kp1.nil S.out d2)
    have B2 := kp.keeps BC.out hbU.out
    obtain ⟨W, S1, S2, S3⟩ := an_store B2 (vs := anC 0 0 0 (.slice none 0 0)) rfl kp.len kp.one
    have kw := hid (AnP.laid S.out CA.out kp hbU.out (by omega) BC.out.lt B2 S3)
    have hl := hid kp.len
    replace S2 := hid S2
    clear S3 B2 kp kp1 d2
    go_wp2_with (refine wpList_store_run S1 (by rfl) (by rfl) (by rfl) (by rfl) ?_)
    refine bodyPost_ret (an_ret rfl S2.out hl.out rfl) rfl ?_
    exact ⟨_, rfl, kw.out⟩
end Go.Proofs.YtdcbagmgflcemaaGreatDoor
namespace Go.Proofs.YtdcbagmgflcemaaGreatDoor
open Go.ChangeShapes Go.WideShapes Go.ChangeAt Go.RowKit
set_option linter.unusedVariables false
/-- What the law keeps account of: the files, sectors taken, who is held, mounts, what is open. -/
structure MaY where
  M : Nat → FM
  m : Nat
  g : Nat → Nat
  ms : List Mn
  fl : Nat → Fl
  fd : Nat → Nat → Nat
  z : Bool := true
/-- Where the parts lie that stay. -/
structure MaP where
  pk : Nat
  pf : Nat
  po : Nat
  pc : Nat
  p : Nat
  q : Nat
  bt : Nat
  bh : Nat
  FD : Nat → Prop
  zs : List Int
structure MaS (w : World) (U : Nat → Prop) (P : MaP) (Y : MaY) (FF : Nat → Prop) (X : FX) (Rm Rc : Nat → Prop) (ca : Option Addr) (cc : Nat) (ma : Option Addr) (mc : Nat) (pl : Nat → Pe) (hd : Nat → Value) (ts : Nat → Nat → Value) : Prop where
  kn : KnAt w P.pk hd ts
  h2 : hd 2 = .pointer (some ⟨P.pf, 0, none⟩)
  h6 : hd 6 = .pointer (some ⟨P.po, 0, none⟩)
  h7 : hd 7 = .pointer (some ⟨P.pc, 0, none⟩)
  ta : TsA ts 1 1
  u0 : ts 1 11 = .int .i64 0
  u1 : ts 1 12 = .int .i64 0
  u2 : ts 1 13 = .slice none 0 0
  u3 : ts 1 14 = .int .i64 127
  u4 : ts 1 15 = .int .i64 0
  u5 : ts 1 16 = .int .i64 0
  cd : ts 1 17 = .slice ca 1 cc
  mo : ts 1 18 = .slice ma Y.ms.length mc
  fs : FsA w FF P.FD P.pf P.p P.q P.bt P.bh P.zs X
  xm : XM X P.zs Y.M
  xn : X.m = Y.m
  xh : X.hd = hdV Y.g
  mz : Y.z = true → ma = none ∧ mc = 0
  mt : Rd w Rm 2 ma Y.ms.length mc (moL Y.ms)
  ms : MoS Y.ms
  cw : Rd w Rc 1 ca 1 cc (ints .i64 (stI [1]))
  op : OpAt w P.po Y.fl Y.fd
  pr : PrAt w P.pc pl
  p1 : (pl 1).state = 1
  ne : P.pk ≠ P.po ∧ P.pk ≠ P.pc ∧ P.po ≠ P.pc
  nf : ¬ FF P.pk ∧ ¬ FF P.po ∧ ¬ FF P.pc
  nm : ∀ k, Rm k → ¬ FF k ∧ k ≠ P.pk ∧ k ≠ P.po ∧ k ≠ P.pc
  nc : ∀ k, Rc k → ¬ FF k ∧ k ≠ P.pk ∧ k ≠ P.po ∧ k ≠ P.pc
  uf : ∀ k, FF k → U k
  up : U P.pk ∧ U P.po ∧ U P.pc
  um : ∀ k, Rm k → U k
  uc : ∀ k, Rc k → U k
  lt : ∀ k, U k → k < w.heap.size
def MaA (P : MaP) (Y : MaY) (w : World) (U : Nat → Prop) : Prop := ∃ FF X Rm Rc ca cc ma mc pl hd ts, MaS w U P Y FF X Rm Rc ca cc ma mc pl hd ts
section
variable {w w' W : World} {U : Nat → Prop} {P : MaP} {Y : MaY} {FF : Nat → Prop} {X : FX} {Rm Rc : Nat → Prop} {ca : Option Addr} {cc : Nat} {ma : Option Addr} {mc : Nat} {pl : Nat → Pe} {hd : Nat → Value} {ts : Nat → Nat → Value}
theorem MaS.chg {F : Nat → Prop} (h : MaS w U P Y FF X Rm Rc ca cc ma mc pl hd ts) (hc : Chg F w w') (hF : ∀ k, U k → ¬ F k) : MaS w' U P Y FF X Rm Rc ca cc ma mc pl hd ts :=
  ⟨h.kn.chg hc (hF _ h.up.1), h.h2, h.h6, h.h7, h.ta, h.u0, h.u1, h.u2, h.u3, h.u4, h.u5, h.cd, h.mo, h.fs.chg hc (fun k hk => hF k (h.uf k hk)), h.xm, h.xn, h.xh, h.mz, h.mt.chg hc (fun g _ hg => hF g (h.um g hg)), h.ms, h.cw.chg hc (fun g _ hg => hF g (h.uc g hg)), OpAt.chg h.op hc (hF _ h.up.2.1), PrAt.chg h.pr hc (hF _ h.up.2.2), h.p1, h.ne, h.nf, h.nm, h.nc, h.uf, h.up, h.um, h.uc, fun k hk => Nat.lt_of_lt_of_le (h.lt k hk) hc.size⟩
theorem MaS.nil (h : MaS w U P Y FF X Rm Rc ca cc ma mc pl hd ts) (hc : Chg Nil w w') : MaS w' U P Y FF X Rm Rc ca cc ma mc pl hd ts := h.chg hc (fun _ _ h => h)
theorem MaS.k (h : MaS w U P Y FF X Rm Rc ca cc ma mc pl hd ts) {j : Nat} (hj : j < 38) : w.cell? ⟨P.pk, 46 + j, none⟩ = some (ts 1 j) := h.kn.t (q := 1) (j := j) (by omega) hj
theorem MaS.kmc (h : MaS w U P Y FF X Rm Rc ca cc ma mc pl hd ts) : KmC w P.pk P.pf ca cc ma Y.ms.length mc :=
  ⟨(h.kn.h (i := 2) (by omega)).trans (congrArg some h.h2), (h.k (j := 11) (by omega)).trans (congrArg some h.u0), (h.k (j := 12) (by omega)).trans (congrArg some h.u1), (h.k (j := 13) (by omega)).trans (congrArg some h.u2), (h.k (j := 14) (by omega)).trans (congrArg some h.u3), (h.k (j := 15) (by omega)).trans (congrArg some h.u4), (h.k (j := 16) (by omega)).trans (congrArg some h.u5), (h.k (j := 17) (by omega)).trans (congrArg some h.cd), (h.k (j := 18) (by omega)).trans (congrArg some h.mo)⟩
theorem MaS.kmn (h : MaS w U P Y FF X Rm Rc ca cc ma mc pl hd ts) : KmN w P.pk P.pf FF P.FD P.p P.q P.bt P.bh P.zs X Y.M Y.ms Rm Rc ca cc ma Y.ms.length mc := ⟨h.kmc, h.fs, h.xm, h.mt, rfl, h.ms, h.cw⟩
theorem MaS.k6 (h : MaS w U P Y FF X Rm Rc ca cc ma mc pl hd ts) : w.cell? ⟨P.pk, 6, none⟩ = some (.pointer (some ⟨P.po, 0, none⟩)) := (h.kn.h (i := 6) (by omega)).trans (congrArg some h.h6)
theorem MaS.k7 (h : MaS w U P Y FF X Rm Rc ca cc ma mc pl hd ts) : w.cell? ⟨P.pk, 7, none⟩ = some (.pointer (some ⟨P.pc, 0, none⟩)) := (h.kn.h (i := 7) (by omega)).trans (congrArg some h.h7)
theorem MaA.sta (P : MaP) (Y : MaY) : StA (MaA P Y) := by
  refine ⟨fun {w w' U F} h hc hF => ?_, fun {w U} h => ?_⟩
  · obtain ⟨FF, X, Rm, Rc, ca, cc, ma, mc, pl, hd, ts, h⟩ := h
    exact ⟨FF, X, Rm, Rc, ca, cc, ma, mc, pl, hd, ts, h.chg hc hF⟩
  · obtain ⟨FF, X, Rm, Rc, ca, cc, ma, mc, pl, hd, ts, h⟩ := h
    exact h.lt
theorem MaA.nil (h : MaA P Y w U) (hc : Chg Nil w w') : MaA P Y w' U := (MaA.sta P Y).chg h hc (fun _ _ h => h)
/-- The file system changed. -/
theorem MaS.fsS (h : MaS w U P Y FF X Rm Rc ca cc ma mc pl hd ts) {M' : Nat → FM} {m' : Nat} {g' : Nat → Nat} (hp : FPost w FF P.FD P.pf P.p P.q P.bt P.bh P.zs M' m' (hdV g') w') : StP w U (MaA P { Y with M := M', m := m', g := g' }) w' := by
  obtain ⟨X', FF', f1, x1, e1, e2, c1, i1, gr1⟩ := hp
  have nf' : ∀ k, U k → ¬ FF k → ¬ FF' k := fun k hk h1 h2 => by
    rcases gr1 k h2 with h3 | h3
    · exact h1 h3
    · have := h.lt k hk; omega
  refine ⟨fun k => U k ∨ FF' k, ⟨FF', X', Rm, Rc, ca, cc, ma, mc, pl, hd, ts, h.kn.chg c1 h.nf.1, h.h2, h.h6, h.h7, h.ta, h.u0, h.u1, h.u2, h.u3, h.u4, h.u5, h.cd, h.mo, f1, x1, e1, e2, h.mz, h.mt.chg c1 (fun g _ hg => (h.nm g hg).1), h.ms, h.cw.chg c1 (fun g _ hg => (h.nc g hg).1), OpAt.chg h.op c1 h.nf.2.1, PrAt.chg h.pr c1 h.nf.2.2, h.p1, h.ne, ⟨nf' _ h.up.1 h.nf.1, nf' _ h.up.2.1 h.nf.2.1, nf' _ h.up.2.2 h.nf.2.2⟩, fun k hk => ⟨nf' k (h.um k hk) (h.nm k hk).1, (h.nm k hk).2⟩, fun k hk => ⟨nf' k (h.uc k hk) (h.nc k hk).1, (h.nc k hk).2⟩, fun k hk => .inr hk, ⟨.inl h.up.1, .inl h.up.2.1, .inl h.up.2.2⟩, fun k hk => .inl (h.um k hk), fun k hk => .inl (h.uc k hk), fun k hk => ?_⟩, c1.mono (fun k _ hk => h.uf k hk), fun k hk => ?_⟩
  · rcases hk with hk | hk
    · exact Nat.lt_of_lt_of_le (h.lt k hk) c1.size
    · exact f1.lt k hk
  · rcases hk with hk | hk
    · exact .inl hk
    · rcases gr1 k hk with h3 | h3
      · exact .inl (h.uf k h3)
      · exact .inr h3
theorem XM.setH {X : FX} {zs : List Int} {M : Nat → FM} (h : XM X zs M) (hd : Int → Option Value) : XM (X.setH hd) zs M := ⟨h.nd, h.by_, h.rng, h.apart⟩
theorem MaS.hold (h : MaS w U P Y FF X Rm Rc ca cc ma mc pl hd ts) {g' : Nat → Nat} (hf : FsA w' FF P.FD P.pf P.p P.q P.bt P.bh P.zs (X.setH (hdV g'))) (hc : Chg (One P.bh) w w') : StP w U (MaA P { Y with g := g' }) w' :=
  h.fsS ⟨X.setH (hdV g'), FF, hf, h.xm.setH _, h.xn, rfl, hc.mono (fun k _ hk => by rw [show k = P.bh from hk]; exact h.fs.inF.2.2), fun _ h => h, Grew.refl _ _⟩
/-- What is open changed. -/
theorem MaS.opA (h : MaS w U P Y FF X Rm Rc ca cc ma mc pl hd ts) {fl' : Nat → Fl} {fd' : Nat → Nat → Nat} (ho : OpAt w' P.po fl' fd') (hc : Chg (One P.po) w w') : MaA P { Y with fl := fl', fd := fd' } w' U := by
  have ne : ∀ k, k ≠ P.po → ¬ One P.po k := fun k hk hh => hk hh
  exact ⟨FF, X, Rm, Rc, ca, cc, ma, mc, pl, hd, ts, h.kn.chg hc (ne _ h.ne.1), h.h2, h.h6, h.h7, h.ta, h.u0, h.u1, h.u2, h.u3, h.u4, h.u5, h.cd, h.mo, h.fs.chg hc (fun k hk hh => h.nf.2.1 (by rw [← show k = P.po from hh]; exact hk)), h.xm, h.xn, h.xh, h.mz, h.mt.chg hc (fun g _ hg => ne _ (h.nm g hg).2.2.1), h.ms, h.cw.chg hc (fun g _ hg => ne _ (h.nc g hg).2.2.1), ho, PrAt.chg h.pr hc (ne _ (fun hh => h.ne.2.2 hh.symm)), h.p1, h.ne, h.nf, h.nm, h.nc, h.uf, h.up, h.um, h.uc, fun k hk => Nat.lt_of_lt_of_le (h.lt k hk) hc.size⟩
theorem MaS.opS (h : MaS w U P Y FF X Rm Rc ca cc ma mc pl hd ts) {fl' : Nat → Fl} {fd' : Nat → Nat → Nat} (ho : OpAt w' P.po fl' fd') (hc : Chg (One P.po) w w') : StP w U (MaA P { Y with fl := fl', fd := fd' }) w' :=
  ⟨U, h.opA ho hc, hc.mono (fun k _ hk => by rw [show k = P.po from hk]; exact h.up.2.1), Grew.refl _ _⟩
/-- What is mounted changed. -/
theorem MaS.moS (h : MaS w U P Y FF X Rm Rc ca cc ma mc pl hd ts) (hW : Chg Nil w W) (ms' : List Mn) (hm : MoS ms') (a : Option Addr) (c : Nat) (R' : Nat → Prop) (r : Rd W R' 2 a ms'.length c (moL ms')) (hR : ∀ g, R' g → w.heap.size ≤ g ∧ g < W.heap.size) : StP w U (MaA P { Y with ms := ms', z := false }) (W.setCell ⟨P.pk, 64, none⟩ (.slice a ms'.length c)) := by
  have K := (h.nil hW)
  have hc : Chg (One P.pk) W (W.setCell ⟨P.pk, 64, none⟩ (.slice a ms'.length c)) := (Chg.refl (One P.pk) W).setCell (p := ⟨P.pk, 64, none⟩) (.inl (show One P.pk P.pk from rfl)) _
  have ne : ∀ k, k ≠ P.pk → ¬ One P.pk k := fun k hk hh => hk hh
  have kn := KnAt.setT (q := 1) (j := 18) K.kn (by omega) (by omega) (.slice a ms'.length c)
  have ts' : ∀ j, j ≠ 18 → updT ts 1 18 (.slice a ms'.length c) 1 j = ts 1 j := fun j hj => by
    unfold updT
    rw [if_neg (fun hh => hj hh.2)]
  have new : ∀ g, R' g → ∀ k, U k → g ≠ k := fun g hg k hk he => by
    have := h.lt k hk
    have := (hR g hg).1
    omega
  refine ⟨fun k => U k ∨ R' k, ⟨FF, X, R', Rc, ca, cc, a, c, pl, hd, _, kn, h.h2, h.h6, h.h7, ⟨(ts' 0 (by omega)).trans h.ta.sp, fun j hj => (ts' _ (by omega)).trans (h.ta.sg j hj), (ts' 37 (by omega)).trans h.ta.aw, fun j hj => ?_⟩, (ts' 11 (by omega)).trans h.u0, (ts' 12 (by omega)).trans h.u1, (ts' 13 (by omega)).trans h.u2, (ts' 14 (by omega)).trans h.u3, (ts' 15 (by omega)).trans h.u4, (ts' 16 (by omega)).trans h.u5, (ts' 17 (by omega)).trans h.cd, ?_, K.fs.chg hc (fun k hk hh => h.nf.1 (by rw [← show k = P.pk from hh]; exact hk)), h.xm, h.xn, h.xh, fun hh => (by cases hh), r.chg hc (fun g _ hg => ne _ (new g hg _ h.up.1)), hm, K.cw.chg hc (fun g _ hg => ne _ (h.nc g hg).2.1), OpAt.chg K.op hc (ne _ (fun hh => h.ne.1 hh.symm)), PrAt.chg K.pr hc (ne _ (fun hh => h.ne.2.1 hh.symm)), h.p1, h.ne, h.nf, fun g hg => ⟨fun hh => new g hg _ (h.uf g hh) rfl, new g hg _ h.up.1, new g hg _ h.up.2.1, new g hg _ h.up.2.2⟩, h.nc, fun k hk => .inl (h.uf k hk), ⟨.inl h.up.1, .inl h.up.2.1, .inl h.up.2.2⟩, fun k hk => .inr hk, fun k hk => .inl (h.uc k hk), fun k hk => ?_⟩, (hW.mono (fun _ _ h => h.elim)).trans (hc.mono (F := One P.pk) (G := U) (fun k _ hk => by rw [show k = P.pk from hk]; exact h.up.1)) (fun _ _ h => h), fun k hk => ?_⟩
  · by_cases hj : j = 18
    · subst hj
      unfold updT
      rw [if_pos ⟨rfl, rfl⟩]
      rfl
    · rw [ts' j hj]
      exact h.ta.one j (by assumption)
  · unfold updT
    rw [if_pos ⟨rfl, rfl⟩]
  · have h1 := hc.size
    have h2 := hW.size
    rcases hk with hk | hk
    · have := h.lt k hk; omega
    · have := (hR k hk).2; omega
  · rcases hk with hk | hk
    · exact .inl hk
    · exact .inr (hR k hk).1
end
theorem StP.comp {w w1 w2 : World} {U U1 : Nat → Prop} {B : World → (Nat → Prop) → Prop} (c1 : Chg U w w1) (g1 : Grew w.heap.size U U1) (k : StP w1 U1 B w2) : StP w U B w2 := by
  obtain ⟨U2, a2, c2, g2⟩ := k
  refine ⟨U2, a2, c1.trans c2 (fun i hi hu => ?_), fun i hi => ?_⟩
  · rcases g1 i hu with h1 | h1
    · exact h1
    · omega
  · rcases g2 i hi with h1 | h1
    · exact g1 i h1
    · exact .inr (Nat.le_trans c1.size h1)
theorem StP.refl {w : World} {U : Nat → Prop} {A : World → (Nat → Prop) → Prop} (h : A w U) : StP w U A w := ⟨U, h, Chg.refl _ _, Grew.refl _ _⟩
end Go.Proofs.YtdcbagmgflcemaaGreatDoor
