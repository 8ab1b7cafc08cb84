/- The law's calls: a file that is there is opened, read, written; a mount is made, and left. Conditions: ways in plain words; files of at most one sector, read and written from their begin · kernel.Start on a new file system, which is kept. Conditions: just that · What the law keeps while it goes on: the kernel with files, and blocks of its own; its small functions. Conditions: as told of each call · The law's states, one behind each call; ways through them. No program is walked here; no condition · The law's small functions: a start, an opening, a writing, a reading; no error at all. Conditions: as told of each asking. -/
import Derived.Test.YtdcbagmgflcemaaGreatDoorZ45
import Derived.Test.YtdcbagmgflcemaaGreatDoorZ18
import Derived.Test.YtdcbagmgflcemaaGreatDoorZ27
import Derived.Test.YtdcbagmgflcemaaGreatDoorZ42
namespace Go.Proofs.YtdcbagmgflcemaaGreatDoor
open Go.ChangeShapes Go.WideShapes Go.ChangeAt Go.RowKit
set_option linter.unusedVariables false
theorem mt_open_old {w : World} {U : Nat → Prop} {P : MaP} {Y : MaY} (h : MaA P Y w U) (y : Way) (L : Nat → List En) (hy : WayM Y.M Y.ms [97, 102] y 0 L) (hy0 : y.S 0 = [1]) (tn : Nat) (htn : (y.S 2).getLast? = some tn) (t1 : 1 ≤ tn) (t2 : tn ≤ 32) (hkd : (Y.M (tn - 1)).kd = 1)
    (dn kf : Nat) (hg : Y.g tn ≤ 100) (d1 : dn < 8) (d2 : Y.fd 1 dn = 0) (d3 : ∀ j, j < dn → Y.fd 1 j ≠ 0) (d4 : kf < 32) (d5 : (Y.fl kf).n = 0) (d6 : ∀ j, j < kf → (Y.fl j).n ≠ 0) :
    KCallA 5 #[.pointer (some ⟨P.pk, 0, none⟩), .int .i64 1, .agg #[.int .i64 5, .int .i64 3, .int .i64 0, .int .i64 420, .string ⟨#[97, 47, 102]⟩, .string ⟨#[]⟩, .slice none 0 0]] w U (MaA P ((Y.held tn).open_ tn dn kf)) 0 (dn : Int) 0 [] := by
  have hnl : NmL [97, 102] := .inr (.inr (.inl rfl))
  refine mt_opening (Y1 := Y) h ⟨#[97, 47, 102]⟩ 0 (.inl rfl) tn dn kf t1 t2 (by rw [hkd]; exact Nat.zero_lt_one) hg d1 d2 d3 d4 d5 d6 (fun w1 c1 W hW => ?_)
  obtain ⟨FF, X, Rm, Rc, ca, cc, ma, mc, pl, hd', ts, h1⟩ := h.nil c1
  have h2 := h1.nil hW
  have hmd := mdle h2.fs h2.xm (tn - 1) (by omega)
  have hst : ∀ V, Chg Nil W V → Calls Tryz.prog 161 #[.pointer (some ⟨P.pf, 0, none⟩), .int .i64 (tn : Int)] V fun e W' => e = .returned (.tuple #[stN 1 ((Y.M (tn - 1)).md : Int) ((Y.M (tn - 1)).sz : Int) ((Y.M (tn - 1)).ln : Int), .int .i64 0]) ∧ Chg Nil V W' := fun V hV => by
    have := fstatm_ok (h2.nil hV).fs h2.xm tn t1 t2 (by rw [hkd]; decide)
    rw [hkd] at this
    exact this
  refine (kopened_old (w := W) (pk := P.pk) ⟨#[97, 47, 102]⟩ (y.S 2) tn htn (hy.len 2 (Nat.le_refl _)) ((Y.M (tn - 1)).md : Int) ((Y.M (tn - 1)).sz : Int) ((Y.M (tn - 1)).ln : Int) (.slice none 0 0) (fun V hV => ?_) (fun V hV => ?_)).mono (fun e w' hh => ⟨hh.1, StP.nil (MaA.sta P Y) (StP.refl ⟨FF, X, Rm, Rc, ca, cc, ma, mc, pl, hd', ts, h2⟩) hh.2, h1.fm (Nat.le_refl _) (hh.2.mono (fun _ _ h => h.elim))⟩)
  · have := kwalkm_0 (h2.kmn.nil hV) [97, 102] hnl y L hy hy0 tn htn t1 t2 (by rw [hkd]; decide)
    rw [hkd] at this
    exact this
  · exact kmay_ok (h2.kmc.nil hV) (tn : Int) 1 ((Y.M (tn - 1)).md : Int) ((Y.M (tn - 1)).sz : Int) ((Y.M (tn - 1)).ln : Int) 3 6 6 (by omega) (by omega) (.inr (.inr (.inl ⟨rfl, rfl⟩))) (.inr ⟨rfl, rfl⟩) an_6_6 (fun V' hV' => hst V' (hV.trans hV' (fun _ _ h => h)))
def MaY.seek (Y : MaY) (kf : Nat) (n : Nat) : MaY := { Y with fl := updF Y.fl kf { Y.fl kf with at_ := (n : Int) } }
theorem mt_read {w : World} {U : Nat → Prop} {P : MaP} {Y : MaY} (h : MaA P Y w U) (tn dn kf : Nat) (t1 : 1 ≤ tn) (t2 : tn ≤ 32) (hkd : (Y.M (tn - 1)).kd = 1) (d1 : dn < 8) (d4 : kf < 32) (hf : Y.fd 1 dn = kf + 1) (nf : Int) (hfl : Y.fl kf = ⟨1, (tn : Int), 3, false, 0, nf⟩) (b : List Int) (hb : (Y.M (tn - 1)).b = b) (hbl : b.length ≤ 64) :
    KCallA 5 #[.pointer (some ⟨P.pk, 0, none⟩), .int .i64 1, .agg #[.int .i64 7, .int .i64 (dn : Int), .int .i64 0, .int .i64 100, .string ⟨#[]⟩, .string ⟨#[]⟩, .slice none 0 0]] w U (MaA P (Y.seek kf b.length)) 0 (b.length : Int) 0 b := by
  have SS := MaA.sta P (Y.seek kf b.length)
  refine mask_ok SS w U P Y h 7 dn 0 100 0 (b.length : Int) 0 ⟨#[]⟩ ⟨#[]⟩ (.slice none 0 0) b (fun w1 c1 => ?_)
  have h1 := h.nil c1
  refine sdo_desc SS w1 U ((MaA.sta P Y).lt h1) P.pk 7 dn 0 100 0 (b.length : Int) 0 ⟨#[]⟩ ⟨#[]⟩ (.slice none 0 0) b (.inr (.inl rfl)) (fun w2 c2 => ?_)
  have h2' := h1.nil c2
  obtain ⟨FF, X, Rm, Rc, ca, cc, ma, mc, pl, hd', ts, h2⟩ := h2'
  refine sdesc_read SS w2 U h2.lt P.pk P.po Y.fl Y.fd h2.op h2.k6 dn kf d1 d4 hf (tn : Int) 3 nf hfl 0 100 0 (b.length : Int) 0 (.slice none 0 0) b (fun w3 c3 => ?_)
  have h3 := h2.nil c3
  have hU := h3.lt
  have hx := h3.xm.nd (tn - 1) (by omega)
  have hby := h3.xm.by_ (tn - 1) (by omega)
  rw [hb] at hby
  refine (kreadf_ok (w := w3) (pk := P.pk) (pf := P.pf) (po := P.po) h3.kmc.c2 h3.k6 (h3.lt _ h3.up.2.1) h3.ne.1 tn dn b hbl (fun W hW => ?_) (fun W w' => OpAt w' P.po (updF Y.fl kf { Y.fl kf with at_ := (b.length : Int) }) Y.fd) (fun W hW => ?_)).mono ?_
  · exact fread_ok (h3.nil hW).fs (tn - 1) (by omega) b hby (hx.1.trans hkd) hbl (tn : Int) (by omega)
  · exact opseek_ok W P.po Y.fl Y.fd (h3.nil hW).op 1 (by omega) (by omega) dn d1 kf d4 hf (b.length : Int) (by omega) (by omega)
  · rintro e w' ⟨a, c, G, W, w4, b0, rfl, s, gg, hW, ho, hc, b1, b2, hc2⟩
    have hub : ¬ U b0 := fun hh => by have := hU b0 hh; omega
    refine ⟨_, rfl, a, c, G, U, rfl, s, fun g hg hh => by have := gg g hg; have := hU g hh; omega, SS.chg ((h3.nil hW).opA ho hc) hc2 (fun k hk hh => hub (by rw [← show k = b0 from hh]; exact hk)), ?_, Grew.refl _ _⟩
    exact ((hW.mono (fun _ _ h => h.elim)).trans (hc.mono (G := U) (fun k _ hk => by rw [show k = P.po from hk]; exact h3.up.2.1)) (fun _ _ h => h)).one (.inr b1) hc2
def MaY.wr (Y : MaY) (k : Nat) (l : List Int) : MaY := { Y with M := mWr Y.M Y.m k l, m := mxWr Y.m l }
theorem mt_write {w : World} {U : Nat → Prop} {P : MaP} {Y : MaY} (h : MaA P Y w U) (tn dn kf : Nat) (t1 : 1 ≤ tn) (t2 : tn ≤ 32) (hkd : (Y.M (tn - 1)).kd = 1) (h0 : (Y.M (tn - 1)).pt = 0) (hsz : (Y.M (tn - 1)).sz = 0) (hm : Y.m < 8) (d1 : dn < 8) (d4 : kf < 32) (hf : Y.fd 1 dn = kf + 1) (nf : Int) (hfl : Y.fl kf = ⟨1, (tn : Int), 3, false, 0, nf⟩) (l : List Int) (hl6 : l.length ≤ 64) (Rb : Nat → Prop) (ba : Option Addr) (bc : Nat) (hb : Rd w Rb 1 ba l.length bc (bys l)) :
    KCallA 5 #[.pointer (some ⟨P.pk, 0, none⟩), .int .i64 1, .agg #[.int .i64 8, .int .i64 (dn : Int), .int .i64 0, .int .i64 0, .string ⟨#[]⟩, .string ⟨#[]⟩, .slice ba l.length bc]] w U (MaA P ((Y.wr (tn - 1) l).seek kf l.length)) 0 (l.length : Int) 0 [] := by
  have SS := MaA.sta P ((Y.wr (tn - 1) l).seek kf l.length)
  refine mask_ok SS w U P Y h 8 dn 0 0 0 (l.length : Int) 0 ⟨#[]⟩ ⟨#[]⟩ (.slice ba l.length bc) [] (fun w1 c1 => ?_)
  have h1 := h.nil c1
  refine sdo_desc SS w1 U ((MaA.sta P Y).lt h1) P.pk 8 dn 0 0 0 (l.length : Int) 0 ⟨#[]⟩ ⟨#[]⟩ (.slice ba l.length bc) [] (.inr (.inr rfl)) (fun w2 c2 => ?_)
  have h2' := h1.nil c2
  obtain ⟨FF, X, Rm, Rc, ca, cc, ma, mc, pl, hd', ts, h2⟩ := h2'
  refine sdesc_write SS w2 U h2.lt P.pk P.po Y.fl Y.fd h2.op h2.k6 dn kf d1 d4 hf (tn : Int) 3 nf hfl 0 0 0 (l.length : Int) 0 (.slice ba l.length bc) [] (fun w3 c3 => ?_)
  have h3 := h2.nil c3
  have hb3 := hb.chg ((c1.trans c2 (fun _ _ h => h)).trans c3 (fun _ _ h => h)) (fun _ _ _ h => h)
  have hU := h3.lt
  have e1 : tn - 1 + 1 = tn := by omega
  refine (kwritef_ok (w := w3) (pk := P.pk) (pf := P.pf) (po := P.po) h3.kmc.c2 h3.k6 (h3.lt _ h3.up.2.1) h3.ne.1 tn dn ba l.length bc hl6 (fun W w' => StP W U (MaA P (Y.wr (tn - 1) l)) w') (fun W w' => StP W U (MaA P ((Y.wr (tn - 1) l).seek kf l.length)) w') (fun W hW => ?_) (fun W w4 hW hq => ?_) (fun _ w' => StP w3 U (MaA P ((Y.wr (tn - 1) l).seek kf l.length)) w') (fun W w5 w6 b hW b1 b2 hq hc => ?_)).mono ?_
  · have H := fwm_ok (h3.nil hW).fs h3.xm (tn - 1) (by omega) (tn : Int) (by omega) hkd h0 hsz (by rw [h3.xn]; exact hm) l hl6 Rb ba bc (hb3.chg hW (fun _ _ _ h => h))
    rw [h3.xn, h3.xh] at H
    refine H.mono ?_
    rintro e w' ⟨rfl, hp⟩
    refine ⟨rfl, (h3.nil hW).fsS hp, ?_⟩
    obtain ⟨_, _, _, _, _, _, c, _⟩ := hp
    exact h3.fm (Nat.le_refl _) c
  · obtain ⟨U1, a1, a2, a3⟩ := hq
    obtain ⟨F1, X1, Rm1, Rc1, ca1, cc1, ma1, mc1, pl1, hd1, ts1, m1⟩ := a1
    have m2 := m1.nil (Chg.refl Nil w4).drew
    refine (opseek_ok w4.drew P.po Y.fl Y.fd m2.op 1 (by omega) (by omega) dn d1 kf d4 hf (l.length : Int) (by omega) (by omega)).mono ?_
    rintro e w' ⟨rfl, ho, hc⟩
    exact ⟨rfl, StP.comp a2 a3 ((m2.opS ho hc).pre (Chg.refl Nil w4).drew), hc⟩
  · exact hq.laid SS hW (fun hh => by have := hU b hh; omega) b1 b2 hc
  · rintro e w' ⟨rfl, hp⟩
    exact ⟨_, rfl, AnP.of hp⟩
/-- Where a name leads: a directory. -/
theorem MaS.folder {w : World} {U : Nat → Prop} {P : MaP} {Y : MaY} {FF : Nat → Prop} {X : FX} {Rm Rc : Nat → Prop} {ca : Option Addr} {cc : Nat} {ma : Option Addr} {mc : Nat} {pl : Nat → Pe} {hd : Nat → Value} {ts : Nat → Nat → Value} (h : MaS w U P Y FF X Rm Rc ca cc ma mc pl hd ts) (l : List UInt8) (hl : NmL l) (y : Way) (L : Nat → List En) (hy : WayM Y.M Y.ms l y 0 L) (hy0 : y.S 0 = [1]) (tn : Nat) (htn : (y.S l.length).getLast? = some tn) (t1 : 1 ≤ tn) (t2 : tn ≤ 32) (hkd : (Y.M (tn - 1)).kd = 2) :
    Calls Tryz.prog 166 #[.pointer (some ⟨P.pk, 0, none⟩), .int .i64 1, .string (nmB l)] w fun e w' => e = .returned (.tuple #[.int .i64 (tn : Int), .int .i64 0]) ∧ Chg Nil w w' := by
  have := kwalkm_0 h.kmn l hl y L hy hy0 tn htn t1 t2 (by rw [hkd]; decide)
  rw [hkd] at this
  exact kfolder_ok (nmB l) (y.S l.length) tn htn (hy.len _ (Nat.le_refl _)) _ _ _ this
def MaY.mount (Y : MaY) (ms : List Mn) : MaY := { Y with ms := ms, z := false }
theorem mt_mount {w : World} {U : Nat → Prop} {P : MaP} {Y : MaY} (h : MaA P Y w U) (hz : Y.z = true) (hms : Y.ms = []) (m : Mn) (hs : MoS [m]) (ya yb : Way) (La Lb : Nat → List En) (hya : WayM Y.M Y.ms [97] ya 0 La) (hyb : WayM Y.M Y.ms [98] yb 0 Lb) (ha0 : ya.S 0 = [1]) (hb0 : yb.S 0 = [1]) (hta : (ya.S 1).getLast? = some m.a) (htb : (yb.S 1).getLast? = some m.r) (hka : (Y.M (m.a - 1)).kd = 2) (hkb : (Y.M (m.r - 1)).kd = 2) (b1 : 1 ≤ m.a ∧ m.a ≤ 32) (b2 : 1 ≤ m.r ∧ m.r ≤ 32) :
    KCallA 5 #[.pointer (some ⟨P.pk, 0, none⟩), .int .i64 1, .agg #[.int .i64 27, .int .i64 0, .int .i64 0, .int .i64 0, .string ⟨#[97]⟩, .string ⟨#[98]⟩, .slice none 0 0]] w U (MaA P (Y.mount [m])) 0 0 0 [] := by
  refine mask_ok (MaA.sta _ _) w U P Y h 27 0 0 0 0 0 0 ⟨#[97]⟩ ⟨#[98]⟩ (.slice none 0 0) [] (fun w1 c1 => ?_)
  have h1 := h.nil c1
  refine sdo_named (MaA.sta _ _) w1 U ((MaA.sta P Y).lt h1) P.pk 27 0 0 0 0 0 0 ⟨#[97]⟩ ⟨#[98]⟩ (.slice none 0 0) [] (.inr (.inl rfl)) (fun w2 c2 => ?_)
  have h2 := h1.nil c2
  refine snamed_ok (MaA.sta _ _) w2 U ((MaA.sta P Y).lt h2) P.pk 27 0 0 0 ⟨#[97]⟩ ⟨#[98]⟩ (.slice none 0 0) 87 (.inr (.inl ⟨rfl, rfl⟩)) (fun w3 c3 => ?_)
  obtain ⟨FF, X, Rm, Rc, ca, cc, ma, mc, pl, hd', ts, h3⟩ := h2.nil c3
  obtain ⟨rfl, rfl⟩ := h3.mz hz
  have hk := h3.kmc
  rw [hms] at hk
  refine (kseen_mount hk (fun W hW => Blk.frozen (h3.nil hW).kn 64) ⟨#[97]⟩ ⟨#[98]⟩ m hs (fun W hW => (h3.nil hW).folder [97] (.inl rfl) ya La hya ha0 m.a hta b1.1 b1.2 hka) (fun W hW => (h3.nil hW).folder [98] (.inr (.inl rfl)) yb Lb hyb hb0 m.r htb b2.1 b2.2 hkb)).mono ?_
  rintro e w' ⟨rfl, W, a, c, G, hW, s, gg, rfl⟩
  exact ⟨rfl, h3.moS hW [m] hs a c (Opt G) s.rd (fun g hg => ⟨gg g hg, s.lt g hg⟩)⟩
theorem mt_leave {w : World} {U : Nat → Prop} {P : MaP} {Y : MaY} (h : MaA P Y w U) (m : Mn) (hms : Y.ms = [m]) (ya : Way) (La : Nat → List En) (hya : WayM Y.M Y.ms [97] ya 0 La) (ha0 : ya.S 0 = [1]) (hta : (ya.S 1).getLast? = some m.r) (hka : (Y.M (m.r - 1)).kd = 2) (b2 : 1 ≤ m.r ∧ m.r ≤ 32) :
    KCallA 5 #[.pointer (some ⟨P.pk, 0, none⟩), .int .i64 1, .agg #[.int .i64 28, .int .i64 0, .int .i64 0, .int .i64 0, .string ⟨#[97]⟩, .string ⟨#[]⟩, .slice none 0 0]] w U (MaA P (Y.mount [])) 0 0 0 [] := by
  refine mask_ok (MaA.sta _ _) w U P Y h 28 0 0 0 0 0 0 ⟨#[97]⟩ ⟨#[]⟩ (.slice none 0 0) [] (fun w1 c1 => ?_)
  have h1 := h.nil c1
  refine sdo_named (MaA.sta _ _) w1 U ((MaA.sta P Y).lt h1) P.pk 28 0 0 0 0 0 0 ⟨#[97]⟩ ⟨#[]⟩ (.slice none 0 0) [] (.inr (.inr rfl)) (fun w2 c2 => ?_)
  have h2 := h1.nil c2
  refine snamed_ok (MaA.sta _ _) w2 U ((MaA.sta P Y).lt h2) P.pk 28 0 0 0 ⟨#[97]⟩ ⟨#[]⟩ (.slice none 0 0) 87 (.inr (.inr ⟨rfl, rfl⟩)) (fun w3 c3 => ?_)
  obtain ⟨FF, X, Rm, Rc, ca, cc, ma, mc, pl, hd', ts, h3⟩ := h2.nil c3
  have hk := h3.kmc
  have hmt := h3.mt
  have hms' := h3.ms
  rw [hms] at hk hmt hms'
  refine (kseen_leave hk (fun W hW => Blk.frozen (h3.nil hW).kn 64) ⟨#[97]⟩ m hms' Rm hmt (fun W hW => (h3.nil hW).folder [97] (.inl rfl) ya La hya ha0 m.r hta b2.1 b2.2 hka)).mono ?_
  rintro e w' ⟨rfl, W, a, c, hW, hc, rfl⟩
  exact ⟨rfl, h3.moS hW [] (.inl rfl) a c Nil (Rd.of_none _ _ _ _ _ hc) (fun g hg => hg.elim)⟩
end Go.Proofs.YtdcbagmgflcemaaGreatDoor
namespace Go.Proofs.YtdcbagmgflcemaaGreatDoor
open Go.ChangeShapes Go.WideShapes Go.ChangeAt Go.RowKit
set_option linter.unusedVariables false
def fmZ : FM := ⟨0, 0, 0, 0, 0, 0, []⟩
/-- The files of a new file system: the root alone. -/
def fm0 (j : Nat) : FM := if j = 0 then ⟨2, 493, 0, 1, 1, 0, []⟩ else fmZ
def fx0 (a : Option Addr) (c : Nat) : FX := ⟨ns0, a, c, 0, fun _ => none, fun _ => none⟩
def maY0 : MaY := ⟨fm0, 0, fun _ => 0, [], fun _ => flZ, fun _ _ => 0, true⟩
theorem hdV_zero : hdV (fun _ => 0) = fun _ => none := by
  funext i
  unfold hdV
  rw [if_neg (fun h => h.2.2 rfl)]
theorem ns0_pt (k : Nat) : (ns0 k).pt = 0 := by unfold ns0; split <;> rfl
theorem xm0 (a : Option Addr) (c : Nat) (zs : List Int) : XM (fx0 a c) zs fm0 := by
  refine ⟨fun k hk => ?_, fun k hk => ?_, fun k hk => .inl ?_, fun j k hj hk hne => .inl ?_⟩
  · show FMn (ns0 k) (fm0 k)
    unfold ns0 fm0
    split
    · exact ⟨rfl, rfl, rfl, rfl, rfl, rfl⟩
    · exact ⟨rfl, rfl, rfl, rfl, rfl, rfl⟩
  · show entB (fx0 a c) zs (ns0 k) = (fm0 k).b
    unfold entB
    rw [if_pos (ns0_pt k)]
    unfold fm0
    split <;> rfl
  · unfold fm0
    split <;> rfl
  · unfold fm0
    split <;> rfl
/-- What Mount leaves, as a file system in use. -/
theorem fsa0 {w : World} {F FF : Nat → Prop} {f p q : Nat} {a : Option Addr} {c : Nat} {G : Option Nat} {bt bh : Nat} {zs : List Int} (N : FsN w f p q a c G bt bh) (hD : DkAt w F p 256 zs 0) (hz : NewZ 256 zs) (hF : ∀ k, F k → FF k ∧ k < bt) (h1 : bh = bt + 1) (h2 : f = bt + 1 + 1) (h3 : q < bt) (hG : ∀ g, G = some g → FF g ∧ g < bt) (i1 : FF f) (i2 : FF bt) (i3 : FF bh) (i4 : FF q) (hlt : ∀ k, FF k → k < w.heap.size) :
    FsA w FF F f p q bt bh zs (fx0 a c) := by
  have hn := N.nodes.rd
  rw [ns0_cells] at hn
  refine ⟨by rw [show (fx0 a c).m = 0 from rfl, foM_zero]; exact N.blk, N.log, hD, hz, hn.mono (fun g hg => ?_), fun i hi => .inl ?_, fun i hi => ?_, N.todo.mono (by omega), fun k s hs => (by cases hs), fun k hk => (by cases hk), N.held.mono (by omega), Nat.zero_le _, ⟨i1, i2, i3⟩, ⟨i4, by omega, by omega, by omega⟩, fun k hk => ?_, ⟨by omega, by omega, by omega⟩, hlt⟩
  · obtain ⟨g1, g2⟩ := hG g hg
    exact ⟨g1, by omega, by omega, by omega⟩
  · show (ns0 i).pt = 0 ∧ (ns0 i).pa = none ∧ (ns0 i).pc = 0
    unfold ns0
    split <;> exact ⟨rfl, rfl, rfl⟩
  · show NdOk (ns0 i)
    unfold ns0
    split
    · exact .inr ⟨.inr ⟨rfl, by decide, by decide⟩, by decide, by decide, by decide, by decide, by decide⟩
    · exact .inl rfl
  · obtain ⟨k1, k2⟩ := hF k hk
    exact ⟨k1, by omega, by omega, by omega⟩
theorem ma0_of {w' : World} {F FF : Nat → Prop} {B pk pm pf pp pr pw po pc pq p q bt bh : Nat} {FM FP FR FW : Nat → Prop} {X : KX} {zs : List Int} {a : Option Addr} {c : Nat} (h : KSy w' B pk pm pf pp pr pw po pc pq FM FP FR FW X) (hfl : X.fl = fun _ => flZ) (hfd : X.fd = fun _ _ => 0) (hcw : X.cw = true) (hpl : (X.pl 1).state = 1) (ht : TsA X.ts 1 1) (u0 : X.ts 1 11 = .int .i64 0) (u1 : X.ts 1 12 = .int .i64 0) (u2 : X.ts 1 13 = .slice none 0 0) (u3 : X.ts 1 14 = .int .i64 127) (u4 : X.ts 1 15 = .int .i64 0) (u5 : X.ts 1 16 = .int .i64 0) (mo : X.ts 1 18 = .slice none 0 0)
    (hf : FsA w' FF F pf p q bt bh zs (fx0 a c)) (n1 : ¬ FF pk) (n2 : ¬ FF po) (n3 : ¬ FF pc) (n4 : ¬ FF pq) (hFF : ∀ k, FF k → F k ∨ B ≤ k) : ∃ U, MaA ⟨pk, pf, po, pc, p, q, bt, bh, F, zs⟩ maY0 w' U ∧ ∀ k, U k → F k ∨ B ≤ k := by
  have sep := h.sep
  rw [hcw] at sep
  have op := h.op
  rw [hfl, hfd] at op
  have bq := h.cw hcw
  have e05 : pk ≠ po := fun hh => sep.dj 0 5 rfl rfl (by omega) pk rfl hh
  have e06 : pk ≠ pc := fun hh => sep.dj 0 6 rfl rfl (by omega) pk rfl hh
  have e56 : po ≠ pc := fun hh => sep.dj 5 6 rfl rfl (by omega) po rfl hh
  have e70 : pq ≠ pk := fun hh => sep.dj 7 0 rfl rfl (by omega) pq ⟨rfl, rfl⟩ hh
  have e75 : pq ≠ po := fun hh => sep.dj 7 5 rfl rfl (by omega) pq ⟨rfl, rfl⟩ hh
  have e76 : pq ≠ pc := fun hh => sep.dj 7 6 rfl rfl (by omega) pq ⟨rfl, rfl⟩ hh
  have cw : Rd w' (One pq) 1 (some ⟨pq, 0, none⟩) 1 1 [.int .i64 1] := Rd.of_blk bq rfl (by decide)
  refine ⟨fun k => FF k ∨ k = pk ∨ k = po ∨ k = pc ∨ k = pq, ⟨FF, fx0 a c, Nil, One pq, some ⟨pq, 0, none⟩, 1, none, 0, X.pl, hdK pm pf pp pr pw po pc, X.ts, h.kn, rfl, rfl, rfl, ht, u0, u1, u2, u3, u4, u5, h.cd hcw, mo, hf, xm0 a c zs, rfl, hdV_zero.symm, fun _ => ⟨rfl, rfl⟩, Rd.of_none _ _ _ _ _ (Nat.zero_le _), .inl rfl, cw, op, h.pr, hpl, ⟨e05, e06, e56⟩, ⟨n1, n2, n3⟩, fun k hk => hk.elim, fun k hk => ?_, fun k hk => .inl hk, ⟨.inr (.inl rfl), .inr (.inr (.inl rfl)), .inr (.inr (.inr (.inl rfl)))⟩, fun k hk => hk.elim, fun k hk => .inr (.inr (.inr (.inr hk))), fun k hk => ?_⟩, fun k hk => ?_⟩
  · obtain rfl : k = pq := hk
    exact ⟨n4, e70, e75, e76⟩
  · rcases hk with hk | rfl | rfl | rfl | rfl
    · exact hf.lt k hk
    · exact Blk.lt h.kn
    · exact Blk.lt h.op
    · exact Blk.lt h.pr
    · exact bq.lt
  · rcases hk with hk | rfl | rfl | rfl | rfl
    · exact hFF k hk
    · exact .inr (sep.ge 0 rfl _ rfl)
    · exact .inr (sep.ge 5 rfl _ rfl)
    · exact .inr (sep.ge 6 rfl _ rfl)
    · exact .inr (sep.ge 7 rfl _ ⟨rfl, rfl⟩)
set_option maxRecDepth 100000 in
set_option maxHeartbeats 4000000 in
theorem kstartf_ok (w : World) (F : Nat → Prop) (p : Nat) (zs : List Int) (hD : DkAt w F p 256 zs 0) (hz : NewZ 256 zs) :
    Calls Tryz.prog 12 #[.int .i64 1, .int .i64 64, .int .i64 64, .pointer (some ⟨p, 0, none⟩)] w fun e w' => ∃ P U, e = .returned (.tuple #[.pointer (some ⟨P.pk, 0, none⟩), .int .i64 0]) ∧ MaA P maY0 w' U ∧ Chg Nil w w' ∧ ∀ k, U k → F k ∨ w.heap.size ≤ k := by
  have HK := hid (fun w' (hc : Chg Nil w w') => mount_ok w' F p 256 zs 0 (hD.nil hc) (by omega) hz)
  have HD0 := hid (And.intro hD hz)
  clear hD hz
  go_enter Tryz.func12, Tryz.ntmps12
  go_wp2_with fail
  refine (pinew_ok w).mono ?_
  rintro e w1 ⟨rfl, P1, c1⟩
  replace P1 := hid P1
  go_wp2_with fail
  refine (wnew_ok 0 w1).mono ?_
  rintro e w2 ⟨FW, pw, rfl, W2, c2, gw⟩
  have C2 := c1.trans c2 (fun _ _ h => h)
  replace W2 := hid W2
  go_wp2_with fail
  refine (opnew_ok w2).mono ?_
  rintro e w3 ⟨rfl, O3, c3⟩
  have C3 := C2.trans c3 (fun _ _ h => h)
  replace O3 := hid O3
  go_wp2_with fail
  refine (prnew_ok w3).mono ?_
  rintro e w4 ⟨rfl, R4, c4⟩
  have C4 := hid (C3.trans c4 (fun _ _ h => h))
  replace R4 := hid R4
  clear C2 C3
  have KE : ((((Tryz.zeroCells71.setIfInBounds 0 (.int .i64 1)).setIfInBounds 3 (.pointer (some ⟨w.heap.size, 0, none⟩))).setIfInBounds 5 (.pointer (some ⟨pw, 0, none⟩))).setIfInBounds 6 (.pointer (some ⟨w2.heap.size, 0, none⟩))).setIfInBounds 7 (.pointer (some ⟨w3.heap.size, 0, none⟩)) = (tab 655 (knV (updH (updH (updH (updH (updH hdZ 0 (.int .i64 1)) 3 (.pointer (some ⟨w.heap.size, 0, none⟩))) 5 (.pointer (some ⟨pw, 0, none⟩))) 6 (.pointer (some ⟨w2.heap.size, 0, none⟩))) 7 (.pointer (some ⟨w3.heap.size, 0, none⟩))) (fun _ => tkZ))).toArray := by
    rw [kn_zero]
    simp only [List.setIfInBounds_toArray]
    rw [kn_set (by omega), kn_set (by omega), kn_set (by omega), kn_set (by omega), kn_set (by omega)]
  obtain ⟨hd1, hhd1⟩ : ∃ hd1, hd1 = (updH (updH (updH (updH (updH hdZ 0 (.int .i64 1)) 3 (.pointer (some ⟨w.heap.size, 0, none⟩))) 5 (.pointer (some ⟨pw, 0, none⟩))) 6 (.pointer (some ⟨w2.heap.size, 0, none⟩))) 7 (.pointer (some ⟨w3.heap.size, 0, none⟩))) := ⟨_, rfl⟩
  rw [← hhd1] at KE
  have K4 : KnAt (w4.alloc (.cells (tab 655 (knV hd1 (fun _ => tkZ))).toArray 71)) w4.heap.size hd1 (fun _ => tkZ) := Blk.new w4 _ _
  have C5 := hid (C4.out.alloc (.cells (tab 655 (knV hd1 (fun _ => tkZ))).toArray 71))
  have S4 := hid C4.out.size
  replace K4 := hid K4
  replace KE := hid KE
  replace hhd1 := hid hhd1
  go_wp2_with fail
  rw [KE.out]
  refine (snew_ok _ 1 (by omega) (by omega)).mono ?_
  rintro e w5 ⟨FR, pr, rfl, N5, c5, gr⟩
  have K5 := K4.out.chg c5 (fun h => h)
  have k4 := K5.h (i := 4) (by omega)
  have f4 := Blk.frozen K5 4
  have K6 := K5.setH (i := 4) (by omega) (.pointer (some ⟨pr, 0, none⟩))
  have dk : Chg (One w4.heap.size) w5 (w5.setCell ⟨w4.heap.size, 4, none⟩ (.pointer (some ⟨pr, 0, none⟩))) := (Chg.refl (One w4.heap.size) w5).setCell (p := ⟨w4.heap.size, 4, none⟩) (.inl (show One w4.heap.size w4.heap.size from rfl)) _
  have c45 : Chg Nil w4 w5 := ((Chg.refl Nil w4).alloc (.cells (tab 655 (knV hd1 (fun _ => tkZ))).toArray 71)).trans c5 (fun _ _ h => h)
  have c46 : Chg Nil w4 (w5.setCell ⟨w4.heap.size, 4, none⟩ (.pointer (some ⟨pr, 0, none⟩))) := c45.one (.inr (Nat.le_refl _)) dk
  have C6 := hid (C4.out.trans c46 (fun _ _ h => h))
  have P6 := hid (Blk.chg P1.out (((c2.trans c3 (fun _ _ h => h)).trans c4 (fun _ _ h => h)).trans c46 (fun _ _ h => h)) (fun h => h))
  have W6 := hid (W2.out.chg ((c3.trans c4 (fun _ _ h => h)).trans c46 (fun _ _ h => h)) (fun _ _ h => h))
  have O6 := hid (O3.out.chg (c4.trans c46 (fun _ _ h => h)) (fun h => h))
  have R6 := hid (R4.out.chg c46 (fun h => h))
  have grk : ∀ k, FR k → w4.heap.size < k := fun k hk => by
    rcases gr k hk with h | h
    · exact h.elim
    · rw [alloc_size] at h; omega
  have N6 := hid (N5.chg dk (fun k hk hh => by have := grk k hk; rw [show k = w4.heap.size from hh] at this; omega))
  have sz1 := c1.size
  have sz2 := c2.size
  have sz3 := c3.size
  have sz4 := c4.size
  have ltP := P1.out.lt
  have ltW := W2.out.lt
  have ltO := Blk.lt O3.out
  have ltR := Blk.lt R4.out
  have ltK := Blk.lt K5
  have gwk : ∀ k, FW k → w1.heap.size ≤ k := fun k hk => by
    rcases gw k hk with h | h
    · exact h.elim
    · exact h
  have c5s := c5.size
  have dks := dk.size
  have SEP : Sep w.heap.size (w5.setCell ⟨w4.heap.size, 4, none⟩ (.pointer (some ⟨pr, 0, none⟩))).heap.size (kFs w4.heap.size w2.heap.size w3.heap.size 0 false Nil (One w.heap.size) FR FW) := by
    have ltN := N5.lt
    refine ⟨fun i F k hi hk => ?_, fun i j F G hne hi hj k hF hG => ?_⟩
    · match i with
      | 0 => injection hi with hi; subst hi; rw [show k = w4.heap.size from hk]; omega
      | 1 => injection hi with hi; subst hi; exact hk.elim
      | 2 => injection hi with hi; subst hi; rw [show k = w.heap.size from hk]; omega
      | 3 => injection hi with hi; subst hi; have := grk k hk; have := ltN k hk; omega
      | 4 => injection hi with hi; subst hi; have := gwk k hk; have := ltW k hk; omega
      | 5 => injection hi with hi; subst hi; rw [show k = w2.heap.size from hk]; omega
      | 6 => injection hi with hi; subst hi; rw [show k = w3.heap.size from hk]; omega
      | 7 => injection hi with hi; subst hi; exact absurd hk.1 (by decide)
      | i + 8 => simp [kFs] at hi
    · have key : ∀ (i : Nat) (F : Nat → Prop), (kFs w4.heap.size w2.heap.size w3.heap.size 0 false Nil (One w.heap.size) FR FW)[i]? = some F → F k → (i = 0 ∧ k = w4.heap.size) ∨ (i = 2 ∧ k = w.heap.size) ∨ (i = 3 ∧ w4.heap.size < k) ∨ (i = 4 ∧ w1.heap.size ≤ k ∧ k < w2.heap.size) ∨ (i = 5 ∧ k = w2.heap.size) ∨ (i = 6 ∧ k = w3.heap.size) := fun i F hi hk => by
        match i with
        | 0 => injection hi with hi; subst hi; exact .inl ⟨rfl, hk⟩
        | 1 => injection hi with hi; subst hi; exact hk.elim
        | 2 => injection hi with hi; subst hi; exact .inr (.inl ⟨rfl, hk⟩)
        | 3 => injection hi with hi; subst hi; exact .inr (.inr (.inl ⟨rfl, grk k hk⟩))
        | 4 => injection hi with hi; subst hi; exact .inr (.inr (.inr (.inl ⟨rfl, gwk k hk, ltW k hk⟩)))
        | 5 => injection hi with hi; subst hi; exact .inr (.inr (.inr (.inr (.inl ⟨rfl, hk⟩))))
        | 6 => injection hi with hi; subst hi; exact .inr (.inr (.inr (.inr (.inr ⟨rfl, hk⟩))))
        | 7 => injection hi with hi; subst hi; exact absurd hk.1 (by decide)
        | i + 8 => simp [kFs] at hi
      have h1 := key i F hi hF
      have h2 := key j G hj hG
      omega
  replace SEP := hid SEP
  replace K6 := hid K6
  have hk4 : w.heap.size ≤ w4.heap.size := by omega
  clear dk c45 c46 gr grk sz1 sz2 sz3 sz4 ltP ltW ltO ltR ltK gwk c5s dks c1 c2 c3 c4 c5 N5 K5 P1 W2 O3 R4 gw K4 KE C5 C4 S4
  generalize w4.heap.size = pk at *
  generalize w2.heap.size = po at *
  generalize w3.heap.size = pc at *
  go_wp2_with fail
  generalize w5.setCell ⟨pk, 4, none⟩ (.pointer (some ⟨pr, 0, none⟩)) = V6 at *
  clear k4 f4
  refine (spbnew_ok V6).mono ?_
  rintro e w7 ⟨FM, pm, rfl, M7, hpm, c7, gm⟩
  have K7 := K6.out.chg c7 (fun h => h)
  have k1 := K7.h (i := 1) (by omega)
  have f1 := Blk.frozen K7 1
  have K8 := K7.setH (i := 1) (by omega) (.pointer (some ⟨pm, 0, none⟩))
  have lk : pk < V6.heap.size := Blk.lt K6.out
  have gmk : ∀ k, FM k → V6.heap.size ≤ k := fun k hk => by
    rcases gm k hk with h | h
    · exact h.elim
    · exact h
  have d8 : Chg (One pk) w7 (w7.setCell ⟨pk, 1, none⟩ (.pointer (some ⟨pm, 0, none⟩))) := (Chg.refl (One pk) w7).setCell (p := ⟨pk, 1, none⟩) (.inl (show One pk pk from rfl)) _
  have S7 := SEP.out.upd (N' := w7.heap.size) (F' := FM) 1 (F := Nil) rfl (fun k hk => .inr (gmk k hk)) M7.lt c7.size C6.out.size
  have M8 := hid (M7.chg d8 (fun k hk hh => by have := gmk k hk; rw [show k = pk from hh] at this; omega))
  have djk : ∀ (i : Nat) (F : Nat → Prop), i ≠ 0 → (kFs pk po pc 0 false FM (One w.heap.size) FR FW)[i]? = some F → Dj F (One pk) := fun i F hne hi => S7.dj i 0 hi rfl hne
  have P8 := hid ((P6.out.chg c7 (fun h => h)).chg d8 (djk 2 _ (by omega) rfl w.heap.size rfl))
  have N8 := hid ((N6.out.chg c7 (fun _ _ h => h)).chg d8 (djk 3 _ (by omega) rfl))
  have W8 := hid ((W6.out.chg c7 (fun _ _ h => h)).chg d8 (djk 4 _ (by omega) rfl))
  have O8 := hid ((O6.out.chg c7 (fun h => h)).chg d8 (djk 5 _ (by omega) rfl po rfl))
  have R8 := hid ((R6.out.chg c7 (fun h => h)).chg d8 (djk 6 _ (by omega) rfl pc rfl))
  have C8 := hid ((C6.out.trans c7 (fun _ _ h => h)).one (.inr hk4) d8)
  have S8 := hid (S7.grow d8.size)
  replace K8 := hid K8
  clear K7 M7 S7 djk d8 c7 gm gmk lk P6 N6 W6 O6 R6 C6 SEP K6
  go_wp2_with fail
  generalize w7.setCell ⟨pk, 1, none⟩ (.pointer (some ⟨pm, 0, none⟩)) = V8 at *
  clear k1 f1
  refine (HK.out V8 C8.out).mono ?_
  rintro e w9 ⟨f, q, a, c, G, bt, bh, rfl, N9, c9, hvf, hvq, hvb, hbh, hft, hqb, hgb⟩
  have hwV : w.heap.size ≤ V8.heap.size := C8.out.size
  have hFF : FsA w9 (fun k => F k ∨ (V8.heap.size ≤ k ∧ k < w9.heap.size)) F f p q bt bh zs (fx0 a c) := by
    have hD9 := HD0.out.1.nil (C8.out.trans c9 (fun _ _ h => h))
    have hl := HD0.out.1.lt
    have lf := Blk.lt N9.blk
    have hcs := c9.size
    refine fsa0 N9 hD9 HD0.out.2 (fun k hk => ⟨.inl hk, by have := hl k hk; omega⟩) hbh hft hqb (fun g hg => ⟨.inr ⟨(hgb g hg).1, by have := (hgb g hg).2; omega⟩, (hgb g hg).2⟩) (.inr ⟨by omega, lf⟩) (.inr ⟨hvb, by omega⟩) (.inr ⟨by omega, by omega⟩) (.inr ⟨hvq, by omega⟩) (fun k hk => ?_)
    rcases hk with hk | hk
    · have := hl k hk; omega
    · exact hk.2
  obtain ⟨FF, hFFe⟩ : ∃ FF : Nat → Prop, FF = fun k => F k ∨ (V8.heap.size ≤ k ∧ k < w9.heap.size) := ⟨_, rfl⟩
  rw [← hFFe] at hFF
  have HFi : Hid (∀ k, FF k → F k ∨ (V8.heap.size ≤ k ∧ k < w9.heap.size)) := hid (by rw [hFFe]; exact fun _ h => h)
  have HFn : Hid (∀ k, FF k → k < w.heap.size ∨ (V8.heap.size ≤ k ∧ k < w9.heap.size)) := hid (fun k hk => by
    rcases HFi.out k hk with h1 | h1
    · exact .inl (HD0.out.1.lt k h1)
    · exact .inr h1)
  have fpk : ¬ FF pk := fun hh => by
    have h1 := Blk.lt K8.out
    have h2 := S8.out.ge 0 rfl pk rfl
    rcases HFn.out pk hh with h3 | h3 <;> omega
  have fpo : ¬ FF po := fun hh => by
    have h1 := Blk.lt O8.out
    have h2 := S8.out.ge 5 rfl po rfl
    rcases HFn.out po hh with h3 | h3 <;> omega
  have fpc : ¬ FF pc := fun hh => by
    have h1 := Blk.lt R8.out
    have h2 := S8.out.ge 6 rfl pc rfl
    rcases HFn.out pc hh with h3 | h3 <;> omega
  have fFM : Dj FF FM := fun k h1 h2 => by
    have h3 := M8.out.lt k h2
    have h4 := S8.out.ge 1 rfl k h2
    rcases HFn.out k h1 with h5 | h5 <;> omega
  have fFR : Dj FF FR := fun k h1 h2 => by
    have h3 := N8.out.lt k h2
    have h4 := S8.out.ge 3 rfl k h2
    rcases HFn.out k h1 with h5 | h5 <;> omega
  have X9 := hid hFF
  have hwV8 := hid C8.out.size
  have hkw9 := hid (Nat.le_trans C8.out.size c9.size)
  clear hFF hFFe N9 hvf hvq hvb hbh hft hqb hgb hwV
  replace fpk := hid fpk
  replace fpo := hid fpo
  replace fpc := hid fpc
  replace fFM := hid fFM
  replace fFR := hid fFR
  have K9 := K8.out.chg c9 (fun h => h)
  have k2 := K9.h (i := 2) (by omega)
  have f2 := Blk.frozen K9 2
  have K10 := K9.setH (i := 2) (by omega) (.pointer (some ⟨f, 0, none⟩))
  have d10 : Chg (One pk) w9 (w9.setCell ⟨pk, 2, none⟩ (.pointer (some ⟨f, 0, none⟩))) := (Chg.refl (One pk) w9).setCell (p := ⟨pk, 2, none⟩) (.inl (show One pk pk from rfl)) _
  have sz9 := hid d10.size
  have X10 := hid (X9.out.chg d10 (fun k hk hh => fpk.out (by rw [← show k = pk from hh]; exact hk)))
  have S9 := S8.out.grow c9.size
  have djk : ∀ (i : Nat) (F : Nat → Prop), i ≠ 0 → (kFs pk po pc 0 false FM (One w.heap.size) FR FW)[i]? = some F → Dj F (One pk) := fun i F hne hi => S9.dj i 0 hi rfl hne
  have K11 : KnAt (w9.setCell ⟨pk, 2, none⟩ (.pointer (some ⟨f, 0, none⟩))) pk (hdK pm f w.heap.size pr pw po pc) (fun _ => tkZ) := K10.hdEq (fun i hi => by
    rw [hhd1.out]
    obtain rfl | rfl | rfl | rfl | rfl | rfl | rfl | rfl : i = 0 ∨ i = 1 ∨ i = 2 ∨ i = 3 ∨ i = 4 ∨ i = 5 ∨ i = 6 ∨ i = 7 := by omega
    all_goals rfl)
  have lP := P8.out.lt
  have C10 := hid ((C8.out.trans c9 (fun _ _ h => h)).one (.inr hk4) d10)
  have h10 : KSy (w9.setCell ⟨pk, 2, none⟩ (.pointer (some ⟨f, 0, none⟩))) w.heap.size pk pm f w.heap.size pr pw po pc 0 FM (One w.heap.size) FR FW ⟨0, fun _ => false, none, ⟨1, 0, 0, []⟩, fun _ => flZ, fun _ _ => 0, updF (fun _ => peZ) 1 ⟨1, 0, 1, 0⟩, fun _ => tkZ, false⟩ :=
    ⟨K11, (M8.out.chg c9 (fun _ _ h => h)).chg d10 (djk 1 _ (by omega) rfl), ⟨(P8.out.chg c9 (fun h => h)).chg d10 (djk 2 _ (by omega) rfl w.heap.size rfl), rfl, fun k hk => by rw [show k = w.heap.size from hk]; have := c9.size; have := d10.size; omega⟩, (N8.out.chg c9 (fun _ _ h => h)).chg d10 (djk 3 _ (by omega) rfl), (W8.out.chg c9 (fun _ _ h => h)).chg d10 (djk 4 _ (by omega) rfl), (O8.out.chg c9 (fun h => h)).chg d10 (djk 5 _ (by omega) rfl po rfl), (R8.out.chg c9 (fun h => h)).chg d10 (djk 6 _ (by omega) rfl pc rfl), fun hh => (by cases hh), fun hh => (by cases hh), S9.grow d10.size, C10.out.size⟩
  clear X9 K10 K11 djk S9 K9 d10 M8 P8 N8 W8 O8 R8 C8 S8 K8 lP HK hhd1
  have k1 : (w9.setCell ⟨pk, 2, none⟩ (.pointer (some ⟨f, 0, none⟩))).cell? ⟨pk, 1, none⟩ = some (.pointer (some ⟨pm, 0, none⟩)) := h10.kn.h (i := 1) (by omega)
  replace h10 := hid h10
  go_wp2_with fail
  generalize w9.setCell ⟨pk, 2, none⟩ (.pointer (some ⟨f, 0, none⟩)) = V10 at *
  clear k2 f2
  refine (spbmake_ok V10 FM pm 0 _ h10.out.sp (by omega) 1 (by omega) (by omega) rfl (fun j h1 h2 => absurd h1 (by omega))).mono ?_
  rintro e w11 ⟨rfl, FM', s11, c11, g11⟩
  have X11 := hid (X10.out.chg c11 fFM.out)
  have sz11 := hid (Nat.le_trans sz9.out c11.size)
  clear X10
  have h11 := h10.out.upSp s11 c11 g11
  have C11 := C10.out.trans c11 (fun k hk hF => by have := h10.out.ge 1 rfl k hF; omega)
  have k4 : w11.cell? ⟨pk, 4, none⟩ = some (.pointer (some ⟨pr, 0, none⟩)) := h11.kn.h (i := 4) (by omega)
  have m0 : w11.cell? ⟨pk, 46, none⟩ = some (.int .i64 0) := h11.kn.t (q := 1) (j := 0) (by omega) (by omega)
  have n0 := Blk.frozen h11.kn 46
  have m10 : w11.cell? ⟨pk, 56, none⟩ = some (.int .i64 0) := h11.kn.t (q := 1) (j := 10) (by omega) (by omega)
  have n10 := Blk.frozen h11.kn 56
  have m11 : w11.cell? ⟨pk, 57, none⟩ = some (.int .i64 0) := h11.kn.t (q := 1) (j := 11) (by omega) (by omega)
  have n11 := Blk.frozen h11.kn 57
  have m12 : w11.cell? ⟨pk, 58, none⟩ = some (.int .i64 0) := h11.kn.t (q := 1) (j := 12) (by omega) (by omega)
  have n12 := Blk.frozen h11.kn 58
  have m13 : w11.cell? ⟨pk, 59, none⟩ = some (.slice none 0 0) := h11.kn.t (q := 1) (j := 13) (by omega) (by omega)
  have n13 := Blk.frozen h11.kn 59
  have m14 : w11.cell? ⟨pk, 60, none⟩ = some (.int .i64 0) := h11.kn.t (q := 1) (j := 14) (by omega) (by omega)
  have n14 := Blk.frozen h11.kn 60
  have m15 : w11.cell? ⟨pk, 61, none⟩ = some (.int .i64 0) := h11.kn.t (q := 1) (j := 15) (by omega) (by omega)
  have n15 := Blk.frozen h11.kn 61
  have m16 : w11.cell? ⟨pk, 62, none⟩ = some (.int .i64 0) := h11.kn.t (q := 1) (j := 16) (by omega) (by omega)
  have n16 := Blk.frozen h11.kn 62
  have m17 : w11.cell? ⟨pk, 63, none⟩ = some (.slice none 0 0) := h11.kn.t (q := 1) (j := 17) (by omega) (by omega)
  have n17 := Blk.frozen h11.kn 63
  have A0 := KnAt.setT (q := 1) (j := 0) h11.kn (by omega) (by omega) (.int .i64 1)
  have A1 := KnAt.setT (q := 1) (j := 10) A0 (by omega) (by omega) (.int .i64 1)
  have A2 := KnAt.setT (q := 1) (j := 11) A1 (by omega) (by omega) (.int .i64 0)
  have A3 := KnAt.setT (q := 1) (j := 12) A2 (by omega) (by omega) (.int .i64 0)
  have A4 := KnAt.setT (q := 1) (j := 13) A3 (by omega) (by omega) (.slice none 0 0)
  have A5 := KnAt.setT (q := 1) (j := 14) A4 (by omega) (by omega) (.int .i64 127)
  have A6 := KnAt.setT (q := 1) (j := 15) A5 (by omega) (by omega) (.int .i64 0)
  have A7 := KnAt.setT (q := 1) (j := 16) A6 (by omega) (by omega) (.int .i64 0)
  have D := (((((((((Chg.refl (One pk) w11).setCell (p := ⟨pk, 46, none⟩) (.inl (show One pk pk from rfl)) (.int .i64 1)).setCell (p := ⟨pk, 56, none⟩) (.inl (show One pk pk from rfl)) (.int .i64 1)).setCell (p := ⟨pk, 57, none⟩) (.inl (show One pk pk from rfl)) (.int .i64 0)).setCell (p := ⟨pk, 58, none⟩) (.inl (show One pk pk from rfl)) (.int .i64 0)).setCell (p := ⟨pk, 59, none⟩) (.inl (show One pk pk from rfl)) (.slice none 0 0)).setCell (p := ⟨pk, 60, none⟩) (.inl (show One pk pk from rfl)) (.int .i64 127)).setCell (p := ⟨pk, 61, none⟩) (.inl (show One pk pk from rfl)) (.int .i64 0)).setCell (p := ⟨pk, 62, none⟩) (.inl (show One pk pk from rfl)) (.int .i64 0))
  have h12 := h11.upKn (ts := _) A7 D (fun hh => (by cases hh))
  have sz12 := hid (Nat.le_trans sz11.out D.size)
  have X12 := hid (X11.out.chg D (fun k hk hh => fpk.out (by rw [← show k = pk from hh]; exact hk)))
  clear X11
  have C12 := C11.one (.inr hk4) D
  have m17 : ((((((((w11.setCell ⟨pk, 46, none⟩ (.int .i64 1)).setCell ⟨pk, 56, none⟩ (.int .i64 1)).setCell ⟨pk, 57, none⟩ (.int .i64 0)).setCell ⟨pk, 58, none⟩ (.int .i64 0)).setCell ⟨pk, 59, none⟩ (.slice none 0 0)).setCell ⟨pk, 60, none⟩ (.int .i64 127)).setCell ⟨pk, 61, none⟩ (.int .i64 0)).setCell ⟨pk, 62, none⟩ (.int .i64 0)).cell? ⟨pk, 63, none⟩ = some (.slice none 0 0) := h12.kn.t (q := 1) (j := 17) (by omega) (by omega)
  have n17 := Blk.frozen h12.kn 63
  have k4' := h12.kn.h (i := 4) (by omega)
  have lk := Blk.lt h12.kn
  replace h12 := hid h12
  replace C12 := hid C12
  replace C11 := hid C11
  replace m17 := hid m17
  replace n17 := hid n17
  replace k4' := hid k4'
  replace lk := hid lk
  clear A0 A1 A2 A3 A4 A5 A6 A7 D h11 s11 c11 g11
  go_upto_region 18 with fail
  clear m0 n0 m10 n10 m11 n11 m12 n12 m13 n13 m14 n14 m15 n15 m16 n16 k4
  generalize ((((((((w11.setCell ⟨pk, 46, none⟩ (.int .i64 1)).setCell ⟨pk, 56, none⟩ (.int .i64 1)).setCell ⟨pk, 57, none⟩ (.int .i64 0)).setCell ⟨pk, 58, none⟩ (.int .i64 0)).setCell ⟨pk, 59, none⟩ (.slice none 0 0)).setCell ⟨pk, 60, none⟩ (.int .i64 127)).setCell ⟨pk, 61, none⟩ (.int .i64 0)).setCell ⟨pk, 62, none⟩ (.int .i64 0)) = U at *
  replace m17 := m17.out
  replace n17 := n17.out
  have k4 : U.cell? ⟨pk, 4, none⟩ = some (.pointer (some ⟨pr, 0, none⟩)) := k4'.out
  replace lk := lk.out
  clear k4'
  have A8 := KnAt.setT (q := 1) (j := 17) h12.out.kn (by omega) (by omega) (.slice (some ⟨U.heap.size, 0, none⟩) 1 1)
  have D8 : Chg (One pk) U (U.setCell ⟨pk, 63, none⟩ (.slice (some ⟨U.heap.size, 0, none⟩) 1 1)) := (Chg.refl (One pk) U).setCell (p := ⟨pk, 63, none⟩) (.inl (show One pk pk from rfl)) _
  have X13 := hid ((X12.out.chg D8 (fun k hk hh => fpk.out (by rw [← show k = pk from hh]; exact hk))).nil ((Chg.refl Nil _).alloc (.cells #[.int .i64 1] 3)))
  clear X12
  have es : (U.setCell ⟨pk, 63, none⟩ (.slice (some ⟨U.heap.size, 0, none⟩) 1 1)).heap.size = U.heap.size := by simp [World.setCell]
  have h13 := (h12.out.upKn (ts := _) A8 D8 (fun hh => (by cases hh))).upCw (q := U.heap.size) (w' := (U.setCell ⟨pk, 63, none⟩ (.slice (some ⟨U.heap.size, 0, none⟩) 1 1)).alloc (.cells #[.int .i64 1] 3)) rfl (by rw [es]; exact Nat.le_refl _) ((Chg.refl Nil _).alloc _) (by
    have := Blk.new (U.setCell ⟨pk, 63, none⟩ (.slice (some ⟨U.heap.size, 0, none⟩) 1 1)) 3 [.int .i64 1]
    rwa [es] at this) rfl
  have C13 := hid ((C12.out.one (.inr hk4) D8).alloc (.cells #[.int .i64 1] 3))
  have HAD := hid (sadd_any _ FR pr _ h13.rn 0 (SOk0 1 (by omega) (by omega)) (by omega) (by show (0 : Nat) < 1000; omega) 1 1 10 (by omega) (by omega) rfl)
  replace h13 := hid h13
  clear A8 D8 es
  go_wp2_with fail
  refine HAD.out.mono ?_
  rintro e w14 ⟨rfl, FR', r14, c14, g14⟩
  have h14 := h13.out.upRn r14 c14 g14
  have X14 := hid (X13.out.chg c14 fFR.out)
  clear X13
  have C14 := C13.out.trans c14 (fun k hk hF => by have := h13.out.ge 3 rfl k hF; omega)
  have hr0 : ((SR.mk 1 0 0 []).doAdd 1 1 10).2 = 0 := by decide
  replace h14 := hid h14
  replace C14 := hid C14
  clear c14 g14 r14 HAD h13 C13
  rw [hr0]
  go_wp2
  go_ret2
  have fpq : ¬ FF U.heap.size := fun hh => by
    have h1 := sz12.out
    have h2 := hkw9.out
    rcases HFn.out _ hh with h3 | h3 <;> omega
  obtain ⟨UU, hU1, hU2⟩ := ma0_of h14.out rfl rfl rfl rfl (by
    refine ⟨rfl, fun j hj => ?_, rfl, fun j hj => ?_⟩
    · have hne : ∀ a, a < 18 → ¬ (19 + j = a) := fun a ha hh => by omega
      simp only [updT, show ¬ (19 + j = 17) by omega, show ¬ (19 + j = 16) by omega, show ¬ (19 + j = 15) by omega, show ¬ (19 + j = 14) by omega, show ¬ (19 + j = 13) by omega, show ¬ (19 + j = 12) by omega, show ¬ (19 + j = 11) by omega, show ¬ (19 + j = 10) by omega, show ¬ (19 + j = 0) by omega, and_false, if_false]
      unfold tkZ
      simp only [show ¬ (19 + j < 9) by omega, show ¬ (19 + j = 9) by omega, show ¬ (19 + j = 13) by omega, show ¬ (19 + j = 17) by omega, show ¬ (19 + j = 18) by omega, show ¬ (19 + j = 37) by omega, or_self, if_false]
    · unfold updT tkZ
      repeat (first | rfl | refine one_ite ?_ ?_)) rfl rfl rfl rfl rfl rfl rfl X14.out fpk.out fpo.out fpc.out fpq (fun k hk => by
      rcases HFi.out k hk with h1 | h1
      · exact .inl h1
      · have := hwV8.out
        exact .inr (by omega))
  exact ⟨_, UU, rfl, hU1, C14.out, hU2⟩
end Go.Proofs.YtdcbagmgflcemaaGreatDoor
namespace Go.Proofs.YtdcbagmgflcemaaGreatDoor
open Go.ChangeShapes Go.WideShapes Go.ChangeAt Go.RowKit
set_option linter.unusedVariables false
/-- Blocks of V are kept. -/
def Kp (V : Nat → Prop) (w w' : World) : Prop := ∃ H : Nat → Prop, Chg H w w' ∧ ∀ k, V k → ¬ H k
def MaL (w0 w : World) (P : MaP) (Y : MaY) (V : Nat → Prop) : Prop :=
  ∃ U, MaA P Y w U ∧ (∀ k, U k → w0.heap.size ≤ k) ∧ Below w0.heap.size w0 w ∧ w0.heap.size ≤ w.heap.size ∧ ∀ k, V k → k < w.heap.size ∧ ¬ U k
section
variable {w0 w w' : World} {P : MaP} {Y Y' : MaY} {V V' : Nat → Prop}
theorem Kp.blk {g : Nat} {t : TypeId} {cs : List Value} (h : Kp V w w') (hb : Blk w g t cs) (hg : V g) : Blk w' g t cs := by
  obtain ⟨H, c, hH⟩ := h
  exact hb.chg c (hH g hg)
theorem Kp.sl {e : TypeId} {s : Nat} {a : Option Addr} {n c : Nat} {xs : List Value} {G : Option Nat} (h : Kp V w w') (hs : Sl w e s a n c xs G) (hg : ∀ g, G = some g → V g) : Sl w' e s a n c xs G := by
  obtain ⟨H, k, hH⟩ := h
  exact hs.chg k (fun g hG => hH g (hg g hG))
theorem MaL.nil (h : MaL w0 w P Y V) (c : Chg Nil w w') : MaL w0 w' P Y V := by
  obtain ⟨U, h1, h2, h3, h4, h5⟩ := h
  exact ⟨U, h1.nil c, h2, below_nil h3 c, Nat.le_trans h4 c.size, fun k hk => ⟨Nat.lt_of_lt_of_le (h5 k hk).1 c.size, (h5 k hk).2⟩⟩
theorem MaL.lay (h : MaL w0 w P Y V) (o : Obj) : MaL w0 (w.alloc o) P Y (fun k => V k ∨ k = w.heap.size) := by
  have hl : ∀ U, MaA P Y w U → ∀ k, U k → k < w.heap.size := fun U hu => (MaA.sta P Y).lt hu
  obtain ⟨U, h1, h2, h3, h4, h5⟩ := h
  have c := (Chg.refl Nil w).alloc o
  refine ⟨U, h1.nil c, h2, below_nil h3 c, Nat.le_trans h4 c.size, fun k hk => ?_⟩
  rcases hk with hk | rfl
  · exact ⟨Nat.lt_of_lt_of_le (h5 k hk).1 c.size, (h5 k hk).2⟩
  · exact ⟨by rw [alloc_size]; omega, fun hh => Nat.lt_irrefl _ (hl U h1 _ hh)⟩
theorem MaL.less (h : MaL w0 w P Y V) (hv : ∀ k, V' k → V k) : MaL w0 w P Y V' := by
  obtain ⟨U, h1, h2, h3, h4, h5⟩ := h
  exact ⟨U, h1, h2, h3, h4, fun k hk => h5 k (hv k hk)⟩
theorem MaL.below (h : MaL w0 w P Y V) : Below w0.heap.size w0 w := by
  obtain ⟨U, h1, h2, h3, h4, h5⟩ := h
  exact h3
/-- A step of the state. -/
theorem MaL.stp {U : Nat → Prop} (h1 : MaA P Y w U) (h2 : ∀ k, U k → w0.heap.size ≤ k) (h3 : Below w0.heap.size w0 w) (h4 : w0.heap.size ≤ w.heap.size) (h5 : ∀ k, V k → k < w.heap.size ∧ ¬ U k) (hs : StP w U (MaA P Y') w') : MaL w0 w' P Y' V ∧ Kp V w w' := by
  obtain ⟨U', a1, a2, a3⟩ := hs
  refine ⟨⟨U', a1, fun k hk => ?_, below_chg h3 a2 h2, Nat.le_trans h4 a2.size, fun k hk => ⟨Nat.lt_of_lt_of_le (h5 k hk).1 a2.size, fun hh => ?_⟩⟩, U, a2, fun k hk => (h5 k hk).2⟩
  · rcases a3 k hk with h6 | h6
    · exact h2 k h6
    · omega
  · rcases a3 k hh with h6 | h6
    · exact (h5 k hk).2 h6
    · have := (h5 k hk).1; omega
theorem MaL.call {f : FuncId} {args : Array Value} {r : Ending} (h : MaL w0 w P Y V) (H : ∀ U, MaA P Y w U → Calls Tryz.prog f args w fun e w' => e = r ∧ StP w U (MaA P Y') w') : Calls Tryz.prog f args w fun e w' => e = r ∧ MaL w0 w' P Y' V ∧ Kp V w w' := by
  obtain ⟨U, h1, h2, h3, h4, h5⟩ := h
  refine (H U h1).mono ?_
  rintro e w' ⟨rfl, hs⟩
  exact ⟨rfl, MaL.stp h1 h2 h3 h4 h5 hs⟩
/-- A call that hands out bytes. -/
theorem MaL.data {f : FuncId} {args : Array Value} {r : Option Addr → Nat → Ending} {ds : List Int} (h : MaL w0 w P Y V) (H : ∀ U, MaA P Y w U → Calls Tryz.prog f args w fun e w' => ∃ sa sc G U', e = r sa sc ∧ Sl w' 5 1 sa ds.length sc (bys ds) G ∧ (∀ g, G = some g → ¬ U' g) ∧ MaA P Y' w' U' ∧ Chg U w w' ∧ Grew w.heap.size U U') :
    Calls Tryz.prog f args w fun e w' => ∃ sa sc G, e = r sa sc ∧ Sl w' 5 1 sa ds.length sc (bys ds) G ∧ MaL w0 w' P Y' (fun k => V k ∨ G = some k) ∧ Kp V w w' := by
  obtain ⟨U, h1, h2, h3, h4, h5⟩ := h
  refine (H U h1).mono ?_
  rintro e w' ⟨sa, sc, G, U', rfl, hs, hg, a1, a2, a3⟩
  obtain ⟨⟨U2, _⟩, kp⟩ := MaL.stp h1 h2 h3 h4 h5 ⟨U', a1, a2, a3⟩
  refine ⟨sa, sc, G, rfl, hs, ⟨U', a1, fun k hk => ?_, below_chg h3 a2 h2, Nat.le_trans h4 a2.size, fun k hk => ?_⟩, kp⟩
  · rcases a3 k hk with h6 | h6
    · exact h2 k h6
    · omega
  · rcases hk with hk | hk
    · refine ⟨Nat.lt_of_lt_of_le (h5 k hk).1 a2.size, fun hh => ?_⟩
      rcases a3 k hh with h6 | h6
      · exact (h5 k hk).2 h6
      · have := (h5 k hk).1; omega
    · exact ⟨hs.lt k hk, hg k hk⟩
end
/-- What came in reads as it did. -/
theorem rd_kept {w0 w : World} {R : Nat → Prop} {s : Nat} {a : Option Addr} {n c : Nat} {xs : List Value} (h : Rd w0 R s a n c xs) (hb : Below w0.heap.size w0 w) : Rd w R s a n c xs := by
  obtain ⟨h1, h2, h3, h4⟩ := h
  refine ⟨h1, h2, h3, fun hn => ?_⟩
  obtain ⟨g, off, r1, r2, r3, r4⟩ := h4 hn
  exact ⟨g, off, r1, Nat.lt_of_lt_of_le r2 hb.size, r3, fun j hj => by rw [hb.cell (p := ⟨g, off + j, none⟩) r2]; exact r4 j hj⟩
end Go.Proofs.YtdcbagmgflcemaaGreatDoor
namespace Go.Proofs.YtdcbagmgflcemaaGreatDoor
open Go.ChangeShapes Go.WideShapes Go.ChangeAt Go.RowKit
set_option linter.unusedVariables false
theorem mWr_0 (M : Nat → FM) (mx k : Nat) (l : List Int) (h : l.length = 0) : mWr M mx k l = M := if_pos h
theorem mWr_1 (M : Nat → FM) (mx k : Nat) (l : List Int) (h : ¬ l.length = 0) : mWr M mx k l = updF M k ⟨(M k).kd, (M k).md, l.length, (M k).ln, (M k).up, 53 + mx, l⟩ := if_neg h
theorem mWr_ne (M : Nat → FM) (mx k : Nat) (l : List Int) {j : Nat} (h : j ≠ k) : mWr M mx k l j = M j := by
  by_cases h0 : l.length = 0
  · rw [mWr_0 _ _ _ _ h0]
  · rw [mWr_1 _ _ _ _ h0]
    exact if_neg h
theorem mWr_kd (M : Nat → FM) (mx k : Nat) (l : List Int) : (mWr M mx k l k).kd = (M k).kd := by
  by_cases h0 : l.length = 0
  · rw [mWr_0 _ _ _ _ h0]
  · rw [mWr_1 _ _ _ _ h0]
    have e : updF M k ⟨(M k).kd, (M k).md, l.length, (M k).ln, (M k).up, 53 + mx, l⟩ k = ⟨(M k).kd, (M k).md, l.length, (M k).ln, (M k).up, 53 + mx, l⟩ := if_pos rfl
    rw [e]
theorem mWr_b (M : Nat → FM) (mx k : Nat) (l : List Int) (h : (M k).b = []) : (mWr M mx k l k).b = l := by
  by_cases h0 : l.length = 0
  · rw [mWr_0 _ _ _ _ h0, h]
    exact (List.eq_nil_of_length_eq_zero h0).symm
  · rw [mWr_1 _ _ _ _ h0]
    have e : updF M k ⟨(M k).kd, (M k).md, l.length, (M k).ln, (M k).up, 53 + mx, l⟩ k = ⟨(M k).kd, (M k).md, l.length, (M k).ln, (M k).up, 53 + mx, l⟩ := if_pos rfl
    rw [e]
theorem mxWr_le (mx : Nat) (l : List Int) : mxWr mx l ≤ mx + 1 := by
  unfold mxWr
  split <;> omega
def eA : En := ⟨97, 2⟩
def eB : En := ⟨98, 3⟩
def eF (n : Nat) : En := ⟨102, n⟩
def maY1 : MaY := maY0.add 0 1 2 493 [] 97
def maY2 : MaY := maY1.add 0 2 2 493 [eA] 98
def maY3 : MaY := ((maY2.add 1 3 1 420 [] 102).held 4).open_ 4 0 0
def maY4 : MaY := ((maY3.add 2 4 1 420 [] 102).held 5).open_ 5 1 1
def maY5 (l : List Int) : MaY := (maY4.wr 3 l).seek 0 l.length
def maY6 (l m : List Int) : MaY := ((maY5 l).wr 4 m).seek 1 m.length
def maY7 (l m : List Int) : MaY := (maY6 l m).mount [⟨2, 3⟩]
def maY8 (l m : List Int) : MaY := ((maY7 l m).held 5).open_ 5 2 2
def maY9 (l m : List Int) : MaY := (maY8 l m).seek 2 m.length
def maY10 (l m : List Int) : MaY := (maY9 l m).mount []
def maY11 (l m : List Int) : MaY := ((maY10 l m).held 4).open_ 4 3 3
def maY12 (l m : List Int) : MaY := (maY11 l m).seek 3 l.length
theorem enS_ab : EnS [eA, eB] := by
  refine ⟨fun y hy => ?_, .inr (.inr ⟨eA, eB, rfl, by decide⟩)⟩
  simp only [List.mem_cons, List.not_mem_nil, or_false] at hy
  rcases hy with rfl | rfl
  · exact ⟨.inl rfl, by decide, by decide⟩
  · exact ⟨.inr (.inl rfl), by decide, by decide⟩
theorem enS_a : EnS [eA] := enS_one 97 2 (.inl rfl) (by omega) (by omega)
theorem enS_f (n : Nat) (h1 : 1 ≤ n) (h2 : n ≤ 32) : EnS [eF n] := enS_one 102 n (.inr (.inr rfl)) h1 h2
theorem enS_nil : EnS [] := ⟨fun y hy => (by cases hy), .inl rfl⟩
theorem dir00 : DirM maY0.M 0 [] := ⟨by omega, rfl, enS_nil, rfl, rfl⟩
theorem dir10 : DirM maY1.M 0 [eA] := ⟨by omega, rfl, enS_a, rfl, rfl⟩
theorem dir20 : DirM maY2.M 0 [eA, eB] := ⟨by omega, rfl, enS_ab, rfl, rfl⟩
theorem dir21 : DirM maY2.M 1 [] := ⟨by omega, rfl, enS_nil, rfl, rfl⟩
theorem dir30 : DirM maY3.M 0 [eA, eB] := ⟨by omega, rfl, enS_ab, rfl, rfl⟩
theorem dir32 : DirM maY3.M 2 [] := ⟨by omega, rfl, enS_nil, rfl, rfl⟩
theorem dir40 : DirM maY4.M 0 [eA, eB] := ⟨by omega, rfl, enS_ab, rfl, rfl⟩
theorem dir41 : DirM maY4.M 1 [eF 4] := ⟨by omega, rfl, enS_f 4 (by omega) (by omega), rfl, rfl⟩
theorem dir42 : DirM maY4.M 2 [eF 5] := ⟨by omega, rfl, enS_f 5 (by omega) (by omega), rfl, rfl⟩
theorem m6_ne (l m : List Int) {j : Nat} (h3 : j ≠ 3) (h4 : j ≠ 4) : (maY6 l m).M j = maY4.M j := by
  show mWr (mWr maY4.M maY4.m 3 l) _ 4 m j = maY4.M j
  rw [mWr_ne _ _ _ _ h4, mWr_ne _ _ _ _ h3]
theorem dirM_eq {M M' : Nat → FM} {k : Nat} {l : List En} (h : DirM M k l) (e : M' k = M k) : DirM M' k l := ⟨h.lt, by rw [e]; exact h.kd, h.en, by rw [e]; exact h.sz, by rw [e]; exact h.by_⟩
theorem dir60 (l m : List Int) : DirM (maY6 l m).M 0 [eA, eB] := dirM_eq dir40 (m6_ne l m (by omega) (by omega))
theorem dir61 (l m : List Int) : DirM (maY6 l m).M 1 [eF 4] := dirM_eq dir41 (m6_ne l m (by omega) (by omega))
theorem dir62 (l m : List Int) : DirM (maY6 l m).M 2 [eF 5] := dirM_eq dir42 (m6_ne l m (by omega) (by omega))
theorem kd6_1 (l m : List Int) : ((maY6 l m).M 1).kd = 2 := (dir61 l m).kd
theorem kd6_2 (l m : List Int) : ((maY6 l m).M 2).kd = 2 := (dir62 l m).kd
theorem kd6_3 (l m : List Int) : ((maY6 l m).M 3).kd = 1 := by
  show (mWr (mWr maY4.M maY4.m 3 l) _ 4 m 3).kd = 1
  rw [mWr_ne _ _ _ _ (by omega), mWr_kd]
  rfl
theorem kd6_4 (l m : List Int) : ((maY6 l m).M 4).kd = 1 := by
  show (mWr (mWr maY4.M maY4.m 3 l) _ 4 m 4).kd = 1
  rw [mWr_kd, mWr_ne _ _ _ _ (by omega)]
  rfl
theorem b6_3 (l m : List Int) : ((maY6 l m).M 3).b = l := by
  show (mWr (mWr maY4.M maY4.m 3 l) _ 4 m 3).b = l
  rw [mWr_ne _ _ _ _ (by omega), mWr_b _ _ _ _ rfl]
theorem b6_4 (l m : List Int) : ((maY6 l m).M 4).b = m := by
  show (mWr (mWr maY4.M maY4.m 3 l) _ 4 m 4).b = m
  rw [mWr_b _ _ _ _ (by rw [mWr_ne _ _ _ _ (by omega)]; rfl)]
/-- A way to a file through a directory of the root, or where that leads. -/
def yOW (K D F : Nat) : Way := ⟨fun k => if k = 0 then [1] else if k = 1 then [1, D] else [1, D, F], fun k => if k = 0 then 1 else D, fun k => if k = 0 then K else F, fun _ => 0, fun k => if k = 0 then D else F, fun k => if k = 0 then 2 else 1⟩
theorem yOW_1 (M : Nat → FM) (ms : List Mn) (K D F : Nat) (h1 : 1 ≤ K) (h2 : K ≤ 32) (z : UInt8) (hz : IsNm z) (L0 : List En) (hr : DirM M 0 L0) (hk : dlk L0 z = (K : Int)) (he : dle L0 z = 0) (hkd : (M (K - 1)).kd = 2) (hD : moDn ms K = D) (L : Nat → List En) (hL : L 0 = L0) : WayM M ms [z] (yOW K D F) 0 L := by
  refine ⟨fun x hx => ?_, fun k hk => ?_, fun k hk => ?_, fun k hk => ?_, fun k hk => ?_, fun k hk _ => ?_, fun k hk => ?_, fun k hk _ => ?_, fun k hk => .inl rfl, fun _ => rfl⟩
  · rw [List.mem_singleton] at hx
    subst hx
    exact hz
  · show (if k = 0 then [1] else if k = 1 then [1, D] else [1, D, F]).length ≤ 6
    split
    · simp
    · split <;> simp
  all_goals
    obtain rfl : k = 0 := by simp at hk; exact hk
  · rfl
  · exact ⟨Nat.le_refl _, by rw [hL]; exact hr⟩
  · exact ⟨by rw [hL]; exact ‹dlk L0 z = (K : Int)›, by rw [hL]; exact he⟩
  · exact ⟨h1, h2, by show ((M (K - 1)).kd : Int) = 2; rw [hkd]; rfl, hD.symm⟩
  · exact .inr rfl
  · rfl
theorem yOW_2 (M : Nat → FM) (ms : List Mn) (K D F : Nat) (h1 : 1 ≤ K) (h2 : K ≤ 32) (f1 : 1 ≤ F) (f2 : F ≤ 32) (d1 : 1 ≤ D) (z : UInt8) (hz : IsNm z) (L0 L1 : List En) (hr : DirM M 0 L0) (hk : dlk L0 z = (K : Int)) (he : dle L0 z = 0) (hkd : (M (K - 1)).kd = 2) (hD : moDn ms K = D) (hd : DirM M (D - 1) L1) (hk1 : dlk L1 102 = (F : Int)) (he1 : dle L1 102 = 0) (hkf : (M (F - 1)).kd = 1) (hF : moDn ms F = F) : WayM M ms [z, 102] (yOW K D F) 0 (fun i => if i = 0 then L0 else L1) := by
  refine ⟨fun c hc => ?_, fun k hk => ?_, fun k hk => ?_, fun k hk => ?_, fun k hk => ?_, fun k hk hek => ?_, fun k hk => ?_, fun k hk hek => ?_, fun k hk => .inl rfl, fun hh => rfl⟩
  · simp only [List.mem_cons, List.not_mem_nil, or_false] at hc
    rcases hc with rfl | rfl
    · exact hz
    · exact .inr (.inr rfl)
  · show (if k = 0 then [1] else if k = 1 then [1, D] else [1, D, F]).length ≤ 6
    split
    · simp
    · split <;> simp
  all_goals
    (obtain rfl | rfl : k = 0 ∨ k = 1 := by simp at hk; omega)
  · rfl
  · rfl
  · exact ⟨Nat.le_refl _, hr⟩
  · exact ⟨d1, hd⟩
  · exact ⟨‹dlk L0 z = (K : Int)›, he⟩
  · exact ⟨hk1, he1⟩
  · exact ⟨h1, h2, by show ((M (K - 1)).kd : Int) = 2; rw [hkd]; rfl, hD.symm⟩
  · exact ⟨f1, f2, by show ((M (F - 1)).kd : Int) = 1; rw [hkf]; rfl, hF.symm⟩
  · exact .inr rfl
  · exact .inl rfl
  · rfl
  · rfl
end Go.Proofs.YtdcbagmgflcemaaGreatDoor
namespace Go.Proofs.YtdcbagmgflcemaaGreatDoor
open Go.ChangeShapes Go.WideShapes Go.ChangeAt Go.RowKit
set_option linter.unusedVariables false
section
variable {w0 w : World} {P : MaP} {Y Y' : MaY} {V : Nat → Prop}
/-- The kernel is asked. -/
theorem MaL.ask {f : FuncId} {args : Array Value} {n a b : Int} {ds : List Int} (h : MaL w0 w P Y V) (H : ∀ U, MaA P Y w U → KCallA f args w U (MaA P Y') n a b ds) :
    Calls Tryz.prog f args w fun e w' => ∃ sa sc G, e = .returned (.agg #[.int .i64 n, .int .i64 a, .int .i64 b, .slice sa ds.length sc, .slice none 0 0, .int .i64 0, .int .i64 0, .int .i64 0, .int .i64 0, .int .i64 0, .int .i64 0]) ∧ Sl w' 5 1 sa ds.length sc (bys ds) G ∧ MaL w0 w' P Y' (fun k => V k ∨ G = some k) ∧ Kp V w w' :=
  h.data (r := fun sa sc => .returned (.agg #[.int .i64 n, .int .i64 a, .int .i64 b, .slice sa ds.length sc, .slice none 0 0, .int .i64 0, .int .i64 0, .int .i64 0, .int .i64 0, .int .i64 0, .int .i64 0])) (fun U hU => (H U hU).mono (by
    rintro e w' ⟨vs, rfl, sa, sc, G, U', rfl, hs, hg, a1, a2, a3⟩
    exact ⟨sa, sc, G, U', rfl, hs, hg, a1, a2, a3⟩))
theorem Kp.pre {w1 w2 : World} (c : Chg Nil w w1) (h : Kp V w1 w2) : Kp V w w2 := by
  obtain ⟨H, k, hH⟩ := h
  exact ⟨H, (c.mono (fun _ _ h => h.elim)).trans k (fun _ _ h => h), hH⟩
theorem Kp.post {w1 w2 : World} (h : Kp V w w1) (c : Chg Nil w1 w2) : Kp V w w2 := by
  obtain ⟨H, k, hH⟩ := h
  exact ⟨H, k.trans c (fun _ _ h => h.elim), hH⟩
set_option maxRecDepth 100000 in
set_option maxHeartbeats 2000000 in
theorem opened_ok (h : MaL w0 w P Y V) (s : ByteArray) (B : Int) (dn : Nat) (H : ∀ U, MaA P Y w U → KCallA 5 #[.pointer (some ⟨P.pk, 0, none⟩), .int .i64 1, .agg #[.int .i64 5, .int .i64 3, .int .i64 B, .int .i64 420, .string s, .string ⟨#[]⟩, .slice none 0 0]] w U (MaA P Y') 0 (dn : Int) 0 []) :
    Calls Tryz.prog 6 #[.pointer (some ⟨P.pk, 0, none⟩), .int .i64 1, .string s, .int .i64 B] w fun e w' => e = .returned (.int .i64 (dn : Int)) ∧ MaL w0 w' P Y' V ∧ Kp V w w' := by
  have HA := hid (h.ask H)
  clear h H
  go_enter Tryz.func6, Tryz.ntmps6
  go_wp2_with fail
  refine HA.out.mono ?_
  rintro e w1 ⟨sa, sc, G, rfl, _, h1, kp⟩
  have C1 := hid ((Chg.refl Nil w1).alloc (.cells #[.int .i64 0, .int .i64 (dn : Int), .int .i64 0, .slice sa ([] : List Int).length sc, .slice none 0 0, .int .i64 0, .int .i64 0, .int .i64 0, .int .i64 0, .int .i64 0, .int .i64 0] 33))
  have h2 := hid (h1.less (V' := V) (fun k hk => .inl hk))
  have kp' := hid kp
  clear h1 kp HA
  go_wp2
  go_ret
  exact ⟨rfl, h2.out.nil C1.out, kp'.out.post C1.out⟩
set_option maxRecDepth 100000 in
set_option maxHeartbeats 2000000 in
theorem put_ok (h : MaL w0 w P Y V) (dn : Nat) (ba : Option Addr) (n bc : Nat) (H : ∀ U, MaA P Y w U → KCallA 5 #[.pointer (some ⟨P.pk, 0, none⟩), .int .i64 1, .agg #[.int .i64 8, .int .i64 (dn : Int), .int .i64 0, .int .i64 0, .string ⟨#[]⟩, .string ⟨#[]⟩, .slice ba n bc]] w U (MaA P Y') 0 (n : Int) 0 []) :
    Calls Tryz.prog 19 #[.pointer (some ⟨P.pk, 0, none⟩), .int .i64 1, .int .i64 (dn : Int), .slice ba n bc] w fun e w' => e = .returned (.bool true) ∧ MaL w0 w' P Y' V ∧ Kp V w w' := by
  have HA := hid (h.ask H)
  clear h H
  go_enter Tryz.func19, Tryz.ntmps19
  go_wp2_with fail
  refine HA.out.mono ?_
  rintro e w1 ⟨sa, sc, G, rfl, _, h1, kp⟩
  have C1 := hid ((Chg.refl Nil w1).alloc (.cells #[.int .i64 0, .int .i64 (n : Int), .int .i64 0, .slice sa ([] : List Int).length sc, .slice none 0 0, .int .i64 0, .int .i64 0, .int .i64 0, .int .i64 0, .int .i64 0, .int .i64 0] 33))
  have h2 := hid (h1.less (V' := V) (fun k hk => .inl hk))
  have kp' := hid kp
  clear h1 kp HA
  go_wp2
  go_ret
  exact ⟨rfl, h2.out.nil C1.out, kp'.out.post C1.out⟩
theorem h06put_ok (h : MaL w0 w P Y V) (dn : Nat) (ba : Option Addr) (n bc : Nat) (H : ∀ U, MaA P Y w U → KCallA 5 #[.pointer (some ⟨P.pk, 0, none⟩), .int .i64 1, .agg #[.int .i64 8, .int .i64 (dn : Int), .int .i64 0, .int .i64 0, .string ⟨#[]⟩, .string ⟨#[]⟩, .slice ba n bc]] w U (MaA P Y') 0 (n : Int) 0 []) :
    Calls Tryz.prog 7 #[.pointer (some ⟨P.pk, 0, none⟩), .int .i64 1, .int .i64 (dn : Int), .slice ba n bc] w fun e w' => e = .returned (.bool true) ∧ MaL w0 w' P Y' V ∧ Kp V w w' := by
  have HA := hid (put_ok h dn ba n bc H)
  clear h H
  go_enter Tryz.func7, Tryz.ntmps7
  go_wp2_with fail
  refine HA.out.mono ?_
  rintro e w1 ⟨rfl, h1, kp⟩
  replace h1 := hid h1
  replace kp := hid kp
  go_wp2
  go_ret
  exact ⟨rfl, h1.out, kp.out⟩
set_option maxRecDepth 100000 in
set_option maxHeartbeats 2000000 in
theorem got_ok (h : MaL w0 w P Y V) (dn : Nat) (ds : List Int) (H : ∀ U, MaA P Y w U → KCallA 5 #[.pointer (some ⟨P.pk, 0, none⟩), .int .i64 1, .agg #[.int .i64 7, .int .i64 (dn : Int), .int .i64 0, .int .i64 100, .string ⟨#[]⟩, .string ⟨#[]⟩, .slice none 0 0]] w U (MaA P Y') 0 (ds.length : Int) 0 ds) :
    Calls Tryz.prog 8 #[.pointer (some ⟨P.pk, 0, none⟩), .int .i64 1, .int .i64 (dn : Int), .int .i64 100] w fun e w' => ∃ sa sc G, e = .returned (.tuple #[.slice sa ds.length sc, .int .i64 0]) ∧ Sl w' 5 1 sa ds.length sc (bys ds) G ∧ MaL w0 w' P Y' (fun k => V k ∨ G = some k) ∧ Kp V w w' := by
  have HA := hid (h.ask H)
  obtain ⟨n, hn⟩ : ∃ n, n = ds.length := ⟨_, rfl⟩
  rw [← hn] at HA ⊢
  replace hn := hid hn
  clear h H
  go_enter Tryz.func8, Tryz.ntmps8
  go_wp2_with fail
  refine HA.out.mono ?_
  rintro e w1 ⟨sa, sc, G, rfl, s1, h1, kp⟩
  have C1 := hid ((Chg.refl Nil w1).alloc (.cells #[.int .i64 0, .int .i64 (n : Int), .int .i64 0, .slice sa n sc, .slice none 0 0, .int .i64 0, .int .i64 0, .int .i64 0, .int .i64 0, .int .i64 0, .int .i64 0] 33))
  have h2 := hid h1
  have kp' := hid kp
  replace s1 := hid s1
  clear h1 kp HA
  go_upto_region 2 with fail
  go_region_law fail
  all_goals
    go_wp2
    go_ret2
    exact ⟨sa, sc, G, rfl, s1.out.chg C1.out.drew (fun _ _ h => h), h2.out.nil C1.out.drew, kp'.out.post C1.out.drew⟩
end
theorem started_ok (w : World) : Calls Tryz.prog 4 #[] w fun e w' => ∃ P d, e = .returned (.tuple #[.pointer (some ⟨P.pk, 0, none⟩), d, .bool true]) ∧ MaL w w' P maY0 (fun _ => False) := by
  go_enter Tryz.func4, Tryz.ntmps4
  go_wp2_with fail
  refine (make_ok w 256 (by omega) (by omega)).mono ?_
  rintro e w1 ⟨F, p, zs, rfl, hD, hz, c1, g1⟩
  have HK := hid (kstartf_ok w1 F p zs hD hz)
  have C1 := hid c1
  replace g1 := hid g1
  clear hD hz c1
  go_wp2_with fail
  refine HK.out.mono ?_
  rintro e w2 ⟨P, U, rfl, hS, c2, hU⟩
  have HS := hid hS
  replace c2 := hid c2
  replace hU := hid hU
  clear hS HK
  go_wp2
  go_ret3
  refine ⟨P, _, rfl, U, HS.out, fun k hk => ?_, below_nil (below_nil (Below.refl _ w) C1.out) c2.out, Nat.le_trans C1.out.size c2.out.size, fun k hk => hk.elim⟩
  rcases hU.out k hk with h | h
  · rcases g1.out k h with h | h
    · exact h.elim
    · exact h
  · exact Nat.le_trans C1.out.size h
theorem g6clo_ok (w : World) : Calls Tryz.prog 21 #[.int .i64 0] w fun e w' => e = .returned (.bool false) ∧ w' = w := by
  go_enter Tryz.func21, Tryz.ntmps21
  go_wp2
  go_ret
  exact ⟨rfl, rfl⟩
set_option maxRecDepth 100000 in
theorem g6index_ok (w : World) (b : Nat) (hb : Blk w b 28 [.int .i64 0, .int .i64 0, .int .i64 0, .int .i64 0]) :
    Calls Tryz.prog 42 #[.slice (some ⟨b, 0, none⟩) 4 4, .func (.func 21) #[] #[]] w fun e w' => e = .returned (.int .i64 (-1)) ∧ w' = w := by
  have hc : ∀ k, k < 4 → w.cell? ⟨b, k, none⟩ = some (.int .i64 0) := fun k hk => by
    rw [hb.cell k]
    obtain rfl | rfl | rfl | rfl : k = 0 ∨ k = 1 ∨ k = 2 ∨ k = 3 := by omega
    all_goals rfl
  replace hc := hid hc
  clear hb
  go_enter Tryz.func42, Tryz.ntmps42
  go_wp2
  go_loopw [8] (fun i wr => ∃ k : Nat, k ≤ 4 ∧ i = .int .i64 k ∧ Hid (wr = w)) (fun i _ => 4 - (intOf i).toNat)
  case atStart => exact ⟨0, Nat.zero_le _, rfl, rfl⟩
  case round =>
    obtain ⟨k, hk, rfl, hw⟩ := hrel
    have hw' := hw.out
    subst hw'
    by_cases hlt : k < 4
    · have e0 := hc.out k hlt
      have HE := hid (g6clo_ok wr)
      go_wp2_with (go_at_call 21; refine HE.out.mono ?_; rintro e w1 ⟨rfl, rfl⟩)
      go_roundw
      case rel => exact ⟨k + 1, by omega, by go_num, hid trivial⟩
      case measure => simp [intOf]; omega
    · go_wp2
      go_ret
      exact ⟨rfl, rfl⟩
theorem g6any_ok (w : World) (b : Nat) (hb : Blk w b 28 [.int .i64 0, .int .i64 0, .int .i64 0, .int .i64 0]) :
    Calls Tryz.prog 20 #[.slice (some ⟨b, 0, none⟩) 4 4, .func (.func 21) #[] #[]] w fun e w' => e = .returned (.bool false) ∧ w' = w := by
  have HI := hid (g6index_ok w b hb)
  clear hb
  go_enter Tryz.func20, Tryz.ntmps20
  go_wp2_with fail
  refine HI.out.mono ?_
  rintro e w1 ⟨rfl, rfl⟩
  go_wp2
  go_ret
  exact ⟨rfl, rfl⟩
theorem good06_ok (w : World) (b : Nat) (hb : Blk w b 28 [.int .i64 0, .int .i64 0, .int .i64 0, .int .i64 0]) :
    Calls Tryz.prog 9 #[.slice (some ⟨b, 0, none⟩) 4 4] w fun e w' => e = .returned (.bool true) ∧ w' = w := by
  have HI := hid (g6any_ok w b hb)
  clear hb
  go_enter Tryz.func9, Tryz.ntmps9
  go_wp2_with fail
  refine HI.out.mono ?_
  rintro e w1 ⟨rfl, rfl⟩
  go_wp2
  go_ret
  exact ⟨rfl, rfl⟩
end Go.Proofs.YtdcbagmgflcemaaGreatDoor
