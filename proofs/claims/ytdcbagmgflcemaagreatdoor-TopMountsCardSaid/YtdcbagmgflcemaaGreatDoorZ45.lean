/- The law's calls: a directory is made, a new file is opened. Conditions: directories of at most two names of one letter; nothing is mounted · The kernel with files: read. Conditions: as told of the file system's Read and the table's Seek; from the beginning, 100 bytes · The kernel with files: write. Conditions: as told of the file system's Write and the table's Seek; from the beginning, at most 64 bytes · The kernel with files: a mount is made where nothing is mounted. Conditions: as told of folder · The kernel with files: a mount is left. Conditions: as told of folder; one mount. -/
import Derived.Test.YtdcbagmgflcemaaGreatDoorZ43
import Derived.Test.YtdcbagmgflcemaaGreatDoorZ18
import Derived.Test.YtdcbagmgflcemaaGreatDoorZ42
namespace Go.Proofs.YtdcbagmgflcemaaGreatDoor
open Go.ChangeShapes Go.WideShapes Go.ChangeAt Go.RowKit
set_option linter.unusedVariables false
/-- What a new file or directory leaves. -/
def MaY.add (Y : MaY) (k m kd md : Nat) (l : List En) (x : UInt8) : MaY := { Y with M := mAdd Y.M Y.m k m kd md l x, m := if (Y.M k).pt = 0 then Y.m + 1 else Y.m }
/-- A file is held, and open at a descriptor. -/
def MaY.held (Y : MaY) (tn : Nat) : MaY := { Y with g := updF Y.g tn (Y.g tn + 1) }
def MaY.open_ (Y : MaY) (tn dn kf : Nat) : MaY := { Y with fl := updF Y.fl kf ⟨1, (tn : Int), 3, false, 0, 1⟩, fd := updD Y.fd 1 dn (kf + 1) }
section
variable {w w' W : World} {U : Nat → Prop} {P : MaP} {Y : MaY} {FF : Nat → Prop} {X : FX} {Rm Rc : Nat → Prop} {ca : Option Addr} {cc : Nat} {ma : Option Addr} {mc : Nat} {pl : Nat → Pe} {hd : Nat → Value} {ts : Nat → Nat → Value}
theorem MaS.fm (h : MaS w U P Y FF X Rm Rc ca cc ma mc pl hd ts) {N : Nat} (hN : w.heap.size ≤ N) {W w' : World} (hc : Chg FF W w') : Fm P.pk N W w' := ⟨FF, hc, h.nf.1, fun k hk => Nat.lt_of_lt_of_le (h.fs.lt k hk) hN⟩
theorem MaS.make (h : MaS w U P Y FF X Rm Rc ca cc ma mc pl hd ts) (k m kd md : Nat) (l : List En) (hd' : DirM Y.M k l) (hm : m < 32) (hm0 : (Y.M m).kd = 0) (hm1 : ∀ j, j < m → 0 < (Y.M j).kd) (x : UInt8) (hx : IsNm x) (hno : dle l x = 4) (hs : EnS (l ++ [⟨x, m + 1⟩])) (hln : 0 < (Y.M k).ln) (hXm : Y.m < 8) (hkd : kd = 1 ∨ kd = 2) (hmd : md ≤ 511) (tn : Nat) (htn : tn = k + 1) :
    Calls Tryz.prog 62 #[.pointer (some ⟨P.pf, 0, none⟩), .int .i64 (tn : Int), .string ⟨#[x]⟩, .int .i64 (kd : Int), .int .i64 (md : Int), .int .i64 0, .int .i64 0] w fun e w' => e = .returned (.tuple #[.int .i64 ((m + 1 : Nat) : Int), .int .i64 0]) ∧ StP w U (MaA P (Y.add k m kd md l x)) w' ∧ Chg FF w w' := by
  have H := fmake_ok h.fs h.xm k m kd md l hd' hm hm0 hm1 x hx hno hs hln (by rw [h.xn]; exact hXm) hkd hmd (tn : Int) (by omega)
  rw [h.xn, h.xh] at H
  refine H.mono ?_
  rintro e w' ⟨rfl, hp⟩
  refine ⟨rfl, h.fsS hp, ?_⟩
  obtain ⟨_, _, _, _, _, _, c, _⟩ := hp
  exact c
end
def y0W : Way := ⟨fun _ => [1], fun _ => 1, fun _ => 0, fun _ => 0, fun _ => 0, fun _ => 1⟩
theorem y0W_ok (M : Nat → FM) (ms : List Mn) (L : Nat → List En) : WayM M ms [] y0W 0 L :=
  ⟨fun x hx => (by cases hx), fun k hk => (show (1 : Nat) ≤ 6 by omega), fun k hk => absurd hk (Nat.not_lt_zero k), fun k hk => absurd hk (Nat.not_lt_zero k), fun k hk => absurd hk (Nat.not_lt_zero k), fun k hk => absurd hk (Nat.not_lt_zero k), fun k hk => absurd hk (Nat.not_lt_zero k), fun k hk => absurd hk (Nat.not_lt_zero k), fun k hk => absurd hk (Nat.not_lt_zero k), fun _ => rfl⟩
theorem mt_mkdir {w : World} {U : Nat → Prop} {P : MaP} {Y : MaY} (h : MaA P Y w U) (x : UInt8) (hx : x = 97 ∨ x = 98) (m : Nat) (l : List En) (hd : DirM Y.M 0 l) (hm : m < 32) (hm0 : (Y.M m).kd = 0) (hm1 : ∀ j, j < m → 0 < (Y.M j).kd) (hno : dle l x = 4) (hs : EnS (l ++ [⟨x, m + 1⟩])) (hln : 0 < (Y.M 0).ln) (hXm : Y.m < 8) :
    KCallA 5 #[.pointer (some ⟨P.pk, 0, none⟩), .int .i64 1, .agg #[.int .i64 12, .int .i64 493, .int .i64 0, .int .i64 0, .string ⟨#[x]⟩, .string ⟨#[]⟩, .slice none 0 0]] w U (MaA P (Y.add 0 m 2 493 l x)) 0 0 0 [] := by
  have hnl : NmL [x] := by
    rcases hx with rfl | rfl
    · exact .inl rfl
    · exact .inr (.inl rfl)
  have hxn : IsNm x := by
    rcases hx with rfl | rfl
    · exact .inl rfl
    · exact .inr (.inl rfl)
  refine mask_ok (MaA.sta _ _) w U P Y h 12 493 0 0 0 0 0 ⟨#[x]⟩ ⟨#[]⟩ (.slice none 0 0) [] (fun w1 c1 => ?_)
  have h1 := h.nil c1
  refine sdo_named (MaA.sta _ _) w1 U ((MaA.sta P Y).lt h1) P.pk 12 493 0 0 0 0 0 ⟨#[x]⟩ ⟨#[]⟩ (.slice none 0 0) [] (.inl rfl) (fun w2 c2 => ?_)
  have h2 := h1.nil c2
  refine snamed_ok (MaA.sta _ _) w2 U ((MaA.sta P Y).lt h2) P.pk 12 493 0 0 ⟨#[x]⟩ ⟨#[]⟩ (.slice none 0 0) 86 (.inl ⟨rfl, rfl⟩) (fun w3 c3 => ?_)
  obtain ⟨FF, X, Rm, Rc, ca, cc, ma, mc, pl, hd', ts, h3⟩ := h2.nil c3
  refine kmkdir_ok h3.kmc ⟨#[x]⟩ x 1 (m + 1) (.slice none 0 0) (fun W w' => StP W U (MaA P (Y.add 0 m 2 493 l x)) w') (fun W hW => ?_) (fun W hW => ?_) (fun W w' hW hp => hp.pre hW)
  · exact klastm_ok (h3.kmn.nil hW) [x] [] x rfl hnl y0W (fun _ => []) (y0W_ok _ _ _) rfl 1 rfl (by omega) (by omega) hd.kd
  · refine ((h3.nil hW).make 0 m 2 493 l hd hm hm0 hm1 x hxn hno hs hln hXm (.inr rfl) (by omega) 1 rfl).mono ?_
    rintro e w' ⟨rfl, hp, hc⟩
    exact ⟨rfl, hp, FF, hc, h3.nf.1, fun k hk => h3.fs.lt k hk⟩
/-- The way to a file that is not there. -/
def yNW (K : Nat) : Way := ⟨fun k => if k = 0 then [1] else [1, K], fun k => if k = 0 then 1 else K, fun k => if k = 0 then K else 0, fun k => if k = 0 then 0 else 4, fun _ => K, fun _ => 2⟩
theorem yNW_1 (M : Nat → FM) (K : Nat) (h1 : 1 ≤ K) (h2 : K ≤ 32) (z : UInt8) (hz : IsNm z) (L0 : List En) (hr : DirM M 0 L0) (hk : dlk L0 z = (K : Int)) (he : dle L0 z = 0) (hkd : (M (K - 1)).kd = 2) (L : Nat → List En) (hL : L 0 = L0) : WayM M [] [z] (yNW K) 0 L := by
  refine ⟨fun x hx => ?_, fun k hk => ?_, fun k hk => ?_, fun k hk => ?_, fun k hk => ?_, fun k hk _ => ?_, fun k hk => .inr rfl, fun k hk _ => ?_, fun k hk => ?_, fun _ => rfl⟩
  · rw [List.mem_singleton] at hx
    subst hx
    exact hz
  · show (if k = 0 then [1] else [1, K]).length ≤ 6
    split <;> simp
  all_goals
    obtain rfl : k = 0 := by simp at hk; exact hk
  · rfl
  · exact ⟨Nat.le_refl _, by rw [hL]; exact hr⟩
  · exact ⟨by rw [hL]; exact ‹dlk L0 z = (K : Int)›, by rw [hL]; exact he⟩
  · exact ⟨h1, h2, by show ((M (K - 1)).kd : Int) = 2; rw [hkd]; rfl, rfl⟩
  · rfl
  · exact .inl rfl
theorem yNW_2 (M : Nat → FM) (K : Nat) (h1 : 1 ≤ K) (h2 : K ≤ 32) (z : UInt8) (hz : IsNm z) (L0 : List En) (hr : DirM M 0 L0) (hk : dlk L0 z = (K : Int)) (he : dle L0 z = 0) (hkd : (M (K - 1)).kd = 2) (L : Nat → List En) (hL : L 0 = L0) (hd : DirM M (K - 1) (L 1)) (x : UInt8) (hx : IsNm x) (hk2 : dlk (L 1) x = 0) (he2 : dle (L 1) x = 4) : WayM M [] [z, x] (yNW K) 4 L := by
  refine ⟨fun c hc => ?_, fun k hk => ?_, fun k hk => ?_, fun k hk => ?_, fun k hk => ?_, fun k hk hek => ?_, fun k hk => .inr rfl, fun k hk hek => ?_, fun k hk => ?_, fun hh => ?_⟩
  · simp only [List.mem_cons, List.not_mem_nil, or_false] at hc
    rcases hc with rfl | rfl
    · exact hz
    · exact hx
  · show (if k = 0 then [1] else [1, K]).length ≤ 6
    split <;> simp
  all_goals first
    | (obtain rfl | rfl : k = 0 ∨ k = 1 := by simp at hk; omega)
    | skip
  · rfl
  · rfl
  · exact ⟨Nat.le_refl _, by rw [hL]; exact hr⟩
  · exact ⟨h1, hd⟩
  · exact ⟨by rw [hL]; exact ‹dlk L0 z = (K : Int)›, by rw [hL]; exact he⟩
  · exact ⟨hk2, he2⟩
  · exact ⟨h1, h2, by show ((M (K - 1)).kd : Int) = 2; rw [hkd]; rfl, rfl⟩
  · cases hek
  · rfl
  · cases hek
  · exact .inl rfl
  · exact .inr ⟨rfl, rfl⟩
  · have := hh 1 (by simp)
    cases this
theorem MaS.holdS {w : World} {U : Nat → Prop} {P : MaP} {Y : MaY} {FF : Nat → Prop} {X : FX} {Rm Rc : Nat → Prop} {ca : Option Addr} {cc : Nat} {ma : Option Addr} {mc : Nat} {pl : Nat → Pe} {hd : Nat → Value} {ts : Nat → Nat → Value} (h : MaS w U P Y FF X Rm Rc ca cc ma mc pl hd ts) (tn : Nat) (h1 : 1 ≤ tn) (h2 : tn ≤ 32) (hkd : 0 < (Y.M (tn - 1)).kd) (hg : Y.g tn ≤ 100) :
    Calls Tryz.prog 154 #[.pointer (some ⟨P.pf, 0, none⟩), .int .i64 (tn : Int)] w fun e w' => e = .returned (.int .i64 0) ∧ StP w U (MaA P (Y.held tn)) w' ∧ Chg (One P.bh) w w' := by
  have e1 : tn - 1 + 1 = tn := by omega
  have H := fhold_ok h.fs Y.g h.xh (tn - 1) (by omega) (by rw [(h.xm.nd (tn - 1) (by omega)).1]; exact hkd) (by rw [e1]; exact hg) (tn : Int) (by omega)
  rw [e1] at H
  refine H.mono ?_
  rintro e w' ⟨rfl, hf, hc⟩
  exact ⟨rfl, h.hold hf hc, hc⟩
theorem MaS.openS {w : World} {U : Nat → Prop} {P : MaP} {Y : MaY} {FF : Nat → Prop} {X : FX} {Rm Rc : Nat → Prop} {ca : Option Addr} {cc : Nat} {ma : Option Addr} {mc : Nat} {pl : Nat → Pe} {hd : Nat → Value} {ts : Nat → Nat → Value} (h : MaS w U P Y FF X Rm Rc ca cc ma mc pl hd ts) (tn dn kf : Nat) (h1 : dn < 8) (h2 : Y.fd 1 dn = 0) (h3 : ∀ j, j < dn → Y.fd 1 j ≠ 0) (h4 : kf < 32) (h5 : (Y.fl kf).n = 0) (h6 : ∀ j, j < kf → (Y.fl j).n ≠ 0) :
    Calls Tryz.prog 155 #[.pointer (some ⟨P.po, 0, none⟩), .int .i64 1, .agg #[.int .i64 1, .int .i64 (tn : Int), .int .i64 3, .bool false, .int .i64 0]] w fun e w' => e = .returned (.tuple #[.int .i64 (dn : Int), .int .i64 0]) ∧ StP w U (MaA P (Y.open_ tn dn kf)) w' ∧ Chg (One P.po) w w' := by
  refine (opopen_ok w P.po Y.fl Y.fd h.op 1 (by omega) (by omega) dn h1 h2 h3 kf h4 h5 h6 1 (tn : Int) 3 0 false (by omega) (by omega) (by omega) (by omega) (by omega) (by omega)).mono ?_
  rintro e w' ⟨rfl, ho, hc⟩
  exact ⟨rfl, h.opS ho hc, hc⟩
/-- The steps of an opening behind the walk. -/
theorem mt_opening {w : World} {U : Nat → Prop} {P : MaP} {Y Y1 : MaY} (h : MaA P Y w U) (s : ByteArray) (B : Int) (hB : B = 0 ∨ B = 1) (tn dn kf : Nat) (t1 : 1 ≤ tn) (t2 : tn ≤ 32) (hkd : 0 < (Y1.M (tn - 1)).kd) (hg : Y1.g tn ≤ 100) (d1 : dn < 8) (d2 : Y1.fd 1 dn = 0) (d3 : ∀ j, j < dn → Y1.fd 1 j ≠ 0) (d4 : kf < 32) (d5 : (Y1.fl kf).n = 0) (d6 : ∀ j, j < kf → (Y1.fl j).n ≠ 0)
    (HO : ∀ w1, Chg Nil w w1 → ∀ W, Chg Nil w1 W → Calls Tryz.prog 153 #[.pointer (some ⟨P.pk, 0, none⟩), .int .i64 1, .agg #[.int .i64 5, .int .i64 3, .int .i64 B, .int .i64 420, .string s, .string ⟨#[]⟩, .slice none 0 0]] W fun e w' => e = .returned (.tuple #[.int .i64 (tn : Int), .int .i64 0]) ∧ StP W U (MaA P Y1) w' ∧ Fm P.pk w1.heap.size W w') :
    KCallA 5 #[.pointer (some ⟨P.pk, 0, none⟩), .int .i64 1, .agg #[.int .i64 5, .int .i64 3, .int .i64 B, .int .i64 420, .string s, .string ⟨#[]⟩, .slice none 0 0]] w U (MaA P ((Y1.held tn).open_ tn dn kf)) 0 (dn : Int) 0 [] := by
  have SS := MaA.sta P ((Y1.held tn).open_ tn dn kf)
  refine mask_ok SS w U P Y h 5 3 B 420 0 (dn : Int) 0 s ⟨#[]⟩ (.slice none 0 0) [] (fun w1 c1 => ?_)
  have h1 := h.nil c1
  refine sdo_desc SS w1 U ((MaA.sta P Y).lt h1) P.pk 5 3 B 420 0 (dn : Int) 0 s ⟨#[]⟩ (.slice none 0 0) [] (.inl rfl) (fun w2 c2 => ?_)
  have h2 := h1.nil c2
  refine sdesc_open SS w2 U ((MaA.sta P Y).lt h2) P.pk 3 B 420 0 (dn : Int) 0 s ⟨#[]⟩ (.slice none 0 0) [] (fun w3 c3 => ?_)
  have h3' := h2.nil c3
  obtain ⟨FF, X, Rm, Rc, ca, cc, ma, mc, pl, hd', ts, h3⟩ := h3'
  have lpo := h3.lt _ h3.up.2.1
  have lbh := h3.lt _ (h3.uf _ h3.fs.inF.2.2)
  have nbh : ¬ One P.bh P.pk := fun hh => h3.nf.1 (by rw [show P.pk = P.bh from hh]; exact h3.fs.inF.2.2)
  have hU := (MaA.sta P Y).lt ⟨FF, X, Rm, Rc, ca, cc, ma, mc, pl, hd', ts, h3⟩
  refine (kopen_ok h3.kmc h3.k6 s B hB tn dn (.slice none 0 0) rfl (fun W w' => StP W U (MaA P Y1) w') (fun W w' => StP W U (MaA P (Y1.held tn)) w') (fun W w' => StP W U (MaA P ((Y1.held tn).open_ tn dn kf)) w') (fun W hW => HO w3 ((c1.trans c2 (fun _ _ h => h)).trans c3 (fun _ _ h => h)) W hW) (fun W w1 hW hq => ?_) (fun W w2 hW hq => ?_) (fun _ w' => StP w3 U (MaA P ((Y1.held tn).open_ tn dn kf)) w') (fun W w3 w4 b hW b1 b2 hq hc => ?_)).mono ?_
  · obtain ⟨U1, a1, a2, a3⟩ := hq
    obtain ⟨F1, X1, Rm1, Rc1, ca1, cc1, ma1, mc1, pl1, hd1, ts1, m1⟩ := a1
    refine (m1.holdS tn t1 t2 hkd hg).mono ?_
    rintro e w' ⟨rfl, hp, hc⟩
    exact ⟨rfl, StP.comp a2 a3 hp, One P.bh, hc, nbh, fun k hk => by rw [show k = P.bh from hk]; exact lbh⟩
  · obtain ⟨U1, a1, a2, a3⟩ := hq
    obtain ⟨F1, X1, Rm1, Rc1, ca1, cc1, ma1, mc1, pl1, hd1, ts1, m1⟩ := a1
    refine ((m1.nil (Chg.refl Nil w2).drew).openS tn dn kf d1 d2 d3 d4 d5 d6).mono ?_
    rintro e w' ⟨rfl, hp, hc⟩
    exact ⟨rfl, StP.comp a2 a3 (hp.pre (Chg.refl Nil w2).drew), One P.po, hc, fun hh => h3.ne.1 hh, fun k hk => by rw [show k = P.po from hk]; exact lpo⟩
  · exact hq.laid SS hW (fun hh => by have := hU b hh; omega) b1 b2 hc
  · rintro e w' ⟨rfl, hp⟩
    exact ⟨_, rfl, AnP.of hp⟩
theorem enS_one (c : UInt8) (i : Nat) (hc : IsNm c) (h1 : 1 ≤ i) (h2 : i ≤ 32) : EnS ([] ++ [⟨c, i⟩]) := by
  refine ⟨fun y hy => ?_, .inr (.inl ⟨_, rfl⟩)⟩
  obtain rfl : y = ⟨c, i⟩ := List.mem_singleton.1 hy
  exact ⟨hc, h1, h2⟩
/-- A new file in a directory of the root is made, and opened. -/
theorem mt_open_new {w : World} {U : Nat → Prop} {P : MaP} {Y : MaY} (h : MaA P Y w U) (hms : Y.ms = []) (z : UInt8) (hz : z = 97 ∨ z = 98) (k : Nat) (hk : k + 1 ≤ 32) (L0 : List En) (hr : DirM Y.M 0 L0) (hlk : dlk L0 z = ((k + 1 : Nat) : Int)) (hle : dle L0 z = 0) (hkd : DirM Y.M k []) (hln : 0 < (Y.M k).ln) (m : Nat) (hm : m < 32) (hm0 : (Y.M m).kd = 0) (hm1 : ∀ j, j < m → 0 < (Y.M j).kd) (hXm : Y.m < 8) (hkm : k ≠ m)
    (dn kf : Nat) (hg : Y.g (m + 1) ≤ 100) (d1 : dn < 8) (d2 : Y.fd 1 dn = 0) (d3 : ∀ j, j < dn → Y.fd 1 j ≠ 0) (d4 : kf < 32) (d5 : (Y.fl kf).n = 0) (d6 : ∀ j, j < kf → (Y.fl j).n ≠ 0) :
    KCallA 5 #[.pointer (some ⟨P.pk, 0, none⟩), .int .i64 1, .agg #[.int .i64 5, .int .i64 3, .int .i64 1, .int .i64 420, .string ⟨#[z, 47, 102]⟩, .string ⟨#[]⟩, .slice none 0 0]] w U (MaA P (((Y.add k m 1 420 [] 102).held (m + 1)).open_ (m + 1) dn kf)) 0 (dn : Int) 0 [] := by
  have hnl : NmL [z, 102] := by
    rcases hz with rfl | rfl
    · exact .inr (.inr (.inl rfl))
    · exact .inr (.inr (.inr rfl))
  have hzn : IsNm z := by
    rcases hz with rfl | rfl
    · exact .inl rfl
    · exact .inr (.inl rfl)
  have hfn : IsNm 102 := .inr (.inr rfl)
  have hkd' : 0 < ((Y.add k m 1 420 [] 102).M (m + 1 - 1)).kd := by
    show 0 < (mAdd Y.M Y.m k m 1 420 [] 102 (m + 1 - 1)).kd
    unfold mAdd updF
    rw [if_neg (by omega), if_pos (by omega)]
    exact Nat.zero_lt_one
  refine mt_opening (Y1 := Y.add k m 1 420 [] 102) h ⟨#[z, 47, 102]⟩ 1 (.inr rfl) (m + 1) dn kf (by omega) (by omega) hkd' hg d1 d2 d3 d4 d5 d6 (fun w1 c1 W hW => ?_)
  obtain ⟨FF, X, Rm, Rc, ca, cc, ma, mc, pl, hd', ts, h1⟩ := h.nil c1
  have h2 := h1.nil hW
  have hwy1 : WayM Y.M Y.ms [z] (yNW (k + 1)) 0 (fun i => if i = 0 then L0 else []) := by
    rw [hms]
    exact yNW_1 Y.M (k + 1) (by omega) hk z hzn L0 hr hlk hle (by rw [Nat.add_sub_cancel]; exact hkd.kd) _ rfl
  have hwy2 : WayM Y.M Y.ms [z, 102] (yNW (k + 1)) 4 (fun i => if i = 0 then L0 else []) := by
    rw [hms]
    exact yNW_2 Y.M (k + 1) (by omega) hk z hzn L0 hr hlk hle (by rw [Nat.add_sub_cancel]; exact hkd.kd) _ rfl (by rw [Nat.add_sub_cancel]; exact hkd) 102 hfn rfl rfl
  have hen : EnS ([] ++ [⟨102, m + 1⟩]) := enS_one 102 (m + 1) hfn (by omega) (by omega)
  refine (kopened_new h2.kmc ⟨#[z, 47, 102]⟩ 102 (k + 1) (m + 1) (.slice none 0 0) (fun W' w' => StP W' U (MaA P (Y.add k m 1 420 [] 102)) w' ∧ Fm P.pk w1.heap.size W' w') (fun V hV => ?_) (fun V hV => ?_) (fun V hV => ?_) (fun V w' hV hp => ⟨hp.1.pre hV, ?_⟩)).mono (fun e w' hh => hh)
  · exact kwalkm_4 (h2.kmn.nil hV) [z, 102] hnl (yNW (k + 1)) _ hwy2 rfl
  · exact klastm_ok (h2.kmn.nil hV) [z, 102] [z] 102 rfl hnl (yNW (k + 1)) _ hwy1 rfl (k + 1) rfl (by omega) hk (by rw [Nat.add_sub_cancel]; exact hkd.kd)
  · refine ((h2.nil hV).make k m 1 420 [] hkd hm hm0 hm1 102 hfn rfl hen hln hXm (.inl rfl) (by omega) (k + 1) rfl).mono ?_
    rintro e w' ⟨rfl, hp, hc⟩
    exact ⟨rfl, ⟨hp, h1.fm (Nat.le_refl _) hc⟩, FF, hc, h2.nf.1, fun i hi => h2.fs.lt i hi⟩
  · obtain ⟨F, c, f1, f2⟩ := hp.2
    exact ⟨F, (hV.mono (fun _ _ h => h.elim)).trans c (fun _ _ h => h), f1, f2⟩
end Go.Proofs.YtdcbagmgflcemaaGreatDoor
namespace Go.Proofs.YtdcbagmgflcemaaGreatDoor
open Go.ChangeShapes Go.WideShapes Go.ChangeAt Go.RowKit
set_option linter.unusedVariables false
set_option maxRecDepth 100000 in
set_option maxHeartbeats 8000000 in
theorem kreadf_ok {w : World} {pk pf po : Nat} (hpf : w.cell? ⟨pk, 2, none⟩ = some (.pointer (some ⟨pf, 0, none⟩))) (hpo : w.cell? ⟨pk, 6, none⟩ = some (.pointer (some ⟨po, 0, none⟩))) (hpl : po < w.heap.size) (hpk : pk ≠ po) (id dn : Nat) (bs : List Int) (hbs : bs.length ≤ 64)
    (HR : ∀ W, Chg Nil w W → Calls Tryz.prog 159 #[.pointer (some ⟨pf, 0, none⟩), .int .i64 (id : Int), .int .i64 0, .int .i64 100] W fun e w' => ∃ a c G, e = .returned (.tuple #[.slice a bs.length c, .int .i64 0]) ∧ Sl w' 5 1 a bs.length c (bys bs) G ∧ Chg Nil W w' ∧ ∀ g, G = some g → W.heap.size ≤ g)
    (Q : World → World → Prop) (HK : ∀ W, Chg Nil w W → Calls Tryz.prog 85 #[.pointer (some ⟨po, 0, none⟩), .int .i64 1, .int .i64 (dn : Int), .int .i64 (bs.length : Int)] W fun e w' => e = .returned (.int .i64 0) ∧ Q W w' ∧ Chg (One po) W w') :
    Calls Tryz.prog 83 #[.pointer (some ⟨pk, 0, none⟩), .int .i64 1, .agg #[.int .i64 7, .int .i64 (dn : Int), .int .i64 0, .int .i64 100, .string ⟨#[]⟩, .string ⟨#[]⟩, .slice none 0 0], .agg #[.int .i64 1, .int .i64 (id : Int), .int .i64 3, .bool false, .int .i64 0]] w fun e w' => ∃ a c G W w2 b, e = .returned (.agg (anC 0 (bs.length : Int) 0 (.slice a bs.length c)).toArray) ∧ Sl w' 5 1 a bs.length c (bys bs) G ∧ (∀ g, G = some g → w.heap.size ≤ g) ∧ Chg Nil w W ∧ Q W w2 ∧ Chg (One po) W w2 ∧ w.heap.size ≤ b ∧ b < W.heap.size ∧ Chg (One b) w2 w' := by
  obtain ⟨n, hn⟩ : ∃ n, n = bs.length := ⟨_, rfl⟩
  rw [← hn] at HR HK hbs ⊢
  have BC0 := Blk.new w 36 [.int .i64 7, .int .i64 (dn : Int), .int .i64 0, .int .i64 100, .string ⟨#[]⟩, .string ⟨#[]⟩, .slice none 0 0]
  obtain ⟨W1, hW1⟩ : ∃ W1, W1 = w.alloc (.cells #[.int .i64 7, .int .i64 (dn : Int), .int .i64 0, .int .i64 100, .string ⟨#[]⟩, .string ⟨#[]⟩, .slice none 0 0] 36) := ⟨_, rfl⟩
  have hs1 : W1.heap.size = w.heap.size + 1 := by rw [hW1]; exact alloc_size _ _
  rw [← hW1] at BC0
  have BX0 := Blk.new W1 159 [.int .i64 1, .int .i64 (id : Int), .int .i64 3, .bool false, .int .i64 0]
  rw [hs1] at BX0
  obtain ⟨W2, hW2⟩ : ∃ W2, W2 = W1.alloc (.cells #[.int .i64 1, .int .i64 (id : Int), .int .i64 3, .bool false, .int .i64 0] 159) := ⟨_, rfl⟩
  have hs2 : W2.heap.size = w.heap.size + 1 + 1 := by rw [hW2, alloc_size, hs1]
  have BC1 := BC0.alloc (.cells #[.int .i64 1, .int .i64 (id : Int), .int .i64 3, .bool false, .int .i64 0] 159)
  rw [← hW2] at BX0 BC1
  have BN := Blk.new W2 33 anZ
  rw [hs2] at BN
  have BC := BC1.alloc (.cells anZ.toArray 33)
  have BX := BX0.alloc (.cells anZ.toArray 33)
  obtain ⟨W0, hW0⟩ : ∃ W0, W0 = W2.alloc (.cells anZ.toArray 33) := ⟨_, rfl⟩
  have hs0 : W0.heap.size = w.heap.size + 1 + 1 + 1 := by rw [hW0, alloc_size, hs2]
  rw [← hW0] at BN BC BX
  have C0 : Chg Nil w W0 := by rw [hW0, hW2, hW1]; exact (((Chg.refl Nil w).alloc _).alloc _).alloc _
  have hfacts : ∀ V, Chg Nil W0 V → V.cell? ⟨pk, 2, none⟩ = some (.pointer (some ⟨pf, 0, none⟩)) ∧ V.cell? ⟨pk, 6, none⟩ = some (.pointer (some ⟨po, 0, none⟩)) ∧ V.cell? ⟨w.heap.size, 1, none⟩ = some (.int .i64 (dn : Int)) ∧ V.cell? ⟨w.heap.size, 3, none⟩ = some (.int .i64 100) ∧ V.cell? ⟨w.heap.size + 1, 0, none⟩ = some (.int .i64 1) ∧ V.cell? ⟨w.heap.size + 1, 1, none⟩ = some (.int .i64 (id : Int)) ∧ V.cell? ⟨w.heap.size + 1, 2, none⟩ = some (.int .i64 3) ∧ V.cell? ⟨w.heap.size + 1, 4, none⟩ = some (.int .i64 0) ∧ Blk V (w.heap.size + 1 + 1) 33 anZ := fun V hV => by
    have c := C0.trans hV (fun _ _ h => h)
    have b1 := BC.chg hV (fun h => h)
    have b2 := BX.chg hV (fun h => h)
    exact ⟨(c.cell (a := ⟨pk, 2, none⟩) (lt_of_cell hpf).1 (fun h => h)).trans hpf, (c.cell (a := ⟨pk, 6, none⟩) (lt_of_cell hpo).1 (fun h => h)).trans hpo, b1.cell 1, b1.cell 3, b2.cell 0, b2.cell 1, b2.cell 2, b2.cell 4, BN.chg hV (fun h => h)⟩
  have HF := hid hfacts
  obtain ⟨k2, k6, x1, x3, y0, y1, y2, y4, _⟩ := hfacts W0 (Chg.refl _ _)
  have HR1 := hid (HR W0.drew C0.drew)
  have HK' := hid HK
  have ba : bits .and .i64 3 1 = 1 := by decide
  have hW : Hid (W0 = ((w.alloc (.cells #[.int .i64 7, .int .i64 (dn : Int), .int .i64 0, .int .i64 100, .string ⟨#[]⟩, .string ⟨#[]⟩, .slice none 0 0] 36)).alloc (.cells #[.int .i64 1, .int .i64 (id : Int), .int .i64 3, .bool false, .int .i64 0] 159)).alloc (.cells #[.int .i64 0, .int .i64 0, .int .i64 0, .slice none 0 0, .slice none 0 0, .int .i64 0, .int .i64 0, .int .i64 0, .int .i64 0, .int .i64 0, .int .i64 0] 33)) := hid (by rw [hW0, hW2, hW1]; rfl)
  have hpl' := hid hpl
  replace hs0 := hid hs0
  replace C0 := hid C0
  replace hn := hid hn
  have i1 : IntKind.i64.wrap (n : Int) = (n : Int) := IntWalk.i64_in _ (by omega)
  clear HR HK hpf hpo hfacts BC BX BN BC0 BX0 BC1 hW0 hW1 hW2 hs1 hs2 hpl
  go_enter Tryz.func83, Tryz.ntmps83
  go_upto_region 8 with fail
  rw [← hW.out]
  have S0 := hid (And.intro (HF.out W0.drew (Chg.refl Nil W0).drew).1 (And.intro (HF.out W0.drew (Chg.refl Nil W0).drew).2.2.2.1 (And.intro (HF.out W0.drew (Chg.refl Nil W0).drew).2.2.2.2.2.1 (HF.out W0.drew (Chg.refl Nil W0).drew).2.2.2.2.2.2.2.1)))
  clear k2 k6 x1 x3 y0 y1 y2 y4
  go_region_held3 (fun w' => w'.cell? ⟨pk, 2, none⟩ = some (.pointer (some ⟨pf, 0, none⟩)) ∧ w'.cell? ⟨w.heap.size, 3, none⟩ = some (.int .i64 100) ∧ w'.cell? ⟨w.heap.size + 1, 1, none⟩ = some (.int .i64 (id : Int)) ∧ w'.cell? ⟨w.heap.size + 1, 4, none⟩ = some (.int .i64 0)) (first | exact S0.out | exact S3.out | go_keep) (first | (go_at_call 159; (refine HR1.out.mono ?_); rintro e w3 ⟨a3, c3, G3, rfl, s3, d3, g3⟩; have D3 := hid (((Chg.refl Nil W0).drew).trans d3 (fun _ _ h => h)); have S3 := hid (And.intro (HF.out w3 D3.out).1 (And.intro (HF.out w3 D3.out).2.2.2.1 (And.intro (HF.out w3 D3.out).2.2.2.2.2.1 (HF.out w3 D3.out).2.2.2.2.2.2.2.1))); replace s3 := hid s3; replace g3 := hid g3; replace d3 := hid d3) | fail)
  all_goals
    have T0 := hid (And.intro (HF.out w3.drew D3.out.drew).2.1 (And.intro (HF.out w3.drew D3.out.drew).2.2.1 (HF.out w3.drew D3.out.drew).2.2.2.2.2.2.2.1))
    have HK1 := hid (HK'.out w3.drew (C0.out.trans D3.out.drew (fun _ _ h => h)))
    have BN3 := hid (HF.out w3 D3.out).2.2.2.2.2.2.2.2
    go_upto_region 11 with fail
    go_region_held3 (fun w' => w'.cell? ⟨pk, 6, none⟩ = some (.pointer (some ⟨po, 0, none⟩)) ∧ w'.cell? ⟨w.heap.size, 1, none⟩ = some (.int .i64 (dn : Int)) ∧ w'.cell? ⟨w.heap.size + 1, 4, none⟩ = some (.int .i64 0)) (first | exact T0.out | exact T3.out | go_keep) (first | (go_at_call 85; (refine HK1.out.mono ?_); rintro e w5 ⟨rfl, q5, d5⟩; have D5 := hid (((Chg.refl (One po) w3).drew).trans d5 (fun _ _ h => h)); have T3 := hid (And.intro ((d5.cell (a := ⟨pk, 6, none⟩) (lt_of_cell T0.out.1).1 (fun hh => hpk hh)).trans T0.out.1) (And.intro ((d5.cell (a := ⟨w.heap.size, 1, none⟩) (lt_of_cell T0.out.2.1).1 (fun hh => by have := hpl'.out; rw [← show w.heap.size = po from hh] at this; exact Nat.lt_irrefl _ this)).trans T0.out.2.1) ((d5.cell (a := ⟨w.heap.size + 1, 4, none⟩) (lt_of_cell T0.out.2.2).1 (fun hh => by have := hpl'.out; have h3 : w.heap.size + 1 = po := hh; omega)).trans T0.out.2.2))); have BN5 := hid (BN3.out.chg D5.out (fun hh => by have := hpl'.out; have h3 : w.heap.size + 1 + 1 = po := hh; omega)); replace q5 := hid q5; replace d5 := hid d5) | fail)
    all_goals
      obtain ⟨V, V1, V2, V3⟩ := an_store BN5.out (vs := anC 0 (n : Int) 0 (.slice a3 n c3)) rfl rfl (anC_one _ _ _ _ rfl)
      have V2' := hid V2
      have V3' := hid V3
      clear V2 V3
      go_wp2_with (refine wpList_store_run V1 (by rfl) (by rfl) (by rfl) (by rfl) ?_)
      refine bodyPost_ret (an_ret rfl V2'.out rfl rfl) rfl ?_
      have hz0 := hs0.out
      have hg3 : ∀ g, G3 = some g → w.heap.size + 1 + 1 + 1 ≤ g := fun g hg => by have := g3.out g hg; have h5 : W0.drew.heap.size = W0.heap.size := rfl; omega
      have S5 := (s3.out.chg D5.out (fun g hg hh => by have := hg3 g hg; have := hpl'.out; have h6 : g = po := hh; omega)).chg V3'.out (fun g hg hh => by have := hg3 g hg; have h6 : g = w.heap.size + 1 + 1 := hh; omega)
      exact ⟨a3, c3, G3, w3.drew, w5, w.heap.size + 1 + 1, rfl, S5, fun g hg => by have := hg3 g hg; omega, (C0.out.trans D3.out (fun _ _ h => h)).drew, q5.out, d5.out, by omega, by have := D3.out.size; have h5 : w3.drew.heap.size = w3.heap.size := rfl; omega, V3'.out⟩
end Go.Proofs.YtdcbagmgflcemaaGreatDoor
namespace Go.Proofs.YtdcbagmgflcemaaGreatDoor
open Go.ChangeShapes Go.WideShapes Go.ChangeAt Go.RowKit
set_option linter.unusedVariables false
set_option maxRecDepth 100000 in
set_option maxHeartbeats 8000000 in
theorem kwritef_ok {w : World} {pk pf po : Nat} (hpf : w.cell? ⟨pk, 2, none⟩ = some (.pointer (some ⟨pf, 0, none⟩))) (hpo : w.cell? ⟨pk, 6, none⟩ = some (.pointer (some ⟨po, 0, none⟩))) (hpl : po < w.heap.size) (hpk : pk ≠ po) (id dn : Nat) (da : Option Addr) (n dc : Nat) (hbs : n ≤ 64) (Q1 Q2 : World → World → Prop)
    (HR : ∀ W, Chg Nil w W → Calls Tryz.prog 63 #[.pointer (some ⟨pf, 0, none⟩), .int .i64 (id : Int), .int .i64 0, .slice da n dc] W fun e w' => e = .returned (.tuple #[.int .i64 (n : Int), .int .i64 0]) ∧ Q1 W w' ∧ Fm pk w.heap.size W w')
    (HK : ∀ W w1, Chg Nil w W → Q1 W w1 → Calls Tryz.prog 85 #[.pointer (some ⟨po, 0, none⟩), .int .i64 1, .int .i64 (dn : Int), .int .i64 (n : Int)] w1.drew fun e w' => e = .returned (.int .i64 0) ∧ Q2 W w' ∧ Chg (One po) w1.drew w') (R : World → World → Prop)
    (hR : ∀ W w2 w3 b, Chg Nil w W → w.heap.size ≤ b → b < W.heap.size → Q2 W w2 → Chg (One b) w2 w3 → R w w3) :
    Calls Tryz.prog 84 #[.pointer (some ⟨pk, 0, none⟩), .int .i64 1, .agg #[.int .i64 8, .int .i64 (dn : Int), .int .i64 0, .int .i64 0, .string ⟨#[]⟩, .string ⟨#[]⟩, .slice da n dc], .agg #[.int .i64 1, .int .i64 (id : Int), .int .i64 3, .bool false, .int .i64 0]] w fun e w' => e = .returned (.agg (anC 0 (n : Int) 0 (.slice none 0 0)).toArray) ∧ R w w' := by
  have BC0 := Blk.new w 36 [.int .i64 8, .int .i64 (dn : Int), .int .i64 0, .int .i64 0, .string ⟨#[]⟩, .string ⟨#[]⟩, .slice da n dc]
  obtain ⟨W1, hW1⟩ : ∃ W1, W1 = w.alloc (.cells #[.int .i64 8, .int .i64 (dn : Int), .int .i64 0, .int .i64 0, .string ⟨#[]⟩, .string ⟨#[]⟩, .slice da n dc] 36) := ⟨_, rfl⟩
  have hs1 : W1.heap.size = w.heap.size + 1 := by rw [hW1]; exact alloc_size _ _
  rw [← hW1] at BC0
  have BX0 := Blk.new W1 159 [.int .i64 1, .int .i64 (id : Int), .int .i64 3, .bool false, .int .i64 0]
  rw [hs1] at BX0
  obtain ⟨W2, hW2⟩ : ∃ W2, W2 = W1.alloc (.cells #[.int .i64 1, .int .i64 (id : Int), .int .i64 3, .bool false, .int .i64 0] 159) := ⟨_, rfl⟩
  have hs2 : W2.heap.size = w.heap.size + 1 + 1 := by rw [hW2, alloc_size, hs1]
  have BC1 := BC0.alloc (.cells #[.int .i64 1, .int .i64 (id : Int), .int .i64 3, .bool false, .int .i64 0] 159)
  rw [← hW2] at BX0 BC1
  have BN := Blk.new W2 33 anZ
  rw [hs2] at BN
  have BC := BC1.alloc (.cells anZ.toArray 33)
  have BX := BX0.alloc (.cells anZ.toArray 33)
  obtain ⟨W0, hW0⟩ : ∃ W0, W0 = W2.alloc (.cells anZ.toArray 33) := ⟨_, rfl⟩
  have hs0 : W0.heap.size = w.heap.size + 1 + 1 + 1 := by rw [hW0, alloc_size, hs2]
  rw [← hW0] at BN BC BX
  have C0 : Chg Nil w W0 := by rw [hW0, hW2, hW1]; exact (((Chg.refl Nil w).alloc _).alloc _).alloc _
  have hfacts : ∀ V, Chg Nil W0 V → V.cell? ⟨pk, 2, none⟩ = some (.pointer (some ⟨pf, 0, none⟩)) ∧ V.cell? ⟨pk, 6, none⟩ = some (.pointer (some ⟨po, 0, none⟩)) ∧ V.cell? ⟨w.heap.size, 1, none⟩ = some (.int .i64 (dn : Int)) ∧ V.cell? ⟨w.heap.size, 6, none⟩ = some (.slice da n dc) ∧ V.cell? ⟨w.heap.size + 1, 0, none⟩ = some (.int .i64 1) ∧ V.cell? ⟨w.heap.size + 1, 1, none⟩ = some (.int .i64 (id : Int)) ∧ V.cell? ⟨w.heap.size + 1, 2, none⟩ = some (.int .i64 3) ∧ V.cell? ⟨w.heap.size + 1, 4, none⟩ = some (.int .i64 0) ∧ V.cell? ⟨w.heap.size + 1, 3, none⟩ = some (.bool false) ∧ Blk V (w.heap.size + 1 + 1) 33 anZ := fun V hV => by
    have c := C0.trans hV (fun _ _ h => h)
    have b1 := BC.chg hV (fun h => h)
    have b2 := BX.chg hV (fun h => h)
    exact ⟨(c.cell (a := ⟨pk, 2, none⟩) (lt_of_cell hpf).1 (fun h => h)).trans hpf, (c.cell (a := ⟨pk, 6, none⟩) (lt_of_cell hpo).1 (fun h => h)).trans hpo, b1.cell 1, b1.cell 6, b2.cell 0, b2.cell 1, b2.cell 2, b2.cell 4, b2.cell 3, BN.chg hV (fun h => h)⟩
  have HF := hid hfacts
  obtain ⟨k2, k6, x1, x6, y0, y1, y2, y4, y3, _⟩ := hfacts W0 (Chg.refl _ _)
  have HR1 := hid (HR W0.drew C0.drew)
  have HK' := hid HK
  have hR' := hid hR
  have ba : bits .and .i64 3 2 = 2 := by decide
  have i0 : (n : Int) ≤ 256 := by omega
  have hW : Hid (W0 = ((w.alloc (.cells #[.int .i64 8, .int .i64 (dn : Int), .int .i64 0, .int .i64 0, .string ⟨#[]⟩, .string ⟨#[]⟩, .slice da n dc] 36)).alloc (.cells #[.int .i64 1, .int .i64 (id : Int), .int .i64 3, .bool false, .int .i64 0] 159)).alloc (.cells #[.int .i64 0, .int .i64 0, .int .i64 0, .slice none 0 0, .slice none 0 0, .int .i64 0, .int .i64 0, .int .i64 0, .int .i64 0, .int .i64 0, .int .i64 0] 33)) := hid (by rw [hW0, hW2, hW1]; rfl)
  have hpl' := hid hpl
  replace hs0 := hid hs0
  replace C0 := hid C0
  have i1 : IntKind.i64.wrap (n : Int) = (n : Int) := IntWalk.i64_in _ (by omega)
  clear HR HK hR hpf hpo hfacts BC BX BN BC0 BX0 BC1 hW0 hW1 hW2 hs1 hs2 hpl
  go_enter Tryz.func84, Tryz.ntmps84
  go_upto_region 16 with fail
  rw [← hW.out]
  have F0 := HF.out W0.drew (Chg.refl Nil W0).drew
  have S0 := hid (And.intro F0.1 (And.intro F0.2.2.2.1 F0.2.2.2.2.2.1))
  have U0 := hid (And.intro F0.2.1 F0.2.2.1)
  have BN0 := hid F0.2.2.2.2.2.2.2.2.2
  clear k2 k6 x1 x6 y0 y1 y2 y3 y4 F0
  go_region_held3 (fun w' => w'.cell? ⟨pk, 2, none⟩ = some (.pointer (some ⟨pf, 0, none⟩)) ∧ w'.cell? ⟨w.heap.size, 6, none⟩ = some (.slice da n dc) ∧ w'.cell? ⟨w.heap.size + 1, 1, none⟩ = some (.int .i64 (id : Int))) (first | exact S0.out | exact S3.out | go_keep) (first | (go_at_call 63; (refine HR1.out.mono ?_); rintro e w3 ⟨rfl, q3, f3⟩; have S3 := hid (And.intro (f3.cell S0.out.1 (.inl rfl)) (And.intro (f3.cell S0.out.2.1 (.inr (Nat.le_refl _))) (f3.cell S0.out.2.2 (.inr (Nat.le_succ _))))); have U3 := hid (And.intro (f3.cell U0.out.1 (.inl rfl)) (f3.cell U0.out.2 (.inr (Nat.le_refl _)))); have BN3 := hid (f3.blk BN0.out (by omega)); have q3' := hid q3; clear f3 q3) | fail)
  all_goals
    have T0 : Hid (w3.drew.cell? ⟨pk, 6, none⟩ = some (.pointer (some ⟨po, 0, none⟩)) ∧ w3.drew.cell? ⟨w.heap.size, 1, none⟩ = some (.int .i64 (dn : Int))) := hid U3.out
    have HK1 := hid (HK'.out _ w3 C0.out.drew q3'.out)
    go_upto_region 19 with fail
    go_region_held3 (fun w' => w'.cell? ⟨pk, 6, none⟩ = some (.pointer (some ⟨po, 0, none⟩)) ∧ w'.cell? ⟨w.heap.size, 1, none⟩ = some (.int .i64 (dn : Int))) (first | exact T0.out | exact T3.out | go_keep) (first | (go_at_call 85; (refine HK1.out.mono ?_); rintro e w5 ⟨rfl, q5, d5⟩; have T3 := hid (And.intro ((d5.cell (a := ⟨pk, 6, none⟩) (lt_of_cell T0.out.1).1 (fun hh => hpk hh)).trans T0.out.1) ((d5.cell (a := ⟨w.heap.size, 1, none⟩) (lt_of_cell T0.out.2).1 (fun hh => by have := hpl'.out; rw [← show w.heap.size = po from hh] at this; exact Nat.lt_irrefl _ this)).trans T0.out.2)); have BN5 := hid ((BN3.out.drewN 1).chg d5 (fun hh => by have := hpl'.out; have h3 : w.heap.size + 1 + 1 = po := hh; omega)); replace q5 := hid q5; replace d5 := hid d5) | fail)
    all_goals
      obtain ⟨V, V1, V2, V3⟩ := an_store BN5.out (vs := anC 0 (n : Int) 0 (.slice none 0 0)) rfl rfl (anC_one _ _ _ _ rfl)
      have V2' := hid V2
      have V3' := hid V3
      clear V2 V3
      go_wp2_with (refine wpList_store_run V1 (by rfl) (by rfl) (by rfl) (by rfl) ?_)
      refine bodyPost_ret (an_ret rfl V2'.out rfl rfl) rfl ?_
      exact ⟨rfl, hR'.out W0.drew w5 V (w.heap.size + 1 + 1) C0.out.drew (by omega) (by have := hs0.out; have h5 : W0.drew.heap.size = W0.heap.size := rfl; omega) q5.out V3'.out⟩
end Go.Proofs.YtdcbagmgflcemaaGreatDoor
namespace Go.Proofs.YtdcbagmgflcemaaGreatDoor
open Go.ChangeShapes Go.WideShapes Go.ChangeAt Go.RowKit
set_option linter.unusedVariables false
set_option maxRecDepth 100000 in
set_option maxHeartbeats 8000000 in
theorem kseen_mount {w : World} {pk pf : Nat} {ca : Option Addr} {cc : Nat} (h : KmC w pk pf ca cc none 0 0) (hfz : ∀ W, Chg Nil w W → W.frozen? ⟨pk, 64, none⟩ = false) (s o : ByteArray) (m : Mn) (hs : MoS [m])
    (HA : ∀ W, Chg Nil w W → Calls Tryz.prog 166 #[.pointer (some ⟨pk, 0, none⟩), .int .i64 1, .string s] W fun e w' => e = .returned (.tuple #[.int .i64 (m.a : Int), .int .i64 0]) ∧ Chg Nil W w')
    (HB : ∀ W, Chg Nil w W → Calls Tryz.prog 166 #[.pointer (some ⟨pk, 0, none⟩), .int .i64 1, .string o] W fun e w' => e = .returned (.tuple #[.int .i64 (m.r : Int), .int .i64 0]) ∧ Chg Nil W w') :
    Calls Tryz.prog 87 #[.pointer (some ⟨pk, 0, none⟩), .int .i64 1, .agg #[.int .i64 27, .int .i64 0, .int .i64 0, .int .i64 0, .string s, .string o, .slice none 0 0]] w fun e w' => e = .returned (.int .i64 0) ∧ ∃ W a c G, Chg Nil w W ∧ Sl W 285 2 a 1 c (moL [m]) G ∧ (∀ g, G = some g → w.heap.size ≤ g) ∧ w' = W.setCell ⟨pk, 64, none⟩ (.slice a 1 c) := by
  have C0 := (Chg.refl Nil w).alloc (.cells #[.int .i64 27, .int .i64 0, .int .i64 0, .int .i64 0, .string s, .string o, .slice none 0 0] 36)
  have B0 := Blk.new w 36 [.int .i64 27, .int .i64 0, .int .i64 0, .int .i64 0, .string s, .string o, .slice none 0 0]
  have K0 := h.nil C0
  have r3 := K0.r3
  have x4 := B0.cell 4
  simp only [List.getElem?_cons_succ, List.getElem?_cons_zero] at x4
  have HA1 := hid (HA _ C0)
  have HB' := hid HB
  have H := hid h
  have hfz' := hid hfz
  have HM := hid (fun W => moadd_ok m hs W)
  have ba : bits .and .i64 127 32 = 32 := by decide
  have C0' := hid C0
  have B0' := hid B0
  clear h HA HB hfz C0 B0 K0 hs
  go_enter Tryz.func87, Tryz.ntmps87
  go_wp2_with fail
  refine HA1.out.mono ?_
  rintro e w1 ⟨rfl, d1⟩
  have C1 := C0'.out.trans d1 (fun _ _ h => h)
  have B1 := B0'.out.chg d1 (fun h => h)
  have y0 := B1.cell 0
  have y5 := B1.cell 5
  simp only [List.getElem?_cons_succ, List.getElem?_cons_zero] at y0 y5
  have HB1 := hid (HB'.out _ C1)
  replace C1 := hid C1
  replace B1 := hid B1
  clear d1 r3 x4
  go_wp2_with fail
  refine HB1.out.mono ?_
  rintro e w2 ⟨rfl, d2⟩
  have C2 := C1.out.trans d2 (fun _ _ h => h)
  have mo := (H.out.nil C2).mo
  replace C2 := hid C2
  clear d2 y0 y5
  go_wp2_with fail
  refine (HM.out _).mono ?_
  rintro e w3 ⟨a, c, G, rfl, s3, d3, g3⟩
  have C3 := hid (C2.out.trans d3 (fun _ _ h => h))
  have mo3 := (H.out.nil C3.out).mo
  have fz := hfz'.out w3 C3.out
  have hz := hid C2.out.size
  replace s3 := hid s3
  replace g3 := hid g3
  clear d3
  go_wp2
  go_ret
  exact ⟨rfl, w3, a, c, G, C3.out, s3.out, fun g hg => Nat.le_trans hz.out (g3.out g hg), rfl⟩
end Go.Proofs.YtdcbagmgflcemaaGreatDoor
namespace Go.Proofs.YtdcbagmgflcemaaGreatDoor
open Go.ChangeShapes Go.WideShapes Go.ChangeAt Go.RowKit
set_option linter.unusedVariables false
set_option linter.unusedSimpArgs false
set_option maxRecDepth 100000 in
set_option maxHeartbeats 8000000 in
theorem kseen_leave {w : World} {pk pf : Nat} {ca : Option Addr} {cc : Nat} {ma : Option Addr} {mc : Nat} (h : KmC w pk pf ca cc ma 1 mc) (hfz : ∀ W, Chg Nil w W → W.frozen? ⟨pk, 64, none⟩ = false) (s : ByteArray) (m : Mn) (hs : MoS [m]) (R : Nat → Prop) (hm : Rd w R 2 ma 1 mc (moL [m]))
    (HA : ∀ W, Chg Nil w W → Calls Tryz.prog 166 #[.pointer (some ⟨pk, 0, none⟩), .int .i64 1, .string s] W fun e w' => e = .returned (.tuple #[.int .i64 (m.r : Int), .int .i64 0]) ∧ Chg Nil W w') :
    Calls Tryz.prog 87 #[.pointer (some ⟨pk, 0, none⟩), .int .i64 1, .agg #[.int .i64 28, .int .i64 0, .int .i64 0, .int .i64 0, .string s, .string ⟨#[]⟩, .slice none 0 0]] w fun e w' => e = .returned (.int .i64 0) ∧ ∃ W a c, Chg Nil w W ∧ c ≤ maxLen ∧ w' = W.setCell ⟨pk, 64, none⟩ (.slice a 0 c) := by
  have C0 := (Chg.refl Nil w).alloc (.cells #[.int .i64 28, .int .i64 0, .int .i64 0, .int .i64 0, .string s, .string ⟨#[]⟩, .slice none 0 0] 36)
  have B0 := Blk.new w 36 [.int .i64 28, .int .i64 0, .int .i64 0, .int .i64 0, .string s, .string ⟨#[]⟩, .slice none 0 0]
  have K0 := h.nil C0
  have r3 := K0.r3
  have x4 := B0.cell 4
  simp only [List.getElem?_cons_succ, List.getElem?_cons_zero] at x4
  have HA1 := hid (HA _ C0)
  have H := hid h
  have hfz' := hid hfz
  have HM := hid (fun W (hc : Chg Nil w W) => moout_ok R ma mc m hs W (hm.chg hc (fun _ _ _ h => h)))
  have HR := hid hm
  have ba : bits .and .i64 127 32 = 32 := by decide
  have C0' := hid C0
  have B0' := hid B0
  clear h HA hfz C0 B0 K0 hs hm
  go_enter Tryz.func87, Tryz.ntmps87
  go_wp2_with fail
  refine HA1.out.mono ?_
  rintro e w1 ⟨rfl, d1⟩
  have C1 := C0'.out.trans d1 (fun _ _ h => h)
  have B1 := B0'.out.chg d1 (fun h => h)
  have y0 := B1.cell 0
  simp only [List.getElem?_cons_succ, List.getElem?_cons_zero] at y0
  have mo := (H.out.nil C1).mo
  have R1 := HR.out.chg C1 (fun _ _ _ h => h)
  obtain ⟨g, off, rfl, hg1, hg2, hc⟩ := R1.elem (f := Mn.row) (l := [m]) (fun _ => rfl) rfl (by simp)
  have z0 := hc 0 (by simp) 0 (by decide)
  have z1 := hc 0 (by simp) 1 (by decide)
  simp only [Mn.row, List.getElem?_cons_succ, List.getElem?_cons_zero, Nat.add_zero, Nat.zero_mul, List.getElem_cons_zero] at z0 z1
  replace C1 := hid C1
  replace B1 := hid B1
  clear d1 r3 x4 hc R1
  go_wp2
  go_loopw [10] (fun i wr => i = .int .i64 0 ∧ Hid (wr = w1)) (fun i _ => 0)
  case atStart => exact ⟨rfl, rfl⟩
  case round =>
    obtain ⟨rfl, hw⟩ := hrel
    have hw' := hw.out
    subst hw'
    clear hw
    have HM1 := hid (HM.out wr.drew C1.out.drew)
    go_upto_region 16 with fail
    go_region_law (go_simp; go_at_call 167; refine HM1.out.mono ?_; rintro e w3 ⟨a', c', rfl, hc', d3⟩; replace hc' := hid hc'; have fz := hfz'.out w3 (C1.out.drew.trans d3 (fun _ _ h => h)); have mo3 := (H.out.nil (C1.out.drew.trans d3 (fun _ _ h => h))).mo; replace d3 := hid d3)
    all_goals
      go_wp2
      go_ret
      exact ⟨rfl, w3, a', c', C1.out.drew.trans d3.out (fun _ _ h => h), hc'.out, rfl⟩
end Go.Proofs.YtdcbagmgflcemaaGreatDoor
