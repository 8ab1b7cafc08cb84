/- Contracts of a heap's Out and Pop. Conditions: at most 1000 ids. -/
import Derived.Test.YtnehdpjaioljcaaHeapOps
import Derived.Deep.DeepCutAuto
namespace Go.Proofs.Ytnehdpjaioljcaa
open Go.ChangeShapes Go.WideShapes Go.ChangeAt Go.RowKit
set_option linter.unusedVariables false
theorem swp_last {l : List HE} {i m : Nat} (hi : i < l.length) (hm : m < l.length) : ((swp l i m)[m]'(by rw [swp_len]; exact hm)).id = l[i].id := by rw [swp_get hi hm, if_pos rfl]
theorem ints_take (k : IntKind) (l : List Int) (m : Nat) : (ints k l).take m = ints k (l.take m) := by unfold ints; rw [List.map_take]
theorem swap_same_i (w : World) (F : Nat → Prop) (p : Nat) (l : List HE) (h : HpAt w F p l) (hl : l.length ≤ 1000) (i : Nat) (I J : Int) (hI : I = (i : Int)) (hJ : J = (i : Int)) (hi : i < l.length) :
    Calls Try.prog 20 #[.pointer (some ⟨p, 0, none⟩), .int .i64 I, .int .i64 J] w fun e w' => e = .returned (.tuple #[]) ∧ HpAt w' F p l ∧ Chg F w w' := by
  subst hI; subst hJ
  exact swap_same w F p l h hl i hi
theorem posF_take {l : List HE} (hn : (l.map HE.id).Nodup) {m : Nat} (hl : l.length = m + 1) : updM (posF l) (l[m]'(by omega)).id none = posF (l.take m) := by
  have hn2 : ((l.take m).map HE.id).Nodup := by rw [List.map_take]; exact hn.sublist (List.take_sublist _ _)
  funext t
  unfold updM
  by_cases h : t = (l[m]'(by omega)).id
  · rw [if_pos h]
    symm
    cases hp : posF (l.take m) t with
    | none => rfl
    | some v =>
      obtain ⟨k, hk, h1, _⟩ := (posF_some hn2).1 hp
      have hk2 : k < m := by rw [List.length_take] at hk; omega
      rw [List.getElem_take] at h1
      have := (List.getElem_inj (xs := l.map HE.id) (i := k) (j := m) (h₀ := by rw [List.length_map]; omega) (h₁ := by rw [List.length_map]; omega) hn).1 (by simp only [List.getElem_map]; rw [h1, h])
      omega
  · rw [if_neg h]
    apply Option.ext
    intro v
    show posF l t = some v ↔ posF (l.take m) t = some v
    rw [posF_some hn, posF_some hn2]
    constructor
    · rintro ⟨k, hk, h1, rfl⟩
      have hkm : k < m := by
        rcases Nat.lt_or_ge k m with h2 | h2
        · exact h2
        · exfalso
          have : k = m := by omega
          subst this
          exact h h1.symm
      exact ⟨k, by rw [List.length_take]; omega, by rw [List.getElem_take]; exact h1, rfl⟩
    · rintro ⟨k, hk, h1, rfl⟩
      rw [List.getElem_take] at h1
      exact ⟨k, by rw [List.length_take] at hk; omega, h1, rfl⟩
section
variable {w w1 w2 w3 : World} {F : Nat → Prop} {p m : Nat} {l : List HE} {a1 : Option Addr} {c1 : Nat} {G1 : Option Nat} {a2 : Option Addr} {c2 : Nat} {G2 : Option Nat} {mb nm : Nat} {t : Int}
/-- Both rows without their last. -/
theorem cut_ids (h : HpA w1 F p l a1 c1 G1 a2 c2 G2 mb) (hl : l.length = m + 1) (hw : w2 = ((w1.setCell ⟨p, 0, none⟩ (.slice a1 m c1)).setCell ⟨p, 1, none⟩ (.slice a2 m c2)).drew) :
    Blk w2 p 36 [.slice a1 m c1, .slice a2 m c2, .map (some mb)] ∧ Sl w2 3 1 a1 m c1 (ints .i64 ((l.take m).map HE.id)) G1 ∧ Sl w2 3 1 a2 m c2 (ints .i64 ((l.take m).map HE.key)) G2 ∧ MpAt w2 Try.prog 3 mb l.length (posF l) ∧ Chg (One p) w1 w2 := by
  subst hw
  have hc : Chg (One p) w1 (((w1.setCell ⟨p, 0, none⟩ (.slice a1 m c1)).setCell ⟨p, 1, none⟩ (.slice a2 m c2)).drew) := (((Chg.refl (One p) w1).setCell (p := ⟨p, 0, none⟩) (.inl (show One p p from rfl)) _).setCell (p := ⟨p, 1, none⟩) (.inl (show One p p from rfl)) _).drew
  have s1 := (h.si.chg hc (fun g hg hh => h.ne1 (by rw [hg, show g = p from hh]))).init (m := m) (by omega)
  have s2 := (h.sk.chg hc (fun g hg hh => h.ne2 (by rw [hg, show g = p from hh]))).init (m := m) (by omega)
  rw [Nat.mul_one, ints_take, ← List.map_take] at s1 s2
  exact ⟨((h.blk.set 0 _).set 1 _).drewN 1, s1, s2, h.mp.chg hc (fun hh => h.pm hh), hc⟩
/-- .. and the map without it. -/
theorem drop_ids (h : HpA w1 F p l a1 c1 G1 a2 c2 G2 mb) (hl : l.length = m + 1) (hn : (l.map HE.id).Nodup) (ht : (l[m]'(by omega)).id = t) (k1 : Blk w2 p 36 [.slice a1 m c1, .slice a2 m c2, .map (some mb)]) (k2 : Sl w2 3 1 a1 m c1 (ints .i64 ((l.take m).map HE.id)) G1) (k3 : Sl w2 3 1 a2 m c2 (ints .i64 ((l.take m).map HE.key)) G2)
    (z1 : MpAt w3 Try.prog 3 mb nm (updM (posF l) t none)) (z2 : Chg (One mb) w2 w3) (hd : Chg (One p) w1 w2) : HpAt w3 F p (l.take m) := by
  have hn2 : ((l.take m).map HE.id).Nodup := by rw [List.map_take]; exact hn.sublist (List.take_sublist _ _)
  rw [← ht, posF_take hn hl] at z1
  have z3 := z1.tight Try.underlying3 Try.underlying34 ((l.take m).map HE.id) hn2 (fun _ => posF_dom)
  have hlen : (l.take m).length = m := by rw [List.length_take]; omega
  rw [List.length_map] at z3
  exact ⟨a1, c1, G1, a2, c2, G2, mb, by rw [hlen]; exact k1.chg z2 (fun hh => h.pm (show p = mb from hh).symm), by rw [hlen]; exact k2.chg z2 (fun g hg hh => h.nim (by rw [hg, show g = mb from hh])), by rw [hlen]; exact k3.chg z2 (fun g hg hh => h.nkm (by rw [hg, show g = mb from hh])), z3, h.fp, h.fm, h.fi, h.fk, h.nik, h.nim, h.nkm, h.pm, hn2, fun z hz => h.wf z (List.mem_of_mem_take hz), fun k hk => Nat.lt_of_lt_of_le (h.lt k hk) (Nat.le_trans hd.size z2.size)⟩
theorem drop_chg (h : HpA w1 F p l a1 c1 G1 a2 c2 G2 mb) (hd : Chg (One p) w1 w2) (z2 : Chg (One mb) w2 w3) : Chg F w1 w3 :=
  (hd.mono (G := F) (fun k _ hk => by rw [show k = p from hk]; exact h.fp)).trans z2 (fun k _ hk => by rw [show k = mb from hk]; exact h.fm)
end
theorem out_none (w : World) (F : Nat → Prop) (p : Nat) (l : List HE) (t : Int) (h : HpAt w F p l) (ht : t ∉ l.map HE.id) (w1 : -9223372036854775808 ≤ t) (w2 : t ≤ 9223372036854775807) :
    Calls Try.prog 15 #[.pointer (some ⟨p, 0, none⟩), .int .i64 t] w fun e w' => e = .returned (.tuple #[.int .i64 0, .int .i64 4]) ∧ w = w' := by
  have HK := hid (key_none w F p l t h ht w1 w2)
  clear h ht
  go_enter Try.func15, Try.ntmps15
  go_wp2_with fail
  refine HK.out.mono ?_
  rintro e w' ⟨rfl, rfl⟩
  go_wp2
  go_ret2
  exact ⟨rfl, rfl⟩
set_option maxRecDepth 100000 in
set_option maxHeartbeats 1000000 in
theorem out_same (w : World) (F : Nat → Prop) (p : Nat) (l : List HE) (i m : Nat) (t : Int) (h : HpAt w F p l) (hl : l.length ≤ 1000) (hI : HeapI l) (hlm : l.length = m + 1) (hi : i < l.length) (ht : l[i].id = t) (hm : m < l.length) (him : i = m) :
    Calls Try.prog 15 #[.pointer (some ⟨p, 0, none⟩), .int .i64 t] w fun e w' => e = .returned (.tuple #[.int .i64 l[i].key, .int .i64 0]) ∧ ∃ l', HpAt w' F p l' ∧ (l[i] :: l').Perm l ∧ HeapI l' ∧ Chg F w w' := by
  replace him := hid him
  have HK := hid (key_ok w F p l i t h hi ht)
  have HAt := hid h
  obtain ⟨a1, c1, G1, a2, c2, G2, mb, h⟩ := h
  have d0 : w.cell? ⟨p, 0, none⟩ = some (.slice a1 (m + 1) c1) := by rw [← hlm]; exact h.e0
  have d2 := h.e2
  have hwf := h.wf _ (List.getElem_mem hi)
  rw [ht] at hwf
  have lk := h.mp.look Try.underlying3 Try.underlying34 (zeroIntO _) t (wf_key hwf.1 hwf.2)
  have lk1 : (Instr.lookup 34 (.map (some mb)) (.int .i64 t) false).run Try.prog w.drew = _ := (h.mp.drewN 1).look Try.underlying3 Try.underlying34 (zeroIntO _) t (wf_key hwf.1 hwf.2)
  have hp := posF_at h.nd hi
  rw [ht] at hp
  rw [hp] at lk lk1
  simp only [Option.getD_some] at lk lk1
  have HWF := hid (wf_key hwf.1 hwf.2)
  have HX := hid (hI.out i hi)
  have HP := hid (out_perm hi)
  have hml : l.length - 1 = m := by omega
  rw [hml] at HX HP
  have HM := hid hml
  have HLM := hid hlm
  have HT := hid ht
  have hm9 : m ≤ 999 := by omega
  clear h hwf hp hI hml
  go_enter Try.func15, Try.ntmps15
  go_wp2_with fail
  refine HK.out.mono ?_
  rintro e w' ⟨rfl, rfl⟩
  go_upto_region 4 with fail
  go_cut [8, 9] (fun s8 s9 wx => s8 = .int .i64 i ∧ s9 = .int .i64 m ∧ wx = w.drew)
  case first =>
    go_wp2
    go_region
    go_wp2
    go_meet
    exact ⟨rfl, rfl, rfl⟩
  case rest =>
  obtain ⟨rfl, rfl, rfl⟩ := hcut
  replace HAt : Hid (HpAt w.drew F p l) := hid (HAt.out.drewN 1)
  clear d0 d2 lk lk1 HK
  go_wp2_with fail
  refine (swap_same_i _ F p l HAt.out hl i _ _ rfl (by have := him.out; omega) hi).mono ?_
  rintro e w1 ⟨rfl, y1, C1⟩
  have hn2 : ((swp l i m).map HE.id).Nodup := by
    obtain ⟨_, _, _, _, _, _, _, hh⟩ := HAt.out
    exact (swp_ids l hi hm).2 hh.nd
  rw [← swp_same hi] at y1
  rw [show swp l i i = swp l i m by rw [him.out]] at y1
  obtain ⟨a3, c3, G3, a4, c4, G4, mb', h1⟩ := y1
  have hs1 : (swp l i m).length = m + 1 := by rw [swp_len]; exact HLM.out
  have d0 : w1.cell? ⟨p, 0, none⟩ = some (.slice a3 (m + 1) c3) := by rw [← hs1]; exact h1.e0
  have d1 : w1.cell? ⟨p, 1, none⟩ = some (.slice a4 (m + 1) c4) := by rw [← hs1]; exact h1.e1
  have d2 := h1.e2
  have f0 := h1.blk.frozen 0
  have f1 := h1.blk.frozen 1
  have r1 : m + 1 ≤ c3 := by rw [← hs1]; exact h1.si.1
  have r2 : m + 1 ≤ c4 := by rw [← hs1]; exact h1.sk.1
  have r3 : c3 ≤ maxLen := h1.si.2.1
  have r4 : c4 ≤ maxLen := h1.sk.2.1
  unfold maxLen at r3 r4
  have r5 : m ≤ c3 := by omega
  have r6 : m ≤ c4 := by omega
  have H1 := hid h1
  replace C1 := hid C1
  replace hn2 := hid hn2
  replace hs1 := hid hs1
  clear h1
  go_upto_region 6 with fail
  go_cut [38] (fun _ wx => wx = ((w1.setCell ⟨p, 0, none⟩ (.slice a3 m c3)).setCell ⟨p, 1, none⟩ (.slice a4 m c4)).drew)
  case first =>
    go_wp2
    go_region
    go_wp2
    go_meet
    rfl
  case rest =>
  subst hcut
  obtain ⟨w2, hw2⟩ : ∃ w2, w2 = ((w1.setCell ⟨p, 0, none⟩ (.slice a3 m c3)).setCell ⟨p, 1, none⟩ (.slice a4 m c4)).drew := ⟨_, rfl⟩
  rw [← hw2]
  obtain ⟨k1, k2, k3, k4, k5⟩ := cut_ids H1.out hs1.out hw2
  have HD := hid k5
  have d2' : w2.cell? ⟨p, 2, none⟩ = some (.map (some mb')) := k1.cell 2
  clear hw2 d0 d1 d2 f0 f1
  replace k1 := hid k1
  replace k2 := hid k2
  replace k3 := hid k3
  replace k4 := hid k4
  clear k5
  have hlt : decide ((i : Int) < (m : Int)) = false := by rw [decide_eq_false_iff_not]; have := him.out; omega
  have hlt2 : (m : Int) ≤ (i : Int) := by have := him.out; omega
  go_wp2_with (at_delete; refine wpList_drop _ rfl _ _ 34 3 rfl (e := 3) Try.underlying3 Try.underlying34 mb' _ _ rfl k4.out t rfl HWF.out ?_; intro w3 z1 z2; have H3 := hid (drop_ids H1.out hs1.out hn2.out (by rw [swp_last hi hm, HT.out]) k1.out k2.out k3.out z1 z2 HD.out); replace z1 := hid z1; replace z2 := hid z2)
  go_ret2
  exact ⟨rfl, _, H3.out, HP.out, HX.out.2 him.out, ((Chg.refl F w).drew.trans C1.out (fun _ _ h => h)).trans (drop_chg H1.out HD.out z2.out) (fun _ _ h => h)⟩
set_option maxRecDepth 100000 in
set_option maxHeartbeats 1000000 in
theorem out_far (w : World) (F : Nat → Prop) (p : Nat) (l : List HE) (i m : Nat) (t : Int) (h : HpAt w F p l) (hl : l.length ≤ 1000) (hI : HeapI l) (hlm : l.length = m + 1) (hi : i < l.length) (ht : l[i].id = t) (hm : m < l.length) (him : i < m) :
    Calls Try.prog 15 #[.pointer (some ⟨p, 0, none⟩), .int .i64 t] w fun e w' => e = .returned (.tuple #[.int .i64 l[i].key, .int .i64 0]) ∧ ∃ l', HpAt w' F p l' ∧ (l[i] :: l').Perm l ∧ HeapI l' ∧ Chg F w w' := by
  have hne : i ≠ m := by omega
  have HK := hid (key_ok w F p l i t h hi ht)
  have HAt := hid h
  obtain ⟨a1, c1, G1, a2, c2, G2, mb, h⟩ := h
  have d0 : w.cell? ⟨p, 0, none⟩ = some (.slice a1 (m + 1) c1) := by rw [← hlm]; exact h.e0
  have d2 := h.e2
  have hwf := h.wf _ (List.getElem_mem hi)
  rw [ht] at hwf
  have lk := h.mp.look Try.underlying3 Try.underlying34 (zeroIntO _) t (wf_key hwf.1 hwf.2)
  have lk1 : (Instr.lookup 34 (.map (some mb)) (.int .i64 t) false).run Try.prog w.drew = _ := (h.mp.drewN 1).look Try.underlying3 Try.underlying34 (zeroIntO _) t (wf_key hwf.1 hwf.2)
  have hp := posF_at h.nd hi
  rw [ht] at hp
  rw [hp] at lk lk1
  simp only [Option.getD_some] at lk lk1
  have HWF := hid (wf_key hwf.1 hwf.2)
  have HX := hid (hI.out i hi)
  have HP := hid (out_perm hi)
  have hml : l.length - 1 = m := by omega
  rw [hml] at HX HP
  have HM := hid hml
  have HLM := hid hlm
  have HT := hid ht
  have hm9 : m ≤ 999 := by omega
  clear h hwf hp hI hml
  go_enter Try.func15, Try.ntmps15
  go_wp2_with fail
  refine HK.out.mono ?_
  rintro e w' ⟨rfl, rfl⟩
  go_upto_region 4 with fail
  go_cut [8, 9] (fun s8 s9 wx => s8 = .int .i64 i ∧ s9 = .int .i64 m ∧ wx = w.drew)
  case first =>
    go_wp2
    go_region
    go_wp2
    go_meet
    exact ⟨rfl, rfl, rfl⟩
  case rest =>
  obtain ⟨rfl, rfl, rfl⟩ := hcut
  replace HAt : Hid (HpAt w.drew F p l) := hid (HAt.out.drewN 1)
  clear d0 d2 lk lk1 HK
  go_wp2_with fail
  refine (swap_i _ F p l HAt.out hl i m _ _ rfl rfl hi hm hne).mono ?_
  rintro e w1 ⟨rfl, y1, C1⟩
  have hn2 : ((swp l i m).map HE.id).Nodup := by
    obtain ⟨_, _, _, _, _, _, _, hh⟩ := HAt.out
    exact (swp_ids l hi hm).2 hh.nd
  
  obtain ⟨a3, c3, G3, a4, c4, G4, mb', h1⟩ := y1
  have hs1 : (swp l i m).length = m + 1 := by rw [swp_len]; exact HLM.out
  have d0 : w1.cell? ⟨p, 0, none⟩ = some (.slice a3 (m + 1) c3) := by rw [← hs1]; exact h1.e0
  have d1 : w1.cell? ⟨p, 1, none⟩ = some (.slice a4 (m + 1) c4) := by rw [← hs1]; exact h1.e1
  have d2 := h1.e2
  have f0 := h1.blk.frozen 0
  have f1 := h1.blk.frozen 1
  have r1 : m + 1 ≤ c3 := by rw [← hs1]; exact h1.si.1
  have r2 : m + 1 ≤ c4 := by rw [← hs1]; exact h1.sk.1
  have r3 : c3 ≤ maxLen := h1.si.2.1
  have r4 : c4 ≤ maxLen := h1.sk.2.1
  unfold maxLen at r3 r4
  have r5 : m ≤ c3 := by omega
  have r6 : m ≤ c4 := by omega
  have H1 := hid h1
  replace C1 := hid C1
  replace hn2 := hid hn2
  replace hs1 := hid hs1
  clear h1
  go_upto_region 6 with fail
  go_cut [38] (fun _ wx => wx = ((w1.setCell ⟨p, 0, none⟩ (.slice a3 m c3)).setCell ⟨p, 1, none⟩ (.slice a4 m c4)).drew)
  case first =>
    go_wp2
    go_region
    go_wp2
    go_meet
    rfl
  case rest =>
  subst hcut
  obtain ⟨w2, hw2⟩ : ∃ w2, w2 = ((w1.setCell ⟨p, 0, none⟩ (.slice a3 m c3)).setCell ⟨p, 1, none⟩ (.slice a4 m c4)).drew := ⟨_, rfl⟩
  rw [← hw2]
  obtain ⟨k1, k2, k3, k4, k5⟩ := cut_ids H1.out hs1.out hw2
  have HD := hid k5
  have d2' : w2.cell? ⟨p, 2, none⟩ = some (.map (some mb')) := k1.cell 2
  clear hw2 d0 d1 d2 f0 f1
  replace k1 := hid k1
  replace k2 := hid k2
  replace k3 := hid k3
  replace k4 := hid k4
  clear k5
  have hlt : decide ((i : Int) < (m : Int)) = true := by rw [decide_eq_true_eq]; omega
  have hlt2 : (i : Int) < (m : Int) := by omega
  go_wp2_with (first | (at_delete; refine wpList_drop _ rfl _ _ 34 3 rfl (e := 3) Try.underlying3 Try.underlying34 mb' _ _ rfl k4.out t rfl HWF.out ?_; intro w3 z1 z2; have H3 := hid (drop_ids H1.out hs1.out hn2.out (by rw [swp_last hi hm, HT.out]) k1.out k2.out k3.out z1 z2 HD.out); replace z1 := hid z1; replace z2 := hid z2) | (go_at_call 13; refine (fix_ok _ F p _ H3.out (by rw [List.length_take]; omega) i (by rw [List.length_take, hs1.out]; omega) (HX.out.1 him)).mono ?_; rintro e w4 ⟨rfl, l', x1, x2, x3, x4⟩; replace x1 := hid x1; replace x2 := hid x2; replace x3 := hid x3; replace x4 := hid x4))
  go_ret2
  exact ⟨rfl, l', x1.out, (x2.out.cons _).trans HP.out, x3.out, (((Chg.refl F w).drew.trans C1.out (fun _ _ h => h)).trans (drop_chg H1.out HD.out z2.out) (fun _ _ h => h)).trans x4.out (fun _ _ h => h)⟩
theorem out_ok (w : World) (F : Nat → Prop) (p : Nat) (l : List HE) (i : Nat) (t : Int) (h : HpAt w F p l) (hl : l.length ≤ 1000) (hI : HeapI l) (hi : i < l.length) (ht : l[i].id = t) :
    Calls Try.prog 15 #[.pointer (some ⟨p, 0, none⟩), .int .i64 t] w fun e w' => e = .returned (.tuple #[.int .i64 l[i].key, .int .i64 0]) ∧ ∃ l', HpAt w' F p l' ∧ (l[i] :: l').Perm l ∧ HeapI l' ∧ Chg F w w' := by
  by_cases h1 : i < l.length - 1
  · exact out_far w F p l i (l.length - 1) t h hl hI (by omega) hi ht (by omega) h1
  · exact out_same w F p l i (l.length - 1) t h hl hI (by omega) hi ht (by omega) (by omega)
theorem pop_none (w : World) (F : Nat → Prop) (p : Nat) (h : HpAt w F p []) :
    Calls Try.prog 6 #[.pointer (some ⟨p, 0, none⟩)] w fun e w' => e = .returned (.tuple #[.int .i64 0, .int .i64 0, .int .i64 4]) ∧ w = w' := by
  have HK := hid (peek_none w F p h)
  clear h
  go_enter Try.func6, Try.ntmps6
  go_wp2_with fail
  refine HK.out.mono ?_
  rintro e w' ⟨rfl, rfl⟩
  go_wp2
  go_ret3
  exact ⟨rfl, rfl⟩
theorem pop_ok (w : World) (F : Nat → Prop) (p : Nat) (l : List HE) (h : HpAt w F p l) (hl : l.length ≤ 1000) (hI : HeapI l) (hi : 0 < l.length) :
    Calls Try.prog 6 #[.pointer (some ⟨p, 0, none⟩)] w fun e w' => e = .returned (.tuple #[.int .i64 l[0].id, .int .i64 l[0].key, .int .i64 0]) ∧ ∃ l', HpAt w' F p l' ∧ (l[0] :: l').Perm l ∧ HeapI l' ∧ Chg F w w' := by
  have HK := hid (peek_ok w F p l h hi)
  have HO := hid (fun n => out_ok (w.drewN n) F p l 0 l[0].id (h.drewN n) hl hI hi rfl)
  clear h hI
  obtain ⟨x, hx⟩ : ∃ x, x = l[0] := ⟨_, rfl⟩
  rw [← hx] at HK HO ⊢
  clear hx
  go_enter Try.func6, Try.ntmps6
  go_wp2_with fail
  refine HK.out.mono ?_
  rintro e w' ⟨rfl, n, rfl⟩
  go_wp2_with (go_at_call 15; refine (HO.out n).mono ?_; rintro e w3 ⟨rfl, l', y1, y2, y3, y4⟩; replace y1 := hid y1; replace y2 := hid y2; replace y3 := hid y3; replace y4 := hid y4)
  go_ret3
  exact ⟨rfl, l', y1.out, y2.out, y3.out, ((Chg.refl F w).drewN n).trans y4.out (fun _ _ h => h)⟩
end Go.Proofs.Ytnehdpjaioljcaa
