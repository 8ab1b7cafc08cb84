/- Contract of a heap's swap, where both places are one. Condition: the place is there. -/
import Derived.Test.YtnehdpjaioljcaaHeapSwap
namespace Go.Proofs.Ytnehdpjaioljcaa
open Go.ChangeShapes Go.WideShapes Go.ChangeAt Go.RowKit
set_option linter.unusedVariables false
theorem set_same {α : Type} (l : List α) (i : Nat) (x : α) (h : l[i]? = some x) : l.set i x = l := by
  apply List.ext_getElem?
  intro k
  by_cases hk : k = i
  · subst hk
    rw [List.getElem?_set_self (List.getElem?_eq_some_iff.1 h).1, h]
  · rw [List.getElem?_set_ne (fun hh => hk hh.symm)]
set_option maxRecDepth 100000 in
set_option maxHeartbeats 1000000 in
theorem swap_same (w : World) (F : Nat → Prop) (p : Nat) (l : List HE) (h : HpAt w F p l) (hl : l.length ≤ 1000) (i : Nat) (hi : i < l.length) :
    Calls Try.prog 20 #[.pointer (some ⟨p, 0, none⟩), .int .i64 i, .int .i64 i] w fun e w' => e = .returned (.tuple #[]) ∧ HpAt w' F p l ∧ Chg F w w' := by
  obtain ⟨a1, c1, G1, a2, c2, G2, m, h⟩ := h
  have d0 := h.e0
  have d1 := h.e1
  have d2 := h.e2
  have hi2 : (i : Int) < l.length := by omega
  obtain ⟨g1, o1, rfl, rfl, _⟩ := h.si.block (by omega)
  obtain ⟨g2, o2, rfl, rfl, _⟩ := h.sk.block (by omega)
  obtain ⟨g1', o1', e1, _, _, q1⟩ := h.si.rd.at (i := i) (by simpa using hi)
  obtain ⟨g2', o2', e2, _, _, q2⟩ := h.sk.rd.at (i := i) (by simpa using hi)
  injection e1 with e1
  injection e1 with e1 e1'
  subst e1; subst e1'
  injection e2 with e2
  injection e2 with e2 e2'
  subst e2; subst e2'
  have x1 := q1 i (by simpa using hi)
  have x3 := q2 i (by simpa using hi)
  simp only [List.getElem_map] at x1 x3
  obtain ⟨x, hx⟩ : ∃ x, x = l[i] := ⟨_, rfl⟩
  rw [← hx] at x1 x3
  have f1 := h.si.unfrozen (i := i) (by omega)
  have f3 := h.sk.unfrozen (i := i) (by omega)
  have n1 : g1 ≠ p := fun hh => h.ne1 (by rw [hh])
  have n2 : g2 ≠ p := fun hh => h.ne2 (by rw [hh])
  have n3 : p ≠ g1 := fun hh => n1 hh.symm
  have n4 : p ≠ g2 := fun hh => n2 hh.symm
  have n5 : g1 ≠ g2 := fun hh => h.nik g1 rfl (by rw [hh])
  have n6 : g2 ≠ g1 := fun hh => n5 hh.symm
  have H := hid h
  have HX := hid hx
  have y1 : (ints .i64 (l.map HE.id)).set i (.int .i64 x.id) = ints .i64 (l.map HE.id) := by
    refine set_same _ _ _ ?_
    rw [ints_get .i64 _ (by simpa using hi), List.getElem_map, hx]
  have y2 : (ints .i64 (l.map HE.key)).set i (.int .i64 x.key) = ints .i64 (l.map HE.key) := by
    refine set_same _ _ _ ?_
    rw [ints_get .i64 _ (by simpa using hi), List.getElem_map, hx]
  replace y1 := hid y1
  replace y2 := hid y2
  clear q1 q2 h hx
  go_enter Try.func20, Try.ntmps20
  go_upto_region 0 with fail
  go_cut [8] (fun _ wx => wx = ((w.setCell ⟨g1, o1 + i, none⟩ (.int .i64 x.id)).setCell ⟨g1, o1 + i, none⟩ (.int .i64 x.id)).drew)
  case first =>
    go_wp2
    go_region
    go_wp2
    go_meet
    rfl
  case rest =>
  subst hcut
  have S1 := (H.out.si.put (i := i) (by omega) (.int .i64 x.id)).put (i := i) (by omega) (.int .i64 x.id)
  rw [y1.out, y1.out] at S1
  have C1 : Chg (One g1) w (((w.setCell ⟨g1, o1 + i, none⟩ (.int .i64 x.id)).setCell ⟨g1, o1 + i, none⟩ (.int .i64 x.id)).drew) := (((Chg.refl (One g1) w).setCell (p := ⟨g1, o1 + i, none⟩) (.inl (show One g1 g1 from rfl)) _).setCell (p := ⟨g1, o1 + i, none⟩) (.inl (show One g1 g1 from rfl)) _).drew
  replace S1 := S1.drewN 1
  change Sl (((w.setCell ⟨g1, o1 + i, none⟩ (.int .i64 x.id)).setCell ⟨g1, o1 + i, none⟩ (.int .i64 x.id)).drew) _ _ _ _ _ _ _ at S1
  obtain ⟨w1, hw1⟩ : ∃ w1, w1 = (((w.setCell ⟨g1, o1 + i, none⟩ (.int .i64 x.id)).setCell ⟨g1, o1 + i, none⟩ (.int .i64 x.id)).drew) := ⟨_, rfl⟩
  rw [← hw1] at S1 C1 ⊢
  clear hw1 f1 x1
  replace x3 := (C1.cell (a := ⟨g2, o2 + i, none⟩) (by assumption) n6).trans x3
  have K1 := H.out.sk.chg C1 (fun g hg hh => by injection hg with hg; exact n6 (hg.trans hh))
  have B1 := H.out.blk.chg C1 n3
  have M1 := H.out.mp.chg C1 (fun hh => H.out.nim (by rw [show m = g1 from hh]))
  replace d0 : w1.cell? ⟨p, 0, none⟩ = _ := B1.cell 0
  replace d1 : w1.cell? ⟨p, 1, none⟩ = _ := B1.cell 1
  replace d2 : w1.cell? ⟨p, 2, none⟩ = _ := B1.cell 2
  replace f3 := K1.unfrozen (i := i) (by omega)
  replace S1 := hid S1
  replace C1 := hid C1
  replace K1 := hid K1
  replace B1 := hid B1
  replace M1 := hid M1
  go_upto_region 1 with fail
  go_cut [33] (fun _ wx => wx = ((w1.setCell ⟨g2, o2 + i, none⟩ (.int .i64 x.key)).setCell ⟨g2, o2 + i, none⟩ (.int .i64 x.key)).drew)
  case first =>
    go_wp2
    go_region
    go_wp2
    go_meet
    rfl
  case rest =>
  subst hcut
  have K2 := (K1.out.put (i := i) (by omega) (.int .i64 x.key)).put (i := i) (by omega) (.int .i64 x.key)
  rw [y2.out, y2.out] at K2
  have C2 : Chg (One g2) w1 (((w1.setCell ⟨g2, o2 + i, none⟩ (.int .i64 x.key)).setCell ⟨g2, o2 + i, none⟩ (.int .i64 x.key)).drew) := (((Chg.refl (One g2) w1).setCell (p := ⟨g2, o2 + i, none⟩) (.inl (show One g2 g2 from rfl)) _).setCell (p := ⟨g2, o2 + i, none⟩) (.inl (show One g2 g2 from rfl)) _).drew
  replace K2 := K2.drewN 1
  change Sl (((w1.setCell ⟨g2, o2 + i, none⟩ (.int .i64 x.key)).setCell ⟨g2, o2 + i, none⟩ (.int .i64 x.key)).drew) _ _ _ _ _ _ _ at K2
  obtain ⟨w2, hw2⟩ : ∃ w2, w2 = (((w1.setCell ⟨g2, o2 + i, none⟩ (.int .i64 x.key)).setCell ⟨g2, o2 + i, none⟩ (.int .i64 x.key)).drew) := ⟨_, rfl⟩
  rw [← hw2] at K2 C2 ⊢
  clear hw2 f3 x3 d1
  have S2 := S1.out.chg C2 (fun g hg hh => by injection hg with hg; exact n5 (hg.trans hh))
  have B2 := B1.out.chg C2 n4
  have M2 := M1.out.chg C2 (fun hh => H.out.nkm (by rw [show m = g2 from hh]))
  have hni := H.out.wf x (by rw [HX.out]; exact List.getElem_mem hi)
  have px : posF l x.id = some (.int .i64 (i : Int)) := by rw [HX.out]; exact posF_at H.out.nd hi
  have eu : updM (posF l) x.id (some (.int .i64 (i : Int))) = posF l := by
    funext t
    unfold updM
    split
    · rename_i hh; rw [hh, px]
    · rfl
  obtain ⟨v1, st1, w3, a1, b1, M3, C3⟩ := M2.entry (t := 34) Try.underlying3 Try.underlying34 (by omega) x.id (wf_key hni.1 hni.2) px (.int .i64 (i : Int))
  rw [eu] at M3
  obtain ⟨v2, st2, w4, a2, b2, M4, C4⟩ := M3.entry (t := 34) Try.underlying3 Try.underlying34 (by omega) x.id (wf_key hni.1 hni.2) px (.int .i64 (i : Int))
  rw [eu] at M4
  have a1' := a1 1
  have b1' := b1 1
  have a2' := a2 1
  have b2' := b2 1
  change Sem.run _ _ w2.drew = .ok _ w2.drew at a1'
  change Sem.run _ _ w2.drew = .ok _ w3.drew at b1'
  change Sem.run _ _ w3.drew = .ok _ w3.drew at a2'
  change Sem.run _ _ w3.drew = .ok _ w4.drew at b2'
  have nm1 : ¬ One m g1 := fun hh => H.out.nim (by rw [show g1 = m from hh])
  have nm2 : ¬ One m g2 := fun hh => H.out.nkm (by rw [show g2 = m from hh])
  have nm3 : ¬ One m p := fun hh => H.out.pm hh.symm
  have S3 := S2.chg C3 (fun g hg => by injection hg with hg; rw [← hg]; exact nm1)
  have B3 := B2.chg C3 nm3
  obtain ⟨_, _, e9, _, _, q9⟩ := S2.rd.at (i := i) (by rw [List.length_map]; omega)
  injection e9 with e9
  injection e9 with e9 e9'
  subst e9; subst e9'
  obtain ⟨_, _, e9, _, _, q8⟩ := S3.rd.at (i := i) (by rw [List.length_map]; omega)
  injection e9 with e9
  injection e9 with e9 e9'
  subst e9; subst e9'
  have x1 := q9 i (by rw [List.length_map]; omega)
  have x3 := q8 i (by rw [List.length_map]; omega)
  simp only [List.getElem_map] at x1 x3
  rw [← HX.out] at x1 x3
  have d0 : w2.cell? ⟨p, 0, none⟩ = _ := B2.cell 0
  have d2 : w2.cell? ⟨p, 2, none⟩ = _ := B2.cell 2
  have d0' : w3.cell? ⟨p, 0, none⟩ = _ := B3.cell 0
  have d2' : w3.cell? ⟨p, 2, none⟩ = _ := B3.cell 2
  replace S2 := hid S2
  replace S3 := hid S3
  replace B2 := hid B2
  replace B3 := hid B3
  replace C2 := hid C2
  replace C3 := hid C3
  replace C4 := hid C4
  replace K2 := hid K2
  replace M2 := hid M2
  replace M3 := hid M3
  replace M4 := hid M4
  replace px := hid px
  replace eu := hid eu
  replace nm1 := hid nm1
  replace nm2 := hid nm2
  replace nm3 := hid nm3
  clear q8 q9 a1 b1 a2 b2 hni
  have HL := hid hl
  have HI := hid hi
  clear HX
  clear hl hi
  go_wp2
  go_region
  go_wp2
  go_end0
  have M5 := M4.out.tight Try.underlying3 Try.underlying34 (l.map HE.id) H.out.nd (fun t => posF_dom)
  rw [List.length_map] at M5
  have B4 := (B3.out.chg C4.out nm3.out).drewN 1
  have S4 := (S3.out.chg C4.out (fun g hg => by injection hg with hg; rw [← hg]; exact nm1.out)).drewN 1
  have K4 := ((K2.out.chg C3.out (fun g hg => by injection hg with hg; rw [← hg]; exact nm2.out)).chg C4.out (fun g hg => by injection hg with hg; rw [← hg]; exact nm2.out)).drewN 1
  have hz : w.heap.size ≤ w4.heap.size := Nat.le_trans C1.out.size (Nat.le_trans C2.out.size (Nat.le_trans C3.out.size C4.out.size))
  refine ⟨rfl, ⟨_, c1, _, _, c2, _, m, ⟨B4, S4, K4, M5.drewN 1, H.out.fp, H.out.fm, H.out.fi, H.out.fk, H.out.nik, H.out.nim, H.out.nkm, H.out.pm, H.out.nd, H.out.wf, fun k hk => Nat.lt_of_lt_of_le (H.out.lt k hk) hz⟩⟩, ?_⟩
  refine (((C1.out.mono (G := F) (fun k _ hk => ?_)).trans C2.out (fun k _ hk => ?_)).trans C3.out (fun k _ hk => ?_)).trans C4.out (fun k _ hk => ?_) |>.drew
  · rw [show k = g1 from hk]; exact H.out.fi g1 rfl
  · rw [show k = g2 from hk]; exact H.out.fk g2 rfl
  · rw [show k = m from hk]; exact H.out.fm
  · rw [show k = m from hk]; exact H.out.fm
end Go.Proofs.Ytnehdpjaioljcaa
