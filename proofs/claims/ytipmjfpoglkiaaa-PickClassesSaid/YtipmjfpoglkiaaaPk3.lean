/- Contracts of package pick: a task of a fixed priority is added. Conditions: it is not there; few are there. -/
import Derived.Test.YtipmjfpoglkiaaaPk2
import Derived.RegionTactic
import Derived.BigRegion
import Derived.Deep.RegionLaw
import Derived.Deep.CutBlock
namespace Go.Proofs.Ytipmjfpoglkiaaa
open Go.ChangeShapes Go.WideShapes Go.ChangeAt Go.RowKit Go.ChangeMaps
set_option linter.unusedVariables false
theorem zeroIntP (w : World) : (zeroValue 3).run Try.prog w = .ok (.int .i64 0) w := by kernel_rfl
theorem cell_setBlock (w : World) {b q : Nat} (o : Obj) (i : Nat) (hq : q < w.heap.size) (h : b ≠ q) : (setBlock w b o).cell? ⟨q, i, none⟩ = w.cell? ⟨q, i, none⟩ := (chg_setBlock w b o).cell (a := ⟨q, i, none⟩) hq (fun hh => h (show q = b from hh).symm)
theorem MpAt.lookI {w : World} {b n : Nat} {f : Int → Option Value} (h : MpAt w Try.prog 3 b n f) (i : Int) (h1 : 0 ≤ i) (h2 : i ≤ 1000) (hu : f i = none) : (Instr.lookup 47 (.map (some b)) (.int .i64 i) false).run Try.prog w = .ok (.int .i64 0) w := by
  have h3 := h.look (t := 47) (e := 3) Try.underlying3 Try.underlying47 (zeroIntP _) i (wf_key (by omega) (by omega))
  rw [hu] at h3
  exact h3
theorem MpAt.freshI {w : World} {b n : Nat} {f : Int → Option Value} (h : MpAt w Try.prog 3 b n f) (hn : n ≤ 1000000) (i : Int) (h1 : 0 ≤ i) (h2 : i ≤ 1000) (hu : f i = none) (v : Value) :
    ∃ (st : Int) (o1 o2 : Obj), (∀ W : World, W.heap[b]? = w.heap[b]? → (Instr.mapEntry 47 (.map (some b)) (.int .i64 i)).run Try.prog W = .ok (.tuple #[.int .i64 0, .int .i64 st]) (setBlock W b o1)) ∧ (∀ W : World, W.heap[b]? = some o1 → (Instr.entryStore 47 (.map (some b)) (.int .i64 st) v).run Try.prog W = .ok () (setBlock W b o2)) ∧ ∀ W : World, W.heap[b]? = some o2 → MpAt W Try.prog 3 b (n + 1) (updM f i (some v)) :=
  h.fresh (t := 47) (e := 3) Try.underlying3 Try.underlying47 hn i (wf_key (by omega) (by omega)) hu zeroIntP v
set_option maxHeartbeats 4000000 in
theorem pkprio_ok {w0 : Env} {w : World} {p n : Nat} {s : PKS} (h : PkM w0 p n s w) (hn : n ≤ 900) (t v : Nat) (t1 : 1 ≤ t) (t2 : t ≤ 16) (hv : v < 8) (hc : s.cl (t : Int) = none) (ha : s.va (t : Int) = none) (hl : ∀ i, i < 8 → (s.q i).length ≤ 999) (hb : s.b < 256) (hq : prOf s.q (t : Int) 8 = -1) :
    Calls Try.prog 24 #[.pointer (some ⟨p, 0, none⟩), .int .i64 (t : Int), .int .i64 2, .int .i64 (v : Int), .int .i64 0] w fun e w' => e = .returned (.int .i64 0) ∧ PkM w0 p (n + 1) { s with b := s.b ||| 2 ^ v, q := upF s.q v (s.q v ++ [(t : Int)]), cl := updM s.cl (t : Int) (some (.int .i64 2)), va := updM s.va (t : Int) (some (.int .i64 (v : Int))) } w' := by
  obtain ⟨y, h, n1, n2, n3⟩ := h
  have d3 := h.cell 3
  have d1 := h.cell 1
  simp only [pkCells, List.getElem?_cons_succ, List.getElem?_cons_zero] at d3 d1
  have lk := h.mc.lookI (t : Int) (by omega) (by omega) hc
  have PU := hid (pput_ok w y.Fp y.pp s.b s.q (t : Int) v h.pr hl hb (by omega) (by omega) hv hq)
  have H := hid h
  clear h hl hq
  go_enter Try.func24, Try.ntmps24
  go_wp2_with fail
  refine PU.out.mono ?_
  rintro e w2 ⟨F', rfl, z1, z2, z3⟩
  have H2 := H.out.prio z1 z2 z3
  obtain ⟨st1, o1, o2, E1, S1, M1⟩ := H2.mc.freshI (by show y.nc ≤ 1000000; omega) (t : Int) (by omega) (by omega) hc (.int .i64 2)
  obtain ⟨st2, r1, r2, E2, S2, M2⟩ := H2.mv.freshI (by show y.nv ≤ 1000000; omega) (t : Int) (by omega) (by omega) ha (.int .i64 (v : Int))
  have hne : y.mc ≠ y.mv := fun hh => by have := one_not (H2.dj 3 2 rfl rfl (by omega)); exact this (show y.mc = y.mv from hh)
  have hpc : y.mc ≠ p := fun hh => by have := one_not (H2.dj 3 0 rfl rfl (by omega)); exact this (show y.mc = p from hh)
  have hpv : y.mv ≠ p := fun hh => by have := one_not (H2.dj 2 0 rfl rfl (by omega)); exact this (show y.mv = p from hh)
  have hpl : p < w2.heap.size := H2.blk.lt
  have hcl : y.mc < w2.heap.size := H2.mc.lt
  have hvl : y.mv < w2.heap.size := H2.mv.lt
  have b3 := H2.cell 3
  have b4 := H2.cell 4
  simp only [pkCells, List.getElem?_cons_succ, List.getElem?_cons_zero] at b3 b4
  have H2' := hid H2
  clear H2 z1 z2 z3 PU lk d3 d1 hc ha
  go_upto_region 11 with fail
  obtain ⟨D, hD⟩ : ∃ D, D = World.drew w2 := ⟨_, rfl⟩
  have sD : D.heap.size = w2.heap.size := by rw [hD]; rfl
  have e0 := E1 D (by rw [hD]; rfl)
  have e1 := E2 D (by rw [hD]; rfl)
  have e2 := S1 (setBlock D y.mc o1) (by rw [setBlock_get _ _ _ (by rw [sD]; exact hcl)])
  have e3 := E2 (setBlock D y.mc o1) (by rw [setBlock_ne _ _ (hne), hD]; rfl)
  have e4 := E1 (setBlock D y.mv r1) (by rw [setBlock_ne _ _ (Ne.symm hne), hD]; rfl)
  have e5 := S2 (setBlock D y.mv r1) (by rw [setBlock_get _ _ _ (by rw [sD]; exact hvl)])
  have e6 := E2 (setBlock (setBlock D y.mc o1) y.mc o2) (by rw [setBlock_ne _ _ (hne), setBlock_ne _ _ (hne), hD]; rfl)
  have e7 := S1 (setBlock (setBlock D y.mc o1) y.mv r1) (by rw [setBlock_ne _ _ (Ne.symm hne), setBlock_get _ _ _ (by rw [sD]; exact hcl)])
  have e8 := S2 (setBlock (setBlock D y.mc o1) y.mv r1) (by rw [setBlock_get _ _ _ (by rw [setBlock_size, sD]; exact hvl)])
  have e9 := S1 (setBlock (setBlock D y.mv r1) y.mc o1) (by rw [setBlock_get _ _ _ (by rw [setBlock_size, sD]; exact hcl)])
  have e10 := S2 (setBlock (setBlock D y.mv r1) y.mc o1) (by rw [setBlock_ne _ _ (hne), setBlock_get _ _ _ (by rw [sD]; exact hvl)])
  have e11 := E1 (setBlock (setBlock D y.mv r1) y.mv r2) (by rw [setBlock_ne _ _ (Ne.symm hne), setBlock_ne _ _ (Ne.symm hne), hD]; rfl)
  have e12 := S2 (setBlock (setBlock (setBlock D y.mc o1) y.mc o2) y.mv r1) (by rw [setBlock_get _ _ _ (by rw [setBlock_size, setBlock_size, sD]; exact hvl)])
  have e13 := S2 (setBlock (setBlock (setBlock D y.mc o1) y.mv r1) y.mc o2) (by rw [setBlock_ne _ _ (hne), setBlock_get _ _ _ (by rw [setBlock_size, sD]; exact hvl)])
  have e14 := S1 (setBlock (setBlock (setBlock D y.mc o1) y.mv r1) y.mv r2) (by rw [setBlock_ne _ _ (Ne.symm hne), setBlock_ne _ _ (Ne.symm hne), setBlock_get _ _ _ (by rw [sD]; exact hcl)])
  have e15 := S2 (setBlock (setBlock (setBlock D y.mv r1) y.mc o1) y.mc o2) (by rw [setBlock_ne _ _ (hne), setBlock_ne _ _ (hne), setBlock_get _ _ _ (by rw [sD]; exact hvl)])
  have e16 := S1 (setBlock (setBlock (setBlock D y.mv r1) y.mc o1) y.mv r2) (by rw [setBlock_ne _ _ (Ne.symm hne), setBlock_get _ _ _ (by rw [setBlock_size, sD]; exact hcl)])
  have e17 := S1 (setBlock (setBlock (setBlock D y.mv r1) y.mv r2) y.mc o1) (by rw [setBlock_get _ _ _ (by rw [setBlock_size, setBlock_size, sD]; exact hcl)])
  have C1 : (setBlock D y.mc o1).cell? ⟨p, 4, none⟩ = some (.map (some y.mv)) := (cell_setBlock _ _ _ (by rw [hD]; exact hpl) hpc).trans (by rw [hD]; exact b4)
  have C2 : (setBlock (setBlock D y.mc o1) y.mc o2).cell? ⟨p, 4, none⟩ = some (.map (some y.mv)) := (cell_setBlock _ _ _ (by rw [setBlock_size, hD]; exact hpl) hpc).trans ((cell_setBlock _ _ _ (by rw [hD]; exact hpl) hpc).trans (by rw [hD]; exact b4))
  have C3 : (setBlock D y.mv r1).cell? ⟨p, 3, none⟩ = some (.map (some y.mc)) := (cell_setBlock _ _ _ (by rw [hD]; exact hpl) hpv).trans (by rw [hD]; exact b3)
  have C4 : (setBlock (setBlock D y.mv r1) y.mv r2).cell? ⟨p, 3, none⟩ = some (.map (some y.mc)) := (cell_setBlock _ _ _ (by rw [setBlock_size, hD]; exact hpl) hpv).trans ((cell_setBlock _ _ _ (by rw [hD]; exact hpl) hpv).trans (by rw [hD]; exact b3))
  rw [hD] at e0 e1 e2 e3 e4 e5 e6 e7 e8 e9 e10 e11 e12 e13 e14 e15 e16 e17 C1 C2 C3 C4
  have FIN : Hid (∀ X : World, X.heap[y.mc]? = some o2 → X.heap[y.mv]? = some r2 → Chg (Or2 (One y.mc) (One y.mv)) w2 X → PkM w0 p (n + 1) { s with b := s.b ||| 2 ^ v, q := upF s.q v (s.q v ++ [(t : Int)]), cl := updM s.cl (t : Int) (some (.int .i64 2)), va := updM s.va (t : Int) (some (.int .i64 (v : Int))) } X) := hid (fun X x1 x2 x3 => ⟨_, H2'.out.maps (M1 X x1) (M2 X x2) x3, by show y.nc + 1 ≤ n + 1; omega, by show y.nv + 1 ≤ n + 1; omega, by show y.no ≤ n + 1; omega⟩)
  have sz : ∀ (W : World) (b : Nat) (o : Obj), (setBlock W b o).heap.size = W.heap.size := setBlock_size
  have HNE := hid hne
  clear hD sD E1 E2 S1 S2 M1 M2
  go_region
  all_goals
    have hsd : (World.drew w2).heap.size = w2.heap.size := rfl
    have g1 := HNE.out
    go_wp2
    go_ret
    refine ⟨rfl, FIN.out _ ?_ ?_ ?_⟩
    · first
        | exact setBlock_get _ _ _ (by simp only [setBlock_size]; exact hcl)
        | (rw [setBlock_ne _ _ (Ne.symm g1)]; first
            | exact setBlock_get _ _ _ (by simp only [setBlock_size]; exact hcl)
            | (rw [setBlock_ne _ _ (Ne.symm g1)]; exact setBlock_get _ _ _ (by simp only [setBlock_size]; exact hcl)))
    · first
        | exact setBlock_get _ _ _ (by simp only [setBlock_size]; exact hvl)
        | (rw [setBlock_ne _ _ g1]; first
            | exact setBlock_get _ _ _ (by simp only [setBlock_size]; exact hvl)
            | (rw [setBlock_ne _ _ g1]; exact setBlock_get _ _ _ (by simp only [setBlock_size]; exact hvl)))
    · have cs : ∀ (X : World) (b : Nat) (o : Obj), (b = y.mc ∨ b = y.mv) → Chg (Or2 (One y.mc) (One y.mv)) w2 X → Chg (Or2 (One y.mc) (One y.mv)) w2 (setBlock X b o) := fun X b o hb h => h.trans (chg_setBlock X b o) (fun i _ hi => by rcases hb with hb | hb; exact .inl (by rw [← hb]; exact hi); exact .inr (by rw [← hb]; exact hi))
      exact cs _ _ _ (by simp) (cs _ _ _ (by simp) (cs _ _ _ (by simp) (cs _ _ _ (by simp) (Chg.refl _ w2).drew)))
end Go.Proofs.Ytipmjfpoglkiaaa
