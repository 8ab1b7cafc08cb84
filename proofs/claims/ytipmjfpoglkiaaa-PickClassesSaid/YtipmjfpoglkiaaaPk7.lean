/- Contracts of package pick: Block and Wake. Conditions: the numbers of tasks are few, and few are there. -/
import Derived.Test.YtipmjfpoglkiaaaPk6
import Derived.RegionTactic
import Derived.BigRegion
import Derived.Deep.RegionLaw
import Derived.Deep.CutBlock
namespace Go.Proofs.Ytipmjfpoglkiaaa
open Go.ChangeShapes Go.WideShapes Go.ChangeAt Go.RowKit Go.ChangeMaps
set_option linter.unusedVariables false
theorem zeroBoolP (w : World) : (zeroValue 4).run Try.prog w = .ok (.bool false) w := by kernel_rfl
theorem MpAt.boolN {w : World} {b n : Nat} {f : Int → Option Value} (h : MpAt w Try.prog 3 b n f) (i : Int) (h1 : 0 ≤ i) (h2 : i ≤ 1000) (hu : f i = none) : (Instr.lookup 39 (.map (some b)) (.int .i64 i) false).run Try.prog w = .ok (.bool false) w := by
  have h3 := h.look (t := 39) (e := 4) Try.underlying3 Try.underlying39 (zeroBoolP _) i (wf_key (by omega) (by omega))
  rw [hu] at h3
  exact h3
theorem MpAt.boolV {w : World} {b n : Nat} {f : Int → Option Value} (h : MpAt w Try.prog 3 b n f) (i : Int) (h1 : 0 ≤ i) (h2 : i ≤ 1000) {v : Value} (hu : f i = some v) : (Instr.lookup 39 (.map (some b)) (.int .i64 i) false).run Try.prog w = .ok v w := by
  have h3 := h.look (t := 39) (e := 4) Try.underlying3 Try.underlying39 (zeroBoolP _) i (wf_key (by omega) (by omega))
  rw [hu] at h3
  exact h3
def outB (b i : Nat) (l : List Int) (t : Int) : Nat := if (keepI t l).length = 0 then clrB b i else b
theorem pkblock_no {w0 : Env} {w : World} {p n : Nat} {s : PKS} (h : PkM w0 p n s w) (t : Nat) (t2 : t ≤ 16) (hcl : s.cl (t : Int) = none) :
    Calls Try.prog 14 #[.pointer (some ⟨p, 0, none⟩), .int .i64 (t : Int)] w fun e w' => e = .returned (.int .i64 4) ∧ w = w' := by
  obtain ⟨y, h, _⟩ := h
  have c3 := h.cell 3
  simp only [pkCells, List.getElem?_cons_succ, List.getElem?_cons_zero] at c3
  have lk := h.mc.lookN (t : Int) (by omega) (by omega) hcl
  clear h hcl
  go_enter Try.func14, Try.ntmps14
  go_wp2
  go_ret
  exact ⟨rfl, rfl⟩
theorem pkblock_state {w0 : Env} {w : World} {p n : Nat} {s : PKS} (h : PkM w0 p n s w) (t c : Nat) (t2 : t ≤ 16) (c1 : 1 ≤ c) (hcl : s.cl (t : Int) = some (.int .i64 (c : Int))) (hof : s.of (t : Int) = some (.bool true)) :
    Calls Try.prog 14 #[.pointer (some ⟨p, 0, none⟩), .int .i64 (t : Int)] w fun e w' => e = .returned (.int .i64 8) ∧ w = w' := by
  obtain ⟨y, h, _⟩ := h
  have c3 := h.cell 3
  have c5 := h.cell 5
  simp only [pkCells, List.getElem?_cons_succ, List.getElem?_cons_zero] at c3 c5
  have lk : (Instr.lookup 47 (.map (some y.mc)) (.int .i64 t) false).run Try.prog w = .ok (.int .i64 (c : Int)) w := h.mc.lookV (t : Int) (by omega) (by omega) hcl 0
  have lo := h.mo.boolV (t : Int) (by omega) (by omega) hof
  clear h hcl hof
  have hb : ((c : Int) == 0) = false := by rw [beq_eq_false_iff_ne]; omega
  go_enter Try.func14, Try.ntmps14
  go_wp2
  go_ret
  exact ⟨rfl, rfl⟩
theorem pkwake_no {w0 : Env} {w : World} {p n : Nat} {s : PKS} (h : PkM w0 p n s w) (t : Nat) (t2 : t ≤ 16) (hcl : s.cl (t : Int) = none) :
    Calls Try.prog 16 #[.pointer (some ⟨p, 0, none⟩), .int .i64 (t : Int)] w fun e w' => e = .returned (.int .i64 4) ∧ w = w' := by
  obtain ⟨y, h, _⟩ := h
  have c3 := h.cell 3
  simp only [pkCells, List.getElem?_cons_succ, List.getElem?_cons_zero] at c3
  have lk := h.mc.lookN (t : Int) (by omega) (by omega) hcl
  clear h hcl
  go_enter Try.func16, Try.ntmps16
  go_wp2
  go_ret
  exact ⟨rfl, rfl⟩
theorem pkwake_state {w0 : Env} {w : World} {p n : Nat} {s : PKS} (h : PkM w0 p n s w) (t c : Nat) (t2 : t ≤ 16) (c1 : 1 ≤ c) (hcl : s.cl (t : Int) = some (.int .i64 (c : Int))) (hof : s.of (t : Int) = none) :
    Calls Try.prog 16 #[.pointer (some ⟨p, 0, none⟩), .int .i64 (t : Int)] w fun e w' => e = .returned (.int .i64 8) ∧ w = w' := by
  obtain ⟨y, h, _⟩ := h
  have c3 := h.cell 3
  have c5 := h.cell 5
  simp only [pkCells, List.getElem?_cons_succ, List.getElem?_cons_zero] at c3 c5
  have lk : (Instr.lookup 47 (.map (some y.mc)) (.int .i64 t) false).run Try.prog w = .ok (.int .i64 (c : Int)) w := h.mc.lookV (t : Int) (by omega) (by omega) hcl 0
  have lo := h.mo.boolN (t : Int) (by omega) (by omega) hof
  clear h hcl hof
  have hb : ((c : Int) == 0) = false := by rw [beq_eq_false_iff_ne]; omega
  go_enter Try.func16, Try.ntmps16
  go_wp2
  go_ret
  exact ⟨rfl, rfl⟩
set_option maxHeartbeats 1000000 in
theorem pkblock_fair {w0 : Env} {w : World} {p n : Nat} {s : PKS} (h : PkM w0 p n s w) (hn : n ≤ 900000) (t : Nat) (t1 : 1 ≤ t) (t2 : t ≤ 16) (hcl : s.cl (t : Int) = some (.int .i64 1)) (hof : s.of (t : Int) = none) (hl : s.ts.length ≤ 1000) (i : Nat) (x : FT) (hx : NumF s.ts i x (t : Int)) (hr : x.r = true) :
    Calls Try.prog 14 #[.pointer (some ⟨p, 0, none⟩), .int .i64 (t : Int)] w fun e w' => e = .returned (.int .i64 0) ∧ PkM w0 p (n + 1) { s with ts := s.ts.set i { x with r := false }, of := updM s.of (t : Int) (some (.bool true)) } w' := by
  obtain ⟨y, h, hn1, hn2, hn3⟩ := h
  have c3 := h.cell 3
  have c5 := h.cell 5
  have ck := h.cell 0
  simp only [pkCells, List.getElem?_cons_succ, List.getElem?_cons_zero] at c3 c5 ck
  have lk : (Instr.lookup 47 (.map (some y.mc)) (.int .i64 t) false).run Try.prog w = .ok (.int .i64 1) w := h.mc.lookV (t : Int) (by omega) (by omega) hcl 0
  have lo := h.mo.boolN (t : Int) (by omega) (by omega) hof
  have CC := fblock_ok w y.Ff y.pf s.ts i x (t : Int) h.fa hl hx
  unfold PBlockF at CC
  rw [hr] at CC
  replace CC := hid CC
  clear hx hr
  have H := hid h
  have HN : Hid (y.no ≤ 1000000) := hid (by omega)
  clear h hcl hof
  go_enter Try.func14, Try.ntmps14
  go_wp2_with fail
  refine CC.out.mono ?_
  rintro e w2 ⟨rfl, z1, z2⟩
  have K1 := H.out.fair z1 z2 (Grew.refl _ _) z1.lt
  have b5 := K1.cell 5
  simp only [pkCells, List.getElem?_cons_succ, List.getElem?_cons_zero] at b5
  replace K1 := hid K1
  clear z1 z2
  clear CC lk lo c3 c5 ck
  go_wp2_with (at_mapUpdate; refine wpList_store _ rfl _ _ _ 39 rfl (k := 3) (e := 4) Try.underlying3 Try.underlying39 y.mo y.no s.of rfl K1.out.mo HN.out (t : Int) (.bool true) rfl rfl (wf_key (by omega) (by omega)) ?_; intro w3 m1 m2; have K2 := hid (K1.out.off m1 m2); clear m1 m2)
  go_ret
  exact ⟨rfl, _, K2.out, by show y.nc ≤ n + 1; omega, by show y.nv ≤ n + 1; omega, by show y.no + 1 ≤ n + 1; omega⟩
set_option maxHeartbeats 1000000 in
theorem pkwake_fair {w0 : Env} {w : World} {p n : Nat} {s : PKS} (h : PkM w0 p n s w) (hn : n ≤ 900000) (t : Nat) (t1 : 1 ≤ t) (t2 : t ≤ 16) (hcl : s.cl (t : Int) = some (.int .i64 1)) (hof : s.of (t : Int) = some (.bool true)) (hl : s.ts.length ≤ 1000) (hg : ∀ y ∈ s.ts, y.g = 0) (i : Nat) (x : FT) (hx : NumF s.ts i x (t : Int)) (hr : x.r = false) :
    Calls Try.prog 16 #[.pointer (some ⟨p, 0, none⟩), .int .i64 (t : Int)] w fun e w' => e = .returned (.int .i64 0) ∧ ∃ o, FLeast s.ts s.ts.length o ∧ PkM w0 p (n + 1) { s with ts := s.ts.set i (wokenF o x), of := updM s.of (t : Int) none } w' := by
  obtain ⟨y, h, hn1, hn2, hn3⟩ := h
  have c3 := h.cell 3
  have c5 := h.cell 5
  have ck := h.cell 0
  simp only [pkCells, List.getElem?_cons_succ, List.getElem?_cons_zero] at c3 c5 ck
  have lk : (Instr.lookup 47 (.map (some y.mc)) (.int .i64 t) false).run Try.prog w = .ok (.int .i64 1) w := h.mc.lookV (t : Int) (by omega) (by omega) hcl 0
  have lo := h.mo.boolV (t : Int) (by omega) (by omega) hof
  have CC := hid (fwakeup_ok w y.Ff y.pf s.ts i x (t : Int) h.fa hl hg hx hr)
  clear hx hr hg
  have H := hid h
  have HN : Hid (y.no ≤ 1000000) := hid (by omega)
  clear h hcl hof
  go_enter Try.func16, Try.ntmps16
  go_wp2_with fail
  refine CC.out.mono ?_
  rintro e w2 ⟨o, ho, rfl, z1, z2⟩
  have K1 := H.out.fair z1 z2 (Grew.refl _ _) z1.lt
  have b5 := K1.cell 5
  simp only [pkCells, List.getElem?_cons_succ, List.getElem?_cons_zero] at b5
  replace K1 := hid K1
  replace ho := hid ho
  clear z1 z2
  clear CC lk lo c3 c5 ck
  go_wp2_with (at_delete; refine wpList_drop _ rfl _ _ 39 3 rfl (e := 4) Try.underlying3 Try.underlying39 y.mo y.no s.of rfl K1.out.mo (t : Int) rfl (wf_key (by omega) (by omega)) ?_; intro w3 m1 m2; have K2 := hid (K1.out.off m1 m2); clear m1 m2)
  go_ret
  exact ⟨rfl, o, ho.out, _, K2.out, by show y.nc ≤ n + 1; omega, by show y.nv ≤ n + 1; omega, by show y.no ≤ n + 1; omega⟩
set_option maxHeartbeats 1000000 in
theorem pkblock_prio {w0 : Env} {w : World} {p n : Nat} {s : PKS} (h : PkM w0 p n s w) (hn : n ≤ 900000) (t : Nat) (t1 : 1 ≤ t) (t2 : t ≤ 16) (hcl : s.cl (t : Int) = some (.int .i64 2)) (hof : s.of (t : Int) = none) (hl : ∀ i, i < 8 → (s.q i).length ≤ 999) (hb : s.b < 256) (i : Nat) (hi : i < 8) (ht : prOf s.q (t : Int) 8 = i) (hin : (t : Int) ∈ s.q i) :
    Calls Try.prog 14 #[.pointer (some ⟨p, 0, none⟩), .int .i64 (t : Int)] w fun e w' => e = .returned (.int .i64 0) ∧ PkM w0 p (n + 1) { s with b := outB s.b i (s.q i) (t : Int), q := upF s.q i (keepI (t : Int) (s.q i)), of := updM s.of (t : Int) (some (.bool true)) } w' := by
  obtain ⟨y, h, hn1, hn2, hn3⟩ := h
  have c3 := h.cell 3
  have c5 := h.cell 5
  have ck := h.cell 1
  simp only [pkCells, List.getElem?_cons_succ, List.getElem?_cons_zero] at c3 c5 ck
  have lk : (Instr.lookup 47 (.map (some y.mc)) (.int .i64 t) false).run Try.prog w = .ok (.int .i64 2) w := h.mc.lookV (t : Int) (by omega) (by omega) hcl 0
  have lo := h.mo.boolN (t : Int) (by omega) (by omega) hof
  have CC := pout_ok w y.Fp y.pp s.b s.q (t : Int) i h.pr (fun j hj => by have := hl j hj; omega) hb hi ht hin
  rw [show (if (keepI (t : Int) (s.q i)).length = 0 then clrB s.b i else s.b) = outB s.b i (s.q i) (t : Int) from rfl] at CC
  replace CC := hid CC
  clear hl hi ht hin
  have H := hid h
  have HN : Hid (y.no ≤ 1000000) := hid (by omega)
  clear h hcl hof
  go_enter Try.func14, Try.ntmps14
  go_wp2_with fail
  refine CC.out.mono ?_
  rintro e w2 ⟨F', rfl, z1, z2, z3⟩
  have K1 := H.out.prio z1 z2 z3
  have b5 := K1.cell 5
  simp only [pkCells, List.getElem?_cons_succ, List.getElem?_cons_zero] at b5
  replace K1 := hid K1
  clear z1 z2 z3
  clear CC lk lo c3 c5 ck
  go_wp2_with (at_mapUpdate; refine wpList_store _ rfl _ _ _ 39 rfl (k := 3) (e := 4) Try.underlying3 Try.underlying39 y.mo y.no s.of rfl K1.out.mo HN.out (t : Int) (.bool true) rfl rfl (wf_key (by omega) (by omega)) ?_; intro w3 m1 m2; have K2 := hid (K1.out.off m1 m2); clear m1 m2)
  go_ret
  exact ⟨rfl, _, K2.out, by show y.nc ≤ n + 1; omega, by show y.nv ≤ n + 1; omega, by show y.no + 1 ≤ n + 1; omega⟩
set_option maxHeartbeats 1000000 in
theorem pkblock_dead {w0 : Env} {w : World} {p n : Nat} {s : PKS} (h : PkM w0 p n s w) (hn : n ≤ 900000) (t : Nat) (t1 : 1 ≤ t) (t2 : t ≤ 16) (hcl : s.cl (t : Int) = some (.int .i64 3)) (hof : s.of (t : Int) = none) (hl : s.ds.length ≤ 1000) (i : Nat) (x : DT) (hx : Numbered s.ds i x (t : Int)) (hr : x.r = true) :
    Calls Try.prog 14 #[.pointer (some ⟨p, 0, none⟩), .int .i64 (t : Int)] w fun e w' => e = .returned (.int .i64 0) ∧ PkM w0 p (n + 1) { s with ds := s.ds.set i { x with r := false }, of := updM s.of (t : Int) (some (.bool true)) } w' := by
  obtain ⟨y, h, hn1, hn2, hn3⟩ := h
  have c3 := h.cell 3
  have c5 := h.cell 5
  have ck := h.cell 2
  simp only [pkCells, List.getElem?_cons_succ, List.getElem?_cons_zero] at c3 c5 ck
  have lk : (Instr.lookup 47 (.map (some y.mc)) (.int .i64 t) false).run Try.prog w = .ok (.int .i64 3) w := h.mc.lookV (t : Int) (by omega) (by omega) hcl 0
  have lo := h.mo.boolN (t : Int) (by omega) (by omega) hof
  have CC := dblock_ok w y.Fd y.pd s.nw s.ds i x (t : Int) h.de hl hx
  rw [hr] at CC
  replace CC := hid CC
  clear hx hr
  have H := hid h
  have HN : Hid (y.no ≤ 1000000) := hid (by omega)
  clear h hcl hof
  go_enter Try.func14, Try.ntmps14
  go_wp2_with fail
  refine CC.out.mono ?_
  rintro e w2 ⟨rfl, z1, z2⟩
  have K1 := H.out.dead z1 z2 (Grew.refl _ _) z1.lt
  have b5 := K1.cell 5
  simp only [pkCells, List.getElem?_cons_succ, List.getElem?_cons_zero] at b5
  replace K1 := hid K1
  clear z1 z2
  clear CC lk lo c3 c5 ck
  go_wp2_with (at_mapUpdate; refine wpList_store _ rfl _ _ _ 39 rfl (k := 3) (e := 4) Try.underlying3 Try.underlying39 y.mo y.no s.of rfl K1.out.mo HN.out (t : Int) (.bool true) rfl rfl (wf_key (by omega) (by omega)) ?_; intro w3 m1 m2; have K2 := hid (K1.out.off m1 m2); clear m1 m2)
  go_ret
  exact ⟨rfl, _, K2.out, by show y.nc ≤ n + 1; omega, by show y.nv ≤ n + 1; omega, by show y.no + 1 ≤ n + 1; omega⟩
set_option maxHeartbeats 1000000 in
theorem pkwake_dead {w0 : Env} {w : World} {p n : Nat} {s : PKS} (h : PkM w0 p n s w) (hn : n ≤ 900000) (t : Nat) (t1 : 1 ≤ t) (t2 : t ≤ 16) (hcl : s.cl (t : Int) = some (.int .i64 3)) (hof : s.of (t : Int) = some (.bool true)) (hl : s.ds.length ≤ 1000) (hnw : s.nw ≤ 1000000) (i : Nat) (x : DT) (hok : DOk s.nw x) (hx : Numbered s.ds i x (t : Int)) (hr : x.r = false) :
    Calls Try.prog 16 #[.pointer (some ⟨p, 0, none⟩), .int .i64 (t : Int)] w fun e w' => e = .returned (.int .i64 0) ∧ PkM w0 p (n + 1) { s with ds := s.ds.set i (wokeT s.nw x), of := updM s.of (t : Int) none } w' := by
  obtain ⟨y, h, hn1, hn2, hn3⟩ := h
  have c3 := h.cell 3
  have c5 := h.cell 5
  have ck := h.cell 2
  simp only [pkCells, List.getElem?_cons_succ, List.getElem?_cons_zero] at c3 c5 ck
  have lk : (Instr.lookup 47 (.map (some y.mc)) (.int .i64 t) false).run Try.prog w = .ok (.int .i64 3) w := h.mc.lookV (t : Int) (by omega) (by omega) hcl 0
  have lo := h.mo.boolV (t : Int) (by omega) (by omega) hof
  have CC := dwake_ok w y.Fd y.pd s.nw s.ds i x (t : Int) h.de hl (by omega) hok hx
  unfold PWake at CC
  rw [hr] at CC
  replace CC := hid CC
  clear hx hr hok
  have H := hid h
  have HN : Hid (y.no ≤ 1000000) := hid (by omega)
  clear h hcl hof
  go_enter Try.func16, Try.ntmps16
  go_wp2_with fail
  refine CC.out.mono ?_
  rintro e w2 ⟨rfl, z1, z2⟩
  have K1 := H.out.dead z1 z2 (Grew.refl _ _) z1.lt
  have b5 := K1.cell 5
  simp only [pkCells, List.getElem?_cons_succ, List.getElem?_cons_zero] at b5
  replace K1 := hid K1
  clear z1 z2
  clear CC lk lo c3 c5 ck
  go_wp2_with (at_delete; refine wpList_drop _ rfl _ _ 39 3 rfl (e := 4) Try.underlying3 Try.underlying39 y.mo y.no s.of rfl K1.out.mo (t : Int) rfl (wf_key (by omega) (by omega)) ?_; intro w3 m1 m2; have K2 := hid (K1.out.off m1 m2); clear m1 m2)
  go_ret
  exact ⟨rfl, _, K2.out, by show y.nc ≤ n + 1; omega, by show y.nv ≤ n + 1; omega, by show y.no ≤ n + 1; omega⟩
set_option maxHeartbeats 1000000 in
theorem pkwake_prio {w0 : Env} {w : World} {p n : Nat} {s : PKS} (h : PkM w0 p n s w) (hn : n ≤ 900000) (t : Nat) (t1 : 1 ≤ t) (t2 : t ≤ 16) (hcl : s.cl (t : Int) = some (.int .i64 2)) (hof : s.of (t : Int) = some (.bool true)) (hl : ∀ i, i < 8 → (s.q i).length ≤ 999) (hb : s.b < 256) (v : Nat) (hv : v < 8) (hva : s.va (t : Int) = some (.int .i64 (v : Int))) (ht : prOf s.q (t : Int) 8 = -1) :
    Calls Try.prog 16 #[.pointer (some ⟨p, 0, none⟩), .int .i64 (t : Int)] w fun e w' => e = .returned (.int .i64 0) ∧ PkM w0 p (n + 1) { s with b := s.b ||| 2 ^ v, q := upF s.q v (s.q v ++ [(t : Int)]), of := updM s.of (t : Int) none } w' := by
  obtain ⟨y, h, hn1, hn2, hn3⟩ := h
  have c3 := h.cell 3
  have c5 := h.cell 5
  have ck := h.cell 1
  simp only [pkCells, List.getElem?_cons_succ, List.getElem?_cons_zero] at c3 c5 ck
  have lk : (Instr.lookup 47 (.map (some y.mc)) (.int .i64 t) false).run Try.prog w = .ok (.int .i64 2) w := h.mc.lookV (t : Int) (by omega) (by omega) hcl 0
  have lo := h.mo.boolV (t : Int) (by omega) (by omega) hof
  have H0 := h.nil ((Chg.refl Nil w).drew)
  have e1 := H0.cell 1
  have e4 := H0.cell 4
  simp only [pkCells, List.getElem?_cons_succ, List.getElem?_cons_zero] at e1 e4
  have lv : (Instr.lookup 47 (.map (some y.mv)) (.int .i64 t) false).run Try.prog w.drew = .ok (.int .i64 (v : Int)) w.drew := H0.mv.lookV (t : Int) (by omega) (by omega) hva 0
  have CC := hid (pput_ok w.drew y.Fp y.pp s.b s.q (t : Int) v H0.pr hl hb (by omega) (by omega) hv ht)
  replace H0 := hid H0
  clear hl ht hva
  have H := hid h
  have HN : Hid (y.no ≤ 1000000) := hid (by omega)
  clear h hcl hof
  go_enter Try.func16, Try.ntmps16
  go_upto_region 10 with fail
  go_region_law (go_simp; go_at_call 33; refine CC.out.mono ?_; rintro e w2 ⟨F', rfl, z1, z2, z3⟩)
  all_goals
    have K1 := H0.out.prio z1 z2 z3
    have b5 := K1.cell 5
    simp only [pkCells, List.getElem?_cons_succ, List.getElem?_cons_zero] at b5
    replace K1 := hid K1
    clear z1 z2 z3 lv e1 e4
    clear CC lk lo c3 c5 ck
    go_wp2_with (at_delete; refine wpList_drop _ rfl _ _ 39 3 rfl (e := 4) Try.underlying3 Try.underlying39 y.mo y.no s.of rfl K1.out.mo (t : Int) rfl (wf_key (by omega) (by omega)) ?_; intro w3 m1 m2; have K2 := hid (K1.out.off m1 m2); clear m1 m2)
    go_ret
    exact ⟨rfl, _, K2.out, by show y.nc ≤ n + 1; omega, by show y.nv ≤ n + 1; omega, by show y.no ≤ n + 1; omega⟩
end Go.Proofs.Ytipmjfpoglkiaaa
