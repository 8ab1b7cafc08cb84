/- The walk of the law DeadBudget: it returns true and changes nothing that was there. No condition. -/
import Derived.Test.YtoocjfolhghjoaaMeetMem
import Derived.Test.YtoocjfolhghjoaaBudP
import Derived.Deep.CutBlock
namespace Go.Proofs.Ytoocjfolhghjoaa
open Go.ChangeShapes Go.WideShapes Go.ChangeAt Go.RowKit
set_option linter.unusedVariables false
theorem BInv.numbered0 {l : List Use} {m : Nat} {ts : List DT} (h : BInv l m ts) {x : DT} (hx : ts[0]? = some x) : Numbered ts 0 x 1 :=
  ⟨hx, by rw [h.num hx]; rfl, fun j y hj => absurd hj (by omega)⟩
/-- What was given, as numbers. -/
def natI (h : List Nat) : List Int := h.map fun (n : Nat) => (n : Int)
theorem natI_len (h : List Nat) : (natI h).length = h.length := by simp [natI]
theorem natI_get (h : List Nat) (i : Nat) (hi : i < h.length) : (natI h)[i]'(by rw [natI_len]; exact hi) = (h[i] : Int) := by simp [natI]
/-- The class, and what was given beside it. -/
structure BMem (B : Nat) (w0 : World) (F : Nat → Prop) (p now : Nat) (ts : List DT) (a : Option Addr) (n c : Nat) (h : List Nat) (w : World) : Prop where
  d : DMem B w0 F p now ts w
  sl : ∃ G, Sl w 3 1 a n c (ints .i64 (natI h)) G ∧ ∀ g, G = some g → B ≤ g ∧ ¬ F g
  sz : B ≤ w.heap.size
section
variable {B : Nat} {w0 w w' : World} {F : Nat → Prop} {p now : Nat} {ts : List DT} {a : Option Addr} {n c : Nat} {h : List Nat}
theorem BMem.drewN (hm : BMem B w0 F p now ts a n c h w) (k : Nat) : BMem B w0 F p now ts a n c h (w.drewN k) := ⟨hm.d.drewN k, by obtain ⟨G, h1, h2⟩ := hm.sl; exact ⟨G, h1.drewN k, h2⟩, hm.sz⟩
theorem BMem.step {F' : Nat → Prop} {now' : Nat} {ts' : List DT} (hm : BMem B w0 F p now ts a n c h w) (hd : DeadAt w' F' p now' ts') (hc : Chg F w w') (hg : Grew w.heap.size F F') : BMem B w0 F' p now' ts' a n c h w' := by
  refine ⟨hm.d.step hd hc hg hm.sz, ?_, Nat.le_trans hm.sz hc.size⟩
  obtain ⟨G, h1, h2⟩ := hm.sl
  refine ⟨G, h1.chg hc (fun g hg' => (h2 g hg').2), fun g hg' => ⟨(h2 g hg').1, fun hF => ?_⟩⟩
  rcases hg g hF with h3 | h3
  · exact (h2 g hg').2 h3
  · have := h1.lt g hg'; omega
end
theorem adv_zero (g off c s : Nat) : adv (some ⟨g, off, none⟩) c 0 s = some ⟨g, off, none⟩ := by
  unfold adv
  split
  · rfl
  · rw [Option.map_some, add_off, Nat.zero_mul, Nat.add_zero]
/-- One more is given. -/
theorem BMem.push {B : Nat} {w0 w w1 : World} {F : Nat → Prop} {p now : Nat} {ts : List DT} {a a' : Option Addr} {n c c' : Nat} {h : List Nat} {G G' : Option Nat} (hm : BMem B w0 F p now ts a n c h w) (hG : ∀ g, G = some g → B ≤ g ∧ ¬ F g)
    (y1 : Sl w1 3 1 a' (n + 1) c' (ints .i64 (natI h) ++ ints .i64 [0]) G') (y2 : Chg (Opt G) (w.alloc (.cells #[.int .i64 0] 3)) w1) (y3 : G' = G ∨ G' = some (w.alloc (.cells #[.int .i64 0] 3)).heap.size) : BMem B w0 F p now ts a' (n + 1) c' (h ++ [0]) w1 := by
  have hc := push_chg y2
  refine ⟨hm.d.chg hc (fun k h1 h2 => (hG k h2).2 h1) hm.sz (fun k h2 => (hG k h2).1), ⟨G', ?_, fun g hg => ?_⟩, Nat.le_trans hm.sz hc.size⟩
  · rw [ints_append] at y1
    have e : natI h ++ [0] = natI (h ++ [0]) := by simp [natI]
    rwa [e] at y1
  · rcases push_grew y3 g hg with h1 | h1
    · exact hG g h1
    · refine ⟨by have := hm.sz; omega, fun hF => ?_⟩
      have := hm.d.dead.lt g hF
      omega
theorem BMem.put1 {B : Nat} {w0 w : World} {F : Nat → Prop} {p now : Nat} {ts : List DT} {g off n c : Nat} {h : List Nat} (hm : BMem B w0 F p now ts (some ⟨g, off, none⟩) (n + 1) c (h ++ [0]) w) (hn : h.length = n) : BMem B w0 F p now ts (some ⟨g, off, none⟩) (n + 1) c (h ++ [1]) (w.setCell ⟨g, off + n, none⟩ (.int .i64 1)) := by
  obtain ⟨G, h1, h2⟩ := hm.sl
  obtain ⟨g', off', e1, e2, e3⟩ := h1.block (by omega)
  injection e1 with e1
  injection e1 with e1 e1'
  subst e1; subst e1'; subst e2
  refine ⟨hm.d.chg ((Chg.refl (One g) w).setCell (p := ⟨g, off + n, none⟩) (.inl (show One g g from rfl)) _) (fun k q1 q2 => (h2 g rfl).2 ((show k = g from q2) ▸ q1)) hm.sz (fun k q => by rw [show k = g from q]; exact (h2 g rfl).1), ⟨some g, ?_, h2⟩, by simpa [World.setCell] using hm.sz⟩
  have := h1.put (i := n) (by omega) (.int .i64 1)
  have e : (ints .i64 (natI (h ++ [0]))).set n (.int .i64 1) = ints .i64 (natI (h ++ [1])) := by
    subst hn
    simp [natI, ints]
  rwa [e] at this
set_option maxRecDepth 100000 in
set_option maxHeartbeats 4000000 in
theorem deadBudget_walk (a0 a1 : Int) (a2 : Option Addr) (len2 cap2 : Nat) (z2 : List Int) (w : World) (w0 : (Lit.int .i64 a0).wf = true) (w1 : (Lit.int .i64 a1).wf = true) (w2 : IsRow .i64 w a2 len2 cap2 z2) :
    Calls Try.prog 7 #[.int .i64 a0, .int .i64 a1, .slice a2 len2 cap2] w fun e w' => e = .returned (.bool true) ∧ Below w.heap.size w w' := by
  have hl1 := w2.1.1
  have hl2 := w2.1.2.1
  unfold maxLen at hl2
  have Z2 := hid w2.1.ilen
  have W2 := hid w2.1
  clear w2
  go_enter Try.func7, Try.ntmps7
  go_wp2_with fail
  refine (dbegun_ok _).mono ?_
  rintro e w1 ⟨rfl, c1⟩
  have C1 := hid (Chg.below c1 (fun i hi h => h) (Nat.le_refl _))
  clear c1
  go_wp2_with fail
  refine (rest_nat _ 30 _ (by omega) (by omega)).mono ?_
  rintro e w2 ⟨p0, hp0, rfl, rfl⟩
  obtain ⟨P, hP⟩ : ∃ P : Nat, 1 + (p0 : Int) = (P : Int) := ⟨p0 + 1, by omega⟩
  have hP1 : 1 ≤ P := by omega
  have hP2 : P ≤ 30 := by omega
  go_wp2_with fail
  refine (rest_nat _ (P : Int) _ (by omega) (by omega)).mono ?_
  rintro e w2 ⟨q0, hq0, rfl, rfl⟩
  obtain ⟨Q, hQ⟩ : ∃ Q : Nat, 1 + (q0 : Int) = (Q : Int) := ⟨q0 + 1, by omega⟩
  have hQ1 : 1 ≤ Q := by omega
  have hQ2 : Q ≤ P := by omega
  clear hp0 hq0
  go_wp2_with fail
  refine (dnew_ok _).mono ?_
  rintro e w2 ⟨F, p, rfl, h2, c2, g2⟩
  have hI : DMem w.heap.size w F p 0 [] w2 := ⟨h2, fun k hk => by
    rcases g2 k hk with h | h
    · exact h.elim
    · have := C1.out.size; omega, C1.out.trans (Chg.below c2 (fun i hi h => h) C1.out.size)⟩
  replace hI := hid hI
  have hsz : w.heap.size ≤ w2.heap.size := hI.out.size
  clear h2 c2 g2 C1
  go_wp2_with fail
  refine (dadd_ok _ F p 0 [] 1 Q P hI.out.dead (by simp) (by omega) (by omega) (by omega) hQ1 hQ2 hP2 (by simp)).mono ?_
  rintro e w3 ⟨F3, rfl, h3, c3, g3⟩
  have hI3 := hid (hI.out.step h3 c3 g3 hsz)
  have hsz3 : w.heap.size ≤ w3.heap.size := hI3.out.size
  clear h3 c3 g3 hI hsz
  go_wp2_with fail
  refine (dadd_ok _ F3 p 0 ([] ++ [newT 1 Q P 0]) 2 1 30 hI3.out.dead (by simp) (by omega) (by omega) (by omega) (by omega) (by omega) (by omega) (by simp [newT])).mono ?_
  rintro e w4 ⟨F4, rfl, h4, c4, g4⟩
  have hI4 := hI3.out.step h4 c4 g4 hsz3
  have e4 : ([] ++ [newT 1 Q P 0] ++ [newT 2 1 30 0]) = addTs (budUses Q P) 2 := rfl
  rw [e4] at hI4
  have hM : BMem w.heap.size w F4 p 0 (addTs (budUses Q P) 2) none 0 0 [] w4 := ⟨hI4, ⟨none, Sl.empty _ _ _ _, fun g h => by cases h⟩, hI4.size⟩
  have hBd := hid (bud_new hQ1 hQ2 hP2)
  replace hM := hid hM
  clear h4 c4 g4 hI3 hsz3 hI4 e4
  obtain ⟨B, hB⟩ : ∃ B, B = w.heap.size := ⟨_, rfl⟩
  rw [← hB] at hM
  replace hB := hid hB
  replace hP := hid hP
  replace hQ := hid hQ
  go_upto_region 9 with fail
  go_cut [43, 44, 45] (fun s43 s44 s45 wx => wx = w4 ∧ ∃ N : Nat, N ≤ 200 ∧ N ≤ len2 ∧ s43 = .slice a2 N cap2 ∧ s44 = .int .i64 N ∧ s45 = .int .i64 0)
  case first =>
    go_wp2
    · go_meet
      exact ⟨rfl, 200, by omega, by omega, rfl, rfl, rfl⟩
    · go_meet
      exact ⟨rfl, len2, by omega, by omega, by simp, by simp, rfl⟩
  case rest =>
    obtain ⟨rfl, N, hN1, hN2, rfl, rfl, rfl⟩ := hcut
    go_wp2
    go_loopw [8, 45] (fun s8 s45 wr => ∃ (m : Nat) (F : Nat → Prop) (ts : List DT) (a : Option Addr) (c : Nat) (h : List Nat), m ≤ N ∧ s45 = .int .i64 m ∧ s8 = .slice a m c ∧ Hid (Bud Q P m h ts) ∧ Hid (BMem B w F p m ts a m c h wr)) (fun _ s45 _ => N - (intOf s45).toNat)
    case atStart => exact ⟨0, F4, _, none, 0, [], by omega, rfl, rfl, hBd, hM⟩
    case round =>
      clear hBd hM
      obtain ⟨m, F, ts, a, c, h, hm, rfl, rfl, hBd, hM⟩ := hrel
      obtain ⟨wo, hwo⟩ : ∃ wo : World, wo = wr := ⟨_, rfl⟩
      subst hwo
      have hBel : Below w.heap.size w wo := by have := hM.out.d.bel; rwa [hB.out] at this
      have HBL := hid hBel
      clear hBel
      have htl : ts.length = 2 := hBd.out.inv.len
      have HTL := hid htl
      by_cases hlt : m < N
      · have hz : m < z2.length := by have := Z2.out; omega
        obtain ⟨g, off, rfl, _, _, hc⟩ := (W2.out.below HBL.out (fun _ h => h)).at hz
        have hc1 := hc m hz
        clear hc
        generalize z2[m] = z at hc1
        obtain ⟨x, hx, x1, x2, x3, x4⟩ := hBd.out.at0
        have HNUM := hid (hBd.out.inv.numbered0 hx)
        have HX := hid hx
        have HXK := hid x4
        clear hx x1 x2 x3 x4
        have htl2 : ts.length ≤ 1000 := by omega
        clear htl
        go_upto_block 2 with (go_at_call 13; refine (rest_nat _ 8 _ (by omega) (by omega)).mono ?_; rintro e w5 ⟨s, hs, rfl, rfl⟩)
        go_cut [51] (fun _ wx => ∃ ts, Hid (Bud Q P m h ts) ∧ Hid (BMem B w F p m ts a m c h wx))
        case first =>
          have hs3 : s = 0 ∨ (s = 1 ∨ s = 2) ∨ 3 ≤ s := by omega
          rcases hs3 with rfl | hs3 | hs3
          · go_wp2_with fail
            refine (dblock_ok _ F p m ts 0 x _ hM.out.d.dead htl2 HNUM.out).mono ?_
            rintro e w6 ⟨rfl, h6, c6⟩
            replace h6 := hid h6
            replace c6 := hid c6
            go_wp2
            all_goals
              go_meet
              exact ⟨_, hBd.out.block HX.out, hM.out.step h6.out c6.out (Grew.refl _ _)⟩
          · have b0 : ((s : Int) == 0) = false := by rw [beq_eq_false_iff_ne]; omega
            rcases hs3 with rfl | rfl
            all_goals
              go_wp2_with fail
              refine (dwake_ok _ F p m ts 0 x _ hM.out.d.dead htl2 (by omega) HXK.out HNUM.out).mono ?_
              rintro e w6 ⟨rfl, h6, c6⟩
              replace h6 := hid h6
              replace c6 := hid c6
              go_wp2
              all_goals
                go_meet
                exact ⟨_, hBd.out.wake HX.out, hM.out.step h6.out c6.out (Grew.refl _ _)⟩
          · have b0 : ((s : Int) == 0) = false := by rw [beq_eq_false_iff_ne]; omega
            have b1 : ((s : Int) == 1) = false := by rw [beq_eq_false_iff_ne]; omega
            have b2 : ((s : Int) == 2) = false := by rw [beq_eq_false_iff_ne]; omega
            go_wp2
            go_meet
            exact ⟨ts, hBd, hM⟩
        case rest =>
          clear hBd hM HNUM HX HXK HTL htl2
          obtain ⟨ts, hBd, hM⟩ := hcut
          obtain ⟨wv, rfl⟩ : ∃ wv : World, wv = wc := ⟨_, rfl⟩
          have htl2 : ts.length ≤ 1000 := by have := hBd.out.inv.len; simp [budUses] at this; omega
          go_wp2_with fail
          refine (dtick_ok _ F p m ts hM.out.d.dead htl2 (by omega) hBd.out.inv.ok).mono ?_
          rintro e w6 ⟨b, hb, rfl, h6, c6⟩
          have hBd2 := hid (hBd.out.tick hP2 hb)
          have hM2 := hid (hM.out.step h6 c6 (Grew.refl _ _))
          have HN1 : Hid (numOf ts b = 1 ↔ b = some 0) := by
            show numOf ts b = 1 ↔ b = some 0
            cases b with
            | none => simp [numOf]
            | some j =>
              obtain ⟨y, _, hy, _⟩ := hb
              have := hBd.out.inv.num hy
              simp only [numOf, hy, Option.map_some, Option.getD_some, this, Option.some.injEq]
              omega
          clear h6 c6
          obtain ⟨t, ht⟩ : ∃ t, t = numOf ts b := ⟨_, rfl⟩
          rw [← ht] at HN1 ⊢
          replace hb := hid hb
          replace ht := hid ht
          obtain ⟨ts', hts'⟩ : ∃ ts', ts' = tickTs m ts b := ⟨_, rfl⟩
          rw [← hts'] at hBd2 hM2
          replace hts' := hid hts'
          have HLEN := hid hBd.out.len
          obtain ⟨G, s1, s2⟩ := id hM2.out.sl
          have S1 := hid (s1.alloc (.cells #[.int .i64 0] 3))
          have S2 := hid s2
          have N1 := hid (Rd.of_blk (n := 1) (s := 1) (Blk.new w6 3 (ints .i64 [0])) rfl (by decide))
          clear s1 s2 hM hBd
          go_upto_if 66 with (at_builtin; refine wpList_append_sl rfl _ _ eInt rfl rfl rfl S1.out N1.out (ints_one _ _) (by omega) (by omega) ?_; intro a' c' w7 G' y1 y2 y3; have hM3 := hid (hM2.out.push S2.out y1 y2 y3); clear y1 y2 y3)
          obtain ⟨g7, off7, rfl, hgg7⟩ : ∃ g off, a' = some ⟨g, off, none⟩ ∧ w7.frozen? ⟨g, off + m, none⟩ = false ∧ w7.cell? ⟨g, off + m, none⟩ = some (.int .i64 0) := by
            obtain ⟨G7, z1, _⟩ := hM3.out.sl
            obtain ⟨g7, off7, e7, _, _⟩ := z1.block (by omega)
            subst e7
            refine ⟨g7, off7, rfl, z1.unfrozen (by omega), ?_⟩
            obtain ⟨g8, off8, e8, _, _, hc⟩ := z1.rd.cellAt (by omega)
            injection e8 with e8
            injection e8 with e8 e8'
            subst e8; subst e8'
            rw [hc m (by omega)]
            have := HLEN.out
            simp [ints, natI, this]
          obtain ⟨hfz, hc7⟩ := hgg7
          obtain ⟨h', hh'⟩ : ∃ h' : List Nat, h' = h ++ [if b = some 0 then 1 else 0] := ⟨_, rfl⟩
          rw [← hh'] at hBd2
          replace hh' := hid hh'
          clear S1 S2 N1 hM2
          go_cut [66] (fun _ wx => Hid (BMem B w F p (m + 1) ts' (some ⟨g7, off7, none⟩) (m + 1) c' h' wx))
          case first =>
            by_cases ht1 : t = 1
            · subst ht1
              have e : h' = h ++ [1] := by rw [hh'.out, if_pos (HN1.out.1 rfl)]
              replace e := hid e
              go_wp2
              go_meet
              rw [e.out]
              exact hM3.out.put1 HLEN.out
            · have hb1 : ((t : Int) == 1) = false := by rw [beq_eq_false_iff_ne]; omega
              have e : h' = h ++ [0] := by rw [hh'.out, if_neg (fun hh => ht1 (HN1.out.2 hh))]
              replace e := hid e
              replace ht1 := hid ht1
              go_wp2
              go_meet
              rw [e.out]
              exact hM3
          case rest =>
            have hM4 := hcut
            obtain ⟨wu, rfl⟩ : ∃ wu : World, wu = wc := ⟨_, rfl⟩
            clear hcut hM3 hc7 hfz
            have HLN2 : Hid (h'.length = m + 1) := hBd2.out.len
            obtain ⟨G4, s4, _⟩ := id hM4.out.sl
            have hc4 := s4.1
            have hc5 := s4.2.1
            unfold maxLen at hc5
            obtain ⟨k0, hk0⟩ : ∃ k0 : Nat, k0 = m + 1 - P := ⟨_, rfl⟩
            have hk1 : k0 ≤ m + 1 := by omega
            have hsl := run_from eInt (some ⟨g7, off7, none⟩) (m + 1) c' k0 (k0 : Int) rfl hk1
            have hR := s4.rd.drop_n hk1
            have e5 : (ints .i64 (natI h')).drop (k0 * 1) = ints .i64 (natI (h'.drop k0)) := by simp [ints, natI, List.map_drop]
            rw [e5] at hR
            have HRD := hid hR
            clear hR e5 s4
            have hmx : (if (0 : Int) < ((m : Int) + 1) - (P : Int) then ((m : Int) + 1) - (P : Int) else 0) = (k0 : Int) := by split <;> omega
            go_upto_region 23 with (fail)
            go_cut [78, 79, 80] (fun s78 s79 s80 wx => wx = wu ∧ s78 = .slice (adv (some ⟨g7, off7, none⟩) c' k0 1) (m + 1 - k0) (c' - k0) ∧ s79 = .int .i64 ((m + 1 - k0 : Nat) : Int) ∧ s80 = .int .i64 0)
            case first =>
              by_cases hmp : P < m + 1
              · have hk2 : (m : Int) + 1 - (P : Int) = (k0 : Int) := by omega
                have hk3 : 0 < k0 := by omega
                clear hmx
                replace hk0 := hid hk0
                go_wp2
                go_meet
                refine ⟨rfl, ?_, ?_, rfl⟩ <;> first | rfl | (simp; done) | (simp; omega)
              · obtain rfl : k0 = 0 := by omega
                clear hmx
                replace hk0 := hid hk0
                go_wp2
                go_meet
                rw [adv_zero]
                exact ⟨rfl, rfl, by simp, rfl⟩
            case rest =>
              obtain ⟨rfl, rfl, rfl, rfl⟩ := hcut
              obtain ⟨wt, rfl⟩ : ∃ wt : World, wt = wc := ⟨_, rfl⟩
              clear hmx hsl
              obtain ⟨v, hv⟩ : ∃ v, v = h'.drop k0 := ⟨_, rfl⟩
              rw [← hv] at HRD
              have hvl : v.length = m + 1 - k0 := by rw [hv, List.length_drop, HLN2.out]
              have hvs : ∀ k, (v.take k).sum ≤ k := fun k => by
                have h1 := sum_le_len (v.take k) (fun y hy => hBd2.out.bits y (by have := List.mem_of_mem_take hy; rw [hv] at this; exact List.mem_of_mem_drop this))
                have h2 := List.length_take_le k v
                omega
              have hfinal : v.sum ≤ 3 * Q := by rw [hv]; exact hBd2.out.sum hP1 hQ2 k0 (by omega) (by omega)
              rw [← hvl]
              have HVL := hid hvl
              have HVS := hid hvs
              have HV := hid hv
              have hvm : v.length ≤ m + 1 := by omega
              clear hvl hvs hv
              obtain ⟨x, hx, x1, x2, x3, x4⟩ := hBd2.out.at0
              have HNUM := hid (hBd2.out.inv.numbered0 hx)
              have hlq := x4.l2
              rw [x2] at hlq
              have HOZ := hid x4.oz
              have htl3 : ts'.length ≤ 1000 := by have := hBd2.out.inv.len; simp [budUses] at this; omega
              clear hx x1 x2 x3 x4
              obtain ⟨A, hA⟩ : ∃ A, A = adv (some ⟨g7, off7, none⟩) c' k0 1 := ⟨_, rfl⟩
              rw [← hA] at HRD ⊢
              clear hA
              rw [← HVL.out] at HRD
              go_wp2
              go_loop [12, 80] (fun s12 s80 => ∃ k : Nat, k ≤ v.length ∧ s80 = .int .i64 k ∧ s12 = .int .i64 ((v.take k).sum : Nat)) (fun _ s80 => v.length - (intOf s80).toNat)
              case atStart => exact ⟨0, by omega, rfl, rfl⟩
              case round =>
                obtain ⟨k, hk, rfl, rfl⟩ := hrel
                have hsk := HVS.out k
                by_cases hkv : k < v.length
                · obtain ⟨g9, off9, rfl, _, _, hc⟩ := HRD.out.at (i := k) (by rw [natI_len]; exact hkv)
                  have hck := hc k (by rw [natI_len]; exact hkv)
                  rw [natI_get v k hkv] at hck
                  clear hc
                  have hs1 := HVS.out (k + 1)
                  have hts : (v.take (k + 1)).sum = (v.take k).sum + v[k] := by rw [List.take_succ_eq_append_getElem hkv, List.sum_append]; simp
                  rw [hts] at hs1
                  replace hts := hid hts
                  go_wp2
                  go_round
                  case rel => exact ⟨k + 1, by omega, by go_num, by rw [hts.out]; go_num⟩
                  case measure => simp [intOf]; omega
                · obtain rfl : k = v.length := by omega
                  rw [List.take_length] at hsk ⊢
                  go_wp2_with fail
                  refine (dat_ok _ F p (m + 1) ts' 0 x _ hM4.out.d.dead htl3 HNUM.out).mono ?_
                  rintro e w8 ⟨rfl, n8, rfl⟩
                  cases ho : x.o with
                  | true =>
                    have hl0 := HOZ.out.1 ho
                    have b1 : ((x.l : Int) == 0) = true := by rw [hl0]; rfl
                    replace hl0 := hid hl0
                    replace ho := hid ho
                    go_wp2
                    go_roundw
                    case rel => exact ⟨m + 1, F, ts', _, c', h', by omega, by go_num, rfl, hBd2, hM4.out.drewN _⟩
                    case measure => simp [intOf]; omega
                  | false =>
                    have hl0 : x.l ≠ 0 := fun hh => by have := HOZ.out.2 hh; rw [ho] at this; cases this
                    have b1 : ((x.l : Int) == 0) = false := by rw [beq_eq_false_iff_ne]; omega
                    replace ho := hid ho
                    replace hl0 := hid hl0
                    go_wp2
                    go_roundw
                    case rel => exact ⟨m + 1, F, ts', _, c', h', by omega, by go_num, rfl, hBd2, hM4.out.drewN _⟩
                    case measure => simp [intOf]; omega
      · go_wp2_with fail
        refine (dnow_ok _ F p m ts hM.out.d.dead).mono ?_
        rintro e w5 ⟨rfl, rfl⟩
        go_wp2
        go_ret
        exact ⟨rfl, HBL.out⟩
end Go.Proofs.Ytoocjfolhghjoaa
