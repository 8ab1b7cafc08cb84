/- Contracts of the lock that many may hold: go_, whole. Conditions: at most 1000 hold it or wait. -/
import Derived.Test.YtdelelpfombfbaaMany3
namespace Go.Proofs.Ytdelelpfombfbaa
open Go.ChangeShapes Go.WideShapes Go.ChangeAt Go.RowKit
set_option linter.unusedVariables false
set_option maxHeartbeats 4000000 in
theorem mgo_ok (w : World) (F : Nat → Prop) (p : Nat) (s : MS) (h : MnAt w F p s) (hl : s.rd.length + s.row.length ≤ 1000) :
    Calls Try.prog 45 #[.pointer (some ⟨p, 0, none⟩)] w (PGo F p (goM s.rd s.wr s.row) w) := by
  have I0 : Hid (GoJ w F p s s.rd s.wr s.row [] none 0 w) := hid ⟨F, none, h, Chg.refl _ _, Grew.refl _ _, ⟨Sl.empty _ _ _ _, (fun g h => by cases h), (fun g h => by cases h)⟩, by rw [List.nil_append]⟩
  clear h
  go_enter Try.func45, Try.ntmps45
  go_wp2
  go_loopw [3] (fun s3 wr => ∃ (rd : List Int) (v : Int) (row : List WN) (out : List Int) (ao : Option Addr) (co : Nat), s3 = .slice ao out.length co ∧ Hid (rd.length + row.length ≤ 1000 ∧ out.length + row.length = s.row.length) ∧ Hid (GoJ w F p s rd v row out ao co wr)) (fun s3 _ => s.row.length - lenV s3)
  case atStart => exact ⟨s.rd, s.wr, s.row, [], none, 0, rfl, ⟨hl, by simp⟩, I0⟩
  case round =>
    obtain ⟨rd, v, row, out, ao, co, rfl, hB, hJ⟩ := hrel
    obtain ⟨F1, Go, j1, j2, j3, j4, j5⟩ := id hJ.out
    obtain ⟨a, c, G, b, d, H, j1⟩ := j1
    have d0 := j1.c0
    have d1 := j1.c1
    have d2 := j1.c2
    clear I0
    cases row with
    | nil =>
      clear j1 j2 j3 j4 j5 d0 d1
      simp only [List.length_nil] at d2
      go_wp2
      go_ret
      exact goJ_end hJ.out (goM_nil _ _)
    | cons x row =>
      simp only [List.length_cons] at d2
      by_cases hv : v = 0
      · subst hv
        obtain ⟨g, off, rfl, _, _, hc⟩ := j1.row.rd.elem wn_len rfl (by simp)
        have e0 := hc 0 (by simp) 0 (by omega)
        have e1 := hc 0 (by simp) 1 (by omega)
        clear hc
        simp only [wnCells, List.getElem?_cons_succ, List.getElem?_cons_zero, List.getElem_cons_zero, Nat.add_zero, Nat.zero_mul] at e0 e1
        cases hxw : x.w with
        | true =>
          by_cases hr : rd = []
          · subst hr
            rw [hxw] at e1
            have HN := hid (goM_write row hxw (rd := []) rfl)
            have A0 := j1.nil ((Chg.refl Nil wr).alloc (.cells #[.int .i64 x.t, .bool true] 98))
            have A1 := A0.setW x.t
            have k0 : (wr.alloc (.cells #[.int .i64 x.t, .bool true] 98)).cell? ⟨p, 0, none⟩ = some (.slice a 0 c) := A0.c0
            have k1 : (wr.alloc (.cells #[.int .i64 x.t, .bool true] 98)).cell? ⟨p, 1, none⟩ = some (.int .i64 0) := A0.c1
            have k2 : (wr.alloc (.cells #[.int .i64 x.t, .bool true] 98)).frozen? ⟨p, 1, none⟩ = false := A0.blk.frozen 1
            have CW : Chg F1 wr ((wr.alloc (.cells #[.int .i64 x.t, .bool true] 98)).setCell ⟨p, 1, none⟩ (.int .i64 x.t)) := ((Chg.refl F1 wr).alloc _).setCell (p := ⟨p, 1, none⟩) (.inl j1.fp) _
            have KB := (Blk.new wr 98 [.int .i64 x.t, .bool true])
            have hpl := j1.lt p j1.fp
            have KB2 := KB.far (p := ⟨p, 1, none⟩) (show wr.heap.size ≠ p by omega) (.int .i64 x.t)
            have KQ := hid (KB2.cell 0)
            simp only [List.getElem?_cons_zero] at KQ
            have OS := hid (j4.sl.chg CW j4.no)
            have HNO := hid j4.no
            have FR := hid j4.fr
            have C1 := hid CW
            have G1 := hid (Grew.refl wr.heap.size F1)
            have MA1 := hid A1
            have J2 := hid j2
            have J3 := hid j3
            have J5 := hid j5
            clear j1 j2 j3 j4 j5 A0 A1 CW KB KB2 hJ hxw hpl
            obtain ⟨q, hq⟩ : ∃ q, q = wr.heap.size := ⟨_, rfl⟩
            rw [← hq] at KQ
            replace hq := hid hq
            go_upto_region 8 with fail
            rw [← hq.out]
            clear d0 d1 d2 e0 e1 k0 k1 k2
            generalize World.setCell (World.alloc wr _) _ _ = W1 at KQ OS C1 MA1 ⊢

            have kq := KQ.out
            have HS1 := hid (OS.out.alloc (.cells #[.int .i64 x.t] 3))
            have HN1 := hid (Rd.of_blk (n := 1) (s := 1) (Blk.new W1 3 (ints .i64 [x.t])) rfl (by decide))
            have hlo : out.length ≤ 1000 := by have := hB.out; omega
            have hlr : row.length ≤ 1000 := by have := hB.out.1; simp at this; omega
            go_upto_region 9 with (at_builtin; refine wpList_append_sl rfl _ _ eInt rfl rfl rfl HS1.out HN1.out (ints_one _ _) (by omega) (by omega) ?_; intro a' c' w2 G' q1 q2 q3; replace q1 := hid q1; replace q2 := hid q2; replace q3 := hid q3)
            clear kq
            have CO : Chg (Opt Go) W1 w2 := ((Chg.refl _ W1).alloc _).trans q2.out (fun _ _ h => h)
            have M2 := MA1.out.chg CO (fun k hF hg => HNO.out k hg hF)
            have x2 := M2.c2
            simp only [List.length_cons] at x2
            have y2 : ∀ w, (Instr.slice 80 (.slice (some ⟨g, off, none⟩) (row.length + 1) d) (some (.int .i64 1)) none none).run Try.prog w = .ok (.slice (adv (some ⟨g, off, none⟩) d 1 2) row.length (d - 1)) w := fun w => run_from eWant (some ⟨g, off, none⟩) (row.length + 1) d 1 1 rfl (by omega) w
            have RD : Rd w2 (Opt H) 2 (adv (some ⟨g, off, none⟩) d 1 2) row.length (d - 1) (row.flatMap wnCells) := M2.row.rd.drop_n (k := 1) (by simp)
            have CL := hid (clone_wn _ _ _ _ _ _ RD (wns_one row) (by omega))
            have HM2 := hid M2
            have HCO := hid CO
            clear M2 CO RD HS1 HN1 OS
            go_wp2_with fail
            refine CL.out.mono ?_
            rintro e w3 ⟨b3, d3, H3, rfl, z1, z2, z3⟩
            have fz : w3.frozen? ⟨p, 2, none⟩ = false := (HM2.out.nil z2).blk.frozen 2
            have cz := (HM2.out.nil z2).c2
            obtain ⟨u1, u2, u3⟩ := HM2.out.setQ (row' := row) (z2.mono (fun _ _ h => h.elim)) z1 (fun g hg => .inr (z3 g hg))
            have FIN := hid (goJ_step J2.out J3.out FR.out J5.out C1.out G1.out HCO.out u2 u3 ⟨_, _, _, _, _, _, u1⟩ HN.out (sl_push rfl q1.out) (by
              rcases q3.out with h | h
              · exact .inl h
              · refine .inr (fun g hg => ?_)
                rw [h] at hg
                injection hg with hg
                simp at hg
                omega) HNO.out MA1.out.lt)
            clear x2 y2 u1 u2 u3 z1 z2 z3 CL
            go_wp2
            go_roundw
            case rel =>
              refine ⟨_, _, row, out ++ [x.t], a', c', ?_, hid ⟨?_, ?_⟩, FIN⟩
              · rw [List.length_append]; rfl
              · have := hB.out.1; simp only [List.length_cons, List.length_nil] at this ⊢; omega
              · have := hB.out.2; simp only [List.length_cons, List.length_append, List.length_nil] at this ⊢; omega
            case measure =>
              have := hB.out.2
              simp only [List.length_cons] at this
              simp only [lenV]
              omega
          · have hr1 : (0 : Int) < (rd.length : Int) := by
              have := List.length_pos_iff.2 hr
              omega
            rw [hxw] at e1
            have HS := hid (goM_stop row hxw hr)
            have f0 : (wr.alloc (.cells #[.int .i64 x.t, .bool true] 98)).cell? ⟨p, 0, none⟩ = some (.slice a rd.length c) := (j1.nil ((Chg.refl Nil wr).alloc _)).c0
            have hJ2 : Hid (GoJ w F p s rd 0 (x :: row) out ao co (wr.alloc (.cells #[.int .i64 x.t, .bool true] 98))) := hid ⟨F1, Go, ⟨a, c, G, _, d, H, j1.nil ((Chg.refl Nil wr).alloc _)⟩, j2.alloc _, j3, ⟨j4.sl.alloc _, j4.fr, j4.no⟩, j5⟩
            clear j1 j2 j3 j4 j5 hJ hr hxw
            go_wp2
            go_ret
            exact goJ_end hJ2.out HS.out
        | false =>
          rw [hxw] at e1
          have HN := hid (goM_read row hxw (rd := rd))
          have A0 := j1.nil ((Chg.refl Nil wr).alloc (.cells #[.int .i64 x.t, .bool false] 98))
          have CW0 : Chg Nil wr (wr.alloc (.cells #[.int .i64 x.t, .bool false] 98)) := (Chg.refl Nil wr).alloc _
          have KB := (Blk.new wr 98 [.int .i64 x.t, .bool false])
          have OS0 := hid (j4.sl.chg CW0 (fun _ _ h => h))
          have HNO0 := hid j4.no
          have HGL := hid j4.sl.lt
          have FR := hid j4.fr
          have J2 := hid j2
          have J3 := hid j3
          have J5 := hid j5
          have hsz0 : wr.heap.size ≤ (wr.alloc (.cells #[.int .i64 x.t, .bool false] 98)).heap.size := CW0.size
          have HPL := hid (j1.lt p j1.fp)
          have HJL := hid j1.lt
          obtain ⟨q, hq⟩ : ∃ q, q = wr.heap.size := ⟨_, rfl⟩
          rw [← hq] at KB
          have HQ := hid hq
          clear j1 j2 j3 j4 j5 hJ hxw
          go_upto_region 7 with fail
          clear d0 d1 d2 e0 e1
          rw [← HQ.out]
          clear hq
          generalize hW0 : World.alloc wr _ = W0 at A0 CW0 KB OS0 hsz0 ⊢
          clear hW0
          have hlr1 : rd.length ≤ 1000 := by have := hB.out; omega
          have d0 := A0.c0
          have k0 := KB.cell 0
          have x0 := (A0.nil ((Chg.refl Nil W0).alloc (.cells #[.int .i64 x.t] 3))).c0
          have x1 := (KB.alloc (.cells #[.int .i64 x.t] 3)).cell 0
          simp only [List.getElem?_cons_zero] at k0 x1 d0 x0
          have HS0 : Hid (Sl (W0.alloc (.cells #[.int .i64 x.t] 3)).drew 3 1 a rd.length c (ints .i64 rd) G) := A0.rd.alloc _
          have HN0 : Hid (Rd (W0.alloc (.cells #[.int .i64 x.t] 3)).drew (One W0.heap.size) 1 (some ⟨W0.heap.size, 0, none⟩) 1 1 (ints .i64 [x.t])) := Rd.of_blk (n := 1) (s := 1) (Blk.new W0 3 (ints .i64 [x.t])) rfl (by decide)
          have HNE := hid A0.ng
          have HA0 := hid A0
          have HC0 := hid CW0
          have HKB := hid KB
          clear A0 CW0 KB
          go_region_law (refine step_append_sl rfl _ _ eInt rfl rfl rfl HS0.out HN0.out (ints_one _ _) (by omega) (by omega) ?_; intro a1 c1 w1 GA p1 p2 p3; have HB1 : Blk w1 p 82 [.slice a rd.length c, .int .i64 0, .slice (some ⟨g, off, none⟩) (x :: row).length d] := (HA0.out.blk.alloc (.cells #[.int .i64 x.t] 3)).drew.chg p2 HNE.out; have m0 := HB1.cell 0; have g0 := HB1.frozen 0; have m1 : w1.cell? ⟨q, 0, none⟩ = some (.int .i64 x.t) := ((HKB.out.alloc (.cells #[.int .i64 x.t] 3)).drew.chg p2 (fun hh => by have h1 := HJL.out q (HA0.out.fg q hh); have h2 := HQ.out; omega)).cell 0; simp only [List.getElem?_cons_zero] at m0; replace HB1 := hid HB1; replace p1 := hid p1; replace p2 := hid p2; replace p3 := hid p3)
          all_goals
            have hC2 : Chg (Opt G) W0 w1 := (((Chg.refl _ W0).alloc (.cells #[.int .i64 x.t] 3)).drew).trans p2.out (fun _ _ h => h)
            have hG2 : ∀ g, GA = some g → G = some g ∨ W0.heap.size ≤ g := fun g hg => by
              rcases p3.out with h3 | h3 <;> rw [h3] at hg
              · exact .inl hg
              · injection hg with hg; simp at hg; exact .inr (by omega)
            obtain ⟨u1, u2, u3⟩ := HA0.out.setR hC2 (sl_push rfl p1.out) hG2
            have e : (rd ++ [x.t]).length = rd.length + 1 := by simp
            rw [e] at u1 u2
            have G1' := u3
            have CW1 : Chg F1 wr (w1.setCell ⟨p, 0, none⟩ (.slice a1 (rd.length + 1) c1)) := (HC0.out.mono (G := F1) (fun _ _ h => h.elim)).trans u2 (fun _ _ h => h)
            have G1 : Hid (Grew wr.heap.size F1 (Or2 F1 (Opt GA))) := hid (fun k hk => by
              rcases u3 k hk with h | h
              · exact .inl h
              · exact .inr (by omega))
            have HNO : Hid (∀ g, Go = some g → ¬ (Or2 F1 (Opt GA)) g) := hid (fun g hg hF => by
              rcases hF with h | h
              · exact HNO0.out g hg h
              · rcases hG2 g h with h | h
                · exact HNO0.out g hg (HA0.out.fg g h)
                · have := HGL.out g hg; omega)
            have hpq : q ≠ p := by have h1 := HPL.out; have h2 := HQ.out; omega
            have KQ := hid ((((HKB.out.alloc (.cells #[.int .i64 x.t] 3)).drew.chg p2.out (fun hh => by have h1 := HJL.out q (HA0.out.fg q hh); have h2 := HQ.out; omega)).far (p := ⟨p, 0, none⟩) hpq (.slice a1 (rd.length + 1) c1)).cell 0)
            simp only [List.getElem?_cons_zero] at KQ
            have OS := hid (OS0.out.chg u2 HNO0.out)
            have C1 := hid CW1
            have MA1 := hid u1
            clear m0 g0 m1 hC2 hG2 u1 u2 u3 e G1' CW1 hpq d0 k0 x0 x1
            generalize World.setCell w1 _ _ = W1 at KQ OS C1 MA1 ⊢

            have kq := KQ.out
            have HS1 := hid (OS.out.alloc (.cells #[.int .i64 x.t] 3))
            have HN1 := hid (Rd.of_blk (n := 1) (s := 1) (Blk.new W1 3 (ints .i64 [x.t])) rfl (by decide))
            have hlo : out.length ≤ 1000 := by have := hB.out; omega
            have hlr : row.length ≤ 1000 := by have := hB.out.1; simp at this; omega
            go_upto_region 9 with (at_builtin; refine wpList_append_sl rfl _ _ eInt rfl rfl rfl HS1.out HN1.out (ints_one _ _) (by omega) (by omega) ?_; intro a' c' w2 G' q1 q2 q3; replace q1 := hid q1; replace q2 := hid q2; replace q3 := hid q3)
            clear kq
            have CO : Chg (Opt Go) W1 w2 := ((Chg.refl _ W1).alloc _).trans q2.out (fun _ _ h => h)
            have M2 := MA1.out.chg CO (fun k hF hg => HNO.out k hg hF)
            have x2 := M2.c2
            simp only [List.length_cons] at x2
            have y2 : ∀ w, (Instr.slice 80 (.slice (some ⟨g, off, none⟩) (row.length + 1) d) (some (.int .i64 1)) none none).run Try.prog w = .ok (.slice (adv (some ⟨g, off, none⟩) d 1 2) row.length (d - 1)) w := fun w => run_from eWant (some ⟨g, off, none⟩) (row.length + 1) d 1 1 rfl (by omega) w
            have RD : Rd w2 (Opt H) 2 (adv (some ⟨g, off, none⟩) d 1 2) row.length (d - 1) (row.flatMap wnCells) := M2.row.rd.drop_n (k := 1) (by simp)
            have CL := hid (clone_wn _ _ _ _ _ _ RD (wns_one row) (by omega))
            have HM2 := hid M2
            have HCO := hid CO
            clear M2 CO RD HS1 HN1 OS
            go_wp2_with fail
            refine CL.out.mono ?_
            rintro e w3 ⟨b3, d3, H3, rfl, z1, z2, z3⟩
            have fz : w3.frozen? ⟨p, 2, none⟩ = false := (HM2.out.nil z2).blk.frozen 2
            have cz := (HM2.out.nil z2).c2
            obtain ⟨u1, u2, u3⟩ := HM2.out.setQ (row' := row) (z2.mono (fun _ _ h => h.elim)) z1 (fun g hg => .inr (z3 g hg))
            have FIN := hid (goJ_step J2.out J3.out FR.out J5.out C1.out G1.out HCO.out u2 u3 ⟨_, _, _, _, _, _, u1⟩ HN.out (sl_push rfl q1.out) (by
              rcases q3.out with h | h
              · exact .inl h
              · refine .inr (fun g hg => ?_)
                rw [h] at hg
                injection hg with hg
                simp at hg
                omega) HNO.out MA1.out.lt)
            clear x2 y2 u1 u2 u3 z1 z2 z3 CL
            go_wp2
            go_roundw
            case rel =>
              refine ⟨_, _, row, out ++ [x.t], a', c', ?_, hid ⟨?_, ?_⟩, FIN⟩
              · rw [List.length_append]; rfl
              · have := hB.out.1; simp only [List.length_cons, List.length_append, List.length_nil] at this ⊢; omega
              · have := hB.out.2; simp only [List.length_cons, List.length_append, List.length_nil] at this ⊢; omega
            case measure =>
              have := hB.out.2
              simp only [List.length_cons] at this
              simp only [lenV]
              omega
      · have hb : (v == 0) = false := by rw [beq_eq_false_iff_ne]; exact hv
        have HS := hid (goM_busy (rd := rd) (x :: row) hv)
        clear j1 j2 j3 j4 j5 hv
        go_wp2
        go_ret
        exact goJ_end hJ.out HS.out
end Go.Proofs.Ytdelelpfombfbaa
