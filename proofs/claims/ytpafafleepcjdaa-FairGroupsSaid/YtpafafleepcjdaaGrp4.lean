/- Contracts of package fair where two groups are, and nobody stands for himself: next, Tick, GroupAt. Conditions: at most 1000 tasks; weights at most 100; virtual times below 2^50. -/
import Derived.Test.YtpafafleepcjdaaGrp3
namespace Go.Proofs.Ytpafafleepcjdaa
open Go.ChangeShapes Go.WideShapes Go.ChangeAt Go.RowKit
set_option linter.unusedVariables false
/-- Groups 1 and 2 are there, and in both somebody is ready. -/
structure Two2 (ts : List FT) (S : GS) : Prop where
  q1 : ∃ q, S.q 1 = some q
  q2 : ∃ q, S.q 2 = some q
  qn : ∀ g, 3 ≤ g → S.q g = none
  r1 : ∃ (i : Nat) (x : FT), ts[i]? = some x ∧ x.r = true ∧ x.g = 1
  r2 : ∃ (i : Nat) (x : FT), ts[i]? = some x ∧ x.r = true ∧ x.g = 2
  g0 : ∀ x ∈ ts, x.g = 1 ∨ x.g = 2
  w1 : 1 ≤ S.w 1 ∧ S.w 1 ≤ 100
  w2 : 1 ≤ S.w 2 ∧ S.w 2 ≤ 100
/-- Who is next: of the group with less; of the first one, if they are alike. -/
def PickG (ts : List FT) (S : GS) (j : Nat) : Prop := ∃ x, ts[j]? = some x ∧ (S.v 1 ≤ S.v 2 → x.g = 1) ∧ (S.v 2 < S.v 1 → x.g = 2)
theorem first_some {ts : List FT} {gr : Nat} {b : Option Nat} (h : FFirst (selG gr ts) ts.length b) (hr : ∃ (i : Nat) (x : FT), ts[i]? = some x ∧ x.r = true ∧ x.g = gr) : ∃ j x, b = some j ∧ ts[j]? = some x ∧ x.g = gr := by
  cases b with
  | none =>
    obtain ⟨i, x, hx, h1, h2⟩ := hr
    have := h i _ (List.getElem?_eq_some_iff.1 hx).1 (selG_get hx)
    simp [selX, h1, h2] at this
  | some j =>
    obtain ⟨y, hj, hy, hyr, _⟩ := h
    obtain ⟨x, hx, rfl⟩ := selG_inv hy
    simp [selX] at hyr
    exact ⟨j, x, rfl, hx, hyr.2⟩
theorem first_none0 {ts : List FT} {b : Option Nat} (h : FFirst (selG 0 ts) ts.length b) (hg : ∀ x ∈ ts, x.g = 1 ∨ x.g = 2) : b = none := by
  cases b with
  | none => rfl
  | some j =>
    obtain ⟨y, hj, hy, hyr, _⟩ := h
    obtain ⟨x, hx, rfl⟩ := selG_inv hy
    simp [selX] at hyr
    have := hg x (List.mem_of_getElem? hx)
    omega
/-- Where next has come to. -/
def NextR (ts : List FT) (S : GS) (k : Nat) (b : Option Nat) (low : Nat) : Prop :=
  (k = 1 ∧ b = none) ∨ (k = 2 ∧ (∃ j x, b = some j ∧ ts[j]? = some x ∧ x.g = 1) ∧ low = S.v 1) ∨ (3 ≤ k ∧ ∃ j, b = some j ∧ PickG ts S j)
set_option maxHeartbeats 1000000 in
theorem gnext_ok (w : World) (F : Nat → Prop) (p : Nat) (ts : List FT) (S : GS) (g off : Nat) (c : Nat) (G : Option Nat) (mb n0 : Nat) (h : GA w F p ts S (some ⟨g, off, none⟩) c G mb n0) (hl : ts.length ≤ 1000) (hT : Two2 ts S) :
    Calls Try.prog 22 #[.pointer (some ⟨p, 0, none⟩)] w (fun e w' => ∃ j, PickG ts S j ∧ e = .returned (.pointer (some ⟨g, off + j * 5, none⟩)) ∧ ∃ n, w' = w.drewN n) := by
  have H := hid h
  have T := hid hT
  clear h hT
  go_enter Try.func22, Try.ntmps22
  go_wp2
  go_loopw [3, 4, 5] (fun s3 s4 s5 wr => ∃ (k low : Nat) (b : Option Nat), 1 ≤ k ∧ k ≤ 9 ∧ s3 = bestPtrF g off b ∧ s4 = .int .i64 low ∧ s5 = .int .i64 k ∧ Hid (NextR ts S k b low) ∧ Hid (GA wr F p ts S (some ⟨g, off, none⟩) c G mb n0) ∧ Hid (∃ n, wr = w.drewN n)) (fun _ _ s5 _ => 10 - (intOf s5).toNat)
  case atStart => exact ⟨1, 0, none, by omega, by omega, rfl, rfl, rfl, .inl ⟨rfl, rfl⟩, H, 0, rfl⟩
  case round =>
    obtain ⟨k, low, b, hk1, hk9, rfl, rfl, rfl, hN, HW, HWN⟩ := hrel
    have c1 : wr.cell? ⟨p, 1, none⟩ = some (.map (some mb)) := HW.out.c1
    by_cases hlt : k < 9
    · by_cases hk3 : 3 ≤ k
      · have lk := HW.out.look_no k (by omega) (T.out.qn k hk3)
        have HN2 : Hid (NextR ts S (k + 1) b low) := hid (by
          rcases hN.out with ⟨h1, _⟩ | ⟨h1, _⟩ | ⟨_, h2⟩
          · omega
          · omega
          · exact .inr (.inr ⟨by omega, h2⟩))
        clear hN
        go_wp2
        go_roundw
        case rel => exact ⟨k + 1, low, b, by omega, by omega, rfl, rfl, by go_num, HN2, HW, HWN⟩
        case measure => simp [intOf]; omega
      · by_cases hk2 : k = 2
        · obtain ⟨q, hq⟩ := T.out.q2
          have lk := HW.out.look_yes k (by omega) (by rw [hk2]; exact hq)
          obtain ⟨⟨j1, x1, hb, hx1, hg1⟩, hlow⟩ : (∃ j x, b = some j ∧ ts[j]? = some x ∧ x.g = 1) ∧ low = S.v 1 := by
            rcases hN.out with ⟨h1, _⟩ | ⟨_, h1⟩ | ⟨h1, _⟩
            · omega
            · exact h1
            · omega
          subst hb
          have FI := hid (gfirst_ok wr F p ts S g off c G mb n0 HW.out hl k)
          have HQ := hid hq
          have HX1 := hid hx1
          have HG1 := hid hg1
          have HL := hid hlow
          have HK2 := hid hk2
          clear hN hq hx1 hg1 hlow hk2
          simp only [bestPtrF]
          obtain ⟨wo, rfl⟩ : ∃ wo : World, wo = wr := ⟨_, rfl⟩
          go_wp2_with fail
          refine FI.out.mono ?_
          rintro e w1 ⟨b2, hb2, rfl, n2, hw1⟩
          rw [HK2.out] at hb2
          obtain ⟨j2, x2, rfl, hx2, hg2⟩ := first_some hb2 T.out.r2
          have H2 : Hid (GA w1 F p ts S (some ⟨g, off, none⟩) c G mb n0) := hid (by rw [hw1]; exact HW.out.drewN n2)
          have W2 : Hid (∃ n, w1 = w.drewN n) := hid (by obtain ⟨n, hn⟩ := HWN.out; exact ⟨n + n2, by rw [hw1, hn, World.drewN_drewN]⟩)
          have b1 := (H2.out.gb 2 q HQ.out).cell 1
          simp only [grpCells, List.getElem?_cons_succ, List.getElem?_cons_zero] at b1
          clear hb2 FI lk c1 hw1
          obtain ⟨v2, hv2⟩ : ∃ v2, v2 = S.v 2 := ⟨_, rfl⟩
          rw [← hv2] at b1
          by_cases hlv : v2 < low
          · have t1 : decide ((v2 : Int) < (low : Int)) = true := by simp; omega
            have HN2 : Hid (NextR ts S (k + 1) (some j2) v2) := hid (.inr (.inr ⟨by have := HK2.out; omega, j2, rfl, x2, hx2, fun (hh : S.v 1 ≤ S.v 2) => by have := HL.out; omega, fun _ => hg2⟩))
            clear hx2 hg2 hv2
            simp only [bestPtrF]
            go_wp2
            go_quiet (fail)
            have H3 := hid (H2.out.drewN nq)
            have W3 : Hid (∃ n, w1.drewN nq = w.drewN n) := hid (by obtain ⟨n, hn⟩ := W2.out; exact ⟨n + nq, by rw [hn, World.drewN_drewN]⟩)
            go_wp2
            go_roundw
            case rel => exact ⟨k + 1, v2, some j2, by omega, by omega, rfl, rfl, by go_num, HN2, H3, W3⟩
            case measure => simp [intOf]; omega
          · have t1 : decide ((v2 : Int) < (low : Int)) = false := by simp; omega
            have HN2 : Hid (NextR ts S (k + 1) (some j1) low) := hid (.inr (.inr ⟨by have := HK2.out; omega, j1, rfl, x1, HX1.out, fun _ => HG1.out, fun (hh : S.v 2 < S.v 1) => by have := HL.out; omega⟩))
            clear hx2 hg2 hv2
            simp only [bestPtrF]
            go_wp2
            go_roundw
            case rel => exact ⟨k + 1, low, some j1, by omega, by omega, rfl, rfl, by go_num, HN2, H2, W2⟩
            case measure => simp [intOf]; omega
        · have hk1' : k = 1 := by omega
          obtain ⟨q, hq⟩ := T.out.q1
          have lk := HW.out.look_yes k (by omega) (by rw [hk1']; exact hq)
          have hb : b = none := by
            rcases hN.out with ⟨_, h1⟩ | ⟨h1, _⟩ | ⟨h1, _⟩
            · exact h1
            · omega
            · omega
          subst hb
          have FI := hid (gfirst_ok wr F p ts S g off c G mb n0 HW.out hl k)
          have HQ := hid hq
          have HK1 := hid hk1'
          clear hN hq hk1' hk2 hk3
          simp only [bestPtrF]
          obtain ⟨wo, rfl⟩ : ∃ wo : World, wo = wr := ⟨_, rfl⟩
          go_wp2_with fail
          refine FI.out.mono ?_
          rintro e w1 ⟨b2, hb2, rfl, n2, hw1⟩
          rw [HK1.out] at hb2
          obtain ⟨j2, x2, rfl, hx2, hg2⟩ := first_some hb2 T.out.r1
          have H2 : Hid (GA w1 F p ts S (some ⟨g, off, none⟩) c G mb n0) := hid (by rw [hw1]; exact HW.out.drewN n2)
          have W2 : Hid (∃ n, w1 = w.drewN n) := hid (by obtain ⟨n, hn⟩ := HWN.out; exact ⟨n + n2, by rw [hw1, hn, World.drewN_drewN]⟩)
          have b1 := (H2.out.gb 1 q HQ.out).cell 1
          simp only [grpCells, List.getElem?_cons_succ, List.getElem?_cons_zero] at b1
          have HN2 : Hid (NextR ts S (k + 1) (some j2) (S.v 1)) := hid (.inr (.inl ⟨by have := HK1.out; omega, ⟨j2, x2, rfl, hx2, hg2⟩, rfl⟩))
          clear hb2 FI lk c1 hx2 hg2 hw1
          generalize S.v 1 = v1 at b1 HN2
          simp only [bestPtrF]
          go_wp2
          go_quiet (fail)
          have H3 := hid (H2.out.drewN nq)
          have W3 : Hid (∃ n, w1.drewN nq = w.drewN n) := hid (by obtain ⟨n, hn⟩ := W2.out; exact ⟨n + nq, by rw [hn, World.drewN_drewN]⟩)
          go_wp2
          go_roundw
          case rel => exact ⟨k + 1, v1, some j2, by omega, by omega, rfl, rfl, by go_num, HN2, H3, W3⟩
          case measure => simp [intOf]; omega
    · obtain ⟨j, rfl, hp⟩ : ∃ j, b = some j ∧ PickG ts S j := by
        rcases hN.out with ⟨h1, _⟩ | ⟨h1, _⟩ | ⟨_, h1⟩
        · omega
        · omega
        · exact h1
      have HP := hid hp
      have FI := hid (gfirst_ok wr F p ts S g off c G mb n0 HW.out hl 0)
      clear hN hp
      simp only [bestPtrF]
      go_wp2_with fail
      refine FI.out.mono ?_
      rintro e w1 ⟨b2, hb2, rfl, n2, hw1⟩
      have hb3 := first_none0 hb2 T.out.g0
      subst hb3
      have W2 : Hid (∃ n, w1 = w.drewN n) := hid (by obtain ⟨n, hn⟩ := HWN.out; exact ⟨n + n2, by rw [hw1, hn, World.drewN_drewN]⟩)
      clear hb2 hw1
      simp only [bestPtrF]
      go_wp2
      go_ret
      exact ⟨j, HP.out, rfl, W2.out⟩
set_option maxHeartbeats 2000000 in
theorem gtick_ok (w : World) (F : Nat → Prop) (p V : Nat) (ts : List FT) (S : GS) (m : Nat) (h : GrpAt w F p ts S m) (hl : ts.length ≤ 1000) (hV : V ≤ 1000000000000000) (hT : Two2 ts S) (hv : S.v 1 ≤ V ∧ S.v 2 ≤ V) (hok : ∀ x ∈ ts, 1 ≤ x.w ∧ x.w ≤ 100 ∧ x.v ≤ V ∧ x.t ≤ 16) :
    Calls Try.prog 12 #[.pointer (some ⟨p, 0, none⟩)] w (fun e w' => ∃ j x, ts[j]? = some x ∧ (S.v 1 ≤ S.v 2 → x.g = 1) ∧ (S.v 2 < S.v 1 → x.g = 2) ∧ e = .returned (.tuple #[.int .i64 x.t, .int .i64 0]) ∧ GrpAt w' F p (ts.set j (runF x)) (S.setV x.g (S.v x.g + cost (S.w x.g))) m ∧ Chg F w w') := by
  obtain ⟨a, c, G, mb, n0, hnm, h⟩ := h
  have h0 : 0 < ts.length := by
    obtain ⟨i, x, hx, _⟩ := hT.r1
    have := (List.getElem?_eq_some_iff.1 hx).1
    omega
  obtain ⟨g, off, rfl, rfl, hg, hne⟩ := h.at h0
  have H := hid h
  have T := hid hT
  have HO := hid hok
  clear h hok hT
  go_enter Try.func12, Try.ntmps12
  go_wp2_with fail
  refine (gnext_ok w F p ts S g off c _ mb n0 H.out hl T.out).mono ?_
  rintro e w1 ⟨j, ⟨x, hxj, hp1, hp2⟩, rfl, n, rfl⟩
  have hgx : x.g = 1 ∨ x.g = 2 := T.out.g0 x (List.mem_of_getElem? hxj)
  obtain ⟨q, hq⟩ : ∃ q, S.q x.g = some q := by
    rcases hgx with h1 | h1 <;> rw [h1]
    · exact T.out.q1
    · exact T.out.q2
  have hwg : 1 ≤ S.w x.g ∧ S.w x.g ≤ 100 := by
    rcases hgx with h1 | h1 <;> rw [h1]
    · exact T.out.w1
    · exact T.out.w2
  have hvg : S.v x.g ≤ V := by
    rcases hgx with h1 | h1 <;> rw [h1]
    · exact hv.1
    · exact hv.2
  have H1 := H.out.drewN n
  have x0 := H1.cell hxj 0 (by omega)
  have x1 := H1.cell hxj 1 (by omega)
  have x2 := H1.cell hxj 2 (by omega)
  have x3 := H1.cell hxj 3 (by omega)
  have f3 := H1.free h0 (off + j * 5 + 3)
  simp only [ftCells, List.getElem?_cons_succ, List.getElem?_cons_zero, Nat.add_zero] at x0 x1 x2 x3
  obtain ⟨hw1, hw2, hv2, ht2⟩ := HO.out x (List.mem_of_getElem? hxj)
  have hcl := cost_le x.w
  have hcg := cost_le (S.w x.g)
  have hFg := H.out.fg g rfl
  have hFq := (H.out.gf x.g q hq).1
  have D1 := H1.put (y := runF x) (u := .int .i64 ((x.v : Int) + (cost x.w : Int))) hxj (j := 3) (by omega) rfl
  have C1 : Chg F w ((w.drewN n).setCell ⟨g, off + j * 5 + 3, none⟩ (.int .i64 ((x.v : Int) + (cost x.w : Int)))) := ((Chg.refl F w).drewN n).setCell (p := ⟨g, off + j * 5 + 3, none⟩) (.inl hFg) _
  have hset := List.getElem?_set_self (l := ts) (i := j) (a := runF x) (List.getElem?_eq_some_iff.1 hxj).1
  have y2 := D1.cell hset 2 (by omega)
  have y0 := D1.cell hset 0 (by omega)
  have y2b := (D1.drewN 1).cell hset 2 (by omega)
  simp only [ftCells, List.getElem?_cons_succ, List.getElem?_cons_zero, Nat.add_zero, runF] at y2 y0 y2b
  have HJ := hid hxj
  have HP1 := hid hp1
  have HP2 := hid hp2
  have HQ := hid hq
  have HG : Hid (x.g = 1 ∨ x.g = 2) := hid hgx
  have hgpos : (0 : Int) < (x.g : Int) := by rcases hgx with h1 | h1 <;> omega
  have hg100 : x.g ≤ 100 := by rcases hgx with h1 | h1 <;> omega
  have HS : Hid (ts[j]? = some x ∧ (S.v 1 ≤ S.v 2 → x.g = 1) ∧ (S.v 2 < S.v 1 → x.g = 2)) := hid ⟨hxj, hp1, hp2⟩
  replace D1 := hid D1
  replace C1 := hid C1
  clear hxj hp1 hp2 hq hgx hset H1 y2b
  go_wp2_with fail
  refine (cost_ok x.w _ hw1 hw2).mono ?_
  rintro e w2 ⟨rfl, rfl⟩
  generalize cost x.w = cc at *
  go_upto_region 7 with fail
  generalize World.setCell (World.drewN w n) _ _ = W at D1 C1 y0 y2 ⊢
  have d1 := D1.out.c1
  have lk : (Instr.lookup 48 (.map (some mb)) (.int .i64 (x.g : Int)) false).run Try.prog W.drew = .ok (.pointer (some ⟨q, 0, none⟩)) W.drew := (D1.out.drewN 1).look_yes x.g hg100 HQ.out
  clear x0 x1 x2 x3 f3
  go_region
  have D2 : GA W.drew F p (ts.set j (runF x)) S (some ⟨g, off, none⟩) c (some g) mb n0 := D1.out.drewN 1
  have C2 : Hid (Chg F w W.drew) := hid (C1.out.drewN 1)
  clear d1 lk y2 y0 D1 C1
  generalize World.drew W = X at D2 C2 ⊢
  have b0 := (D2.gb x.g q HQ.out).cell 0
  have b1 := (D2.gb x.g q HQ.out).cell 1
  have fb := (D2.gb x.g q HQ.out).frozen 1
  simp only [grpCells, List.getElem?_cons_succ, List.getElem?_cons_zero] at b0 b1
  have D3 := D2.putv HQ.out (S.v x.g + cost (S.w x.g))
  have hset := List.getElem?_set_self (l := ts) (i := j) (a := runF x) (List.getElem?_eq_some_iff.1 HJ.out).1
  have z0 := D3.cell hset 0 (by omega)
  simp only [ftCells, List.getElem?_cons_zero, Nat.add_zero, runF] at z0
  have C3 := hid (C2.out.setCell (p := ⟨q, 1, none⟩) (.inl hFq) (.int .i64 ((S.v x.g + cost (S.w x.g) : Nat) : Int)))
  have e1 : ((S.v x.g + cost (S.w x.g) : Nat) : Int) = (S.v x.g : Int) + (cost (S.w x.g) : Int) := by omega
  rw [e1] at z0 D3 C3
  replace D3 := hid D3
  clear hset D2 C2 e1
  generalize hwx : S.w x.g = wx at *
  generalize hvx : S.v x.g = vx at *
  have HWX := hid hwx
  have HVX := hid hvx
  clear hwx hvx
  go_wp2_with fail
  refine (cost_ok wx _ hwg.1 hwg.2).mono ?_
  rintro e w2 ⟨rfl, rfl⟩
  generalize hcc : cost wx = cg at *
  have HCC := hid hcc
  clear hcc
  go_wp2
  go_ret2
  exact ⟨j, x, HS.out.1, HS.out.2.1, HS.out.2.2, rfl, ⟨_, _, _, _, _, hnm, by rw [HVX.out, HWX.out, HCC.out]; exact D3.out⟩, C3.out⟩
theorem ggat_ok (w : World) (F : Nat → Prop) (p : Nat) (ts : List FT) (S : GS) (m : Nat) (h : GrpAt w F p ts S m) (g q : Nat) (hg : g ≤ 100) (hq : S.q g = some q) :
    Calls Try.prog 18 #[.pointer (some ⟨p, 0, none⟩), .int .i64 (g : Int)] w fun e w' => e = .returned (.tuple #[.int .i64 (S.v g : Nat), .int .i64 0]) ∧ w = w' := by
  obtain ⟨a, c, G, mb, n0, hnm, h⟩ := h
  have c1 := h.c1
  have lk := h.look_yes g hg hq
  have b1 := (h.gb g q hq).cell 1
  simp only [grpCells, List.getElem?_cons_succ, List.getElem?_cons_zero] at b1
  clear h hq
  generalize S.v g = v at b1 ⊢
  go_enter Try.func18, Try.ntmps18
  go_wp2
  go_ret2
  exact ⟨rfl, rfl⟩
end Go.Proofs.Ytpafafleepcjdaa
