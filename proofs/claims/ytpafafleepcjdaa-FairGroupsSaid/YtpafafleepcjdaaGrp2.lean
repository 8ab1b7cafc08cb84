/- Contracts of package fair where groups are, and all virtual times are nothing: least, top, wake, Add. Conditions: at most 1000 tasks. -/
import Derived.Test.YtpafafleepcjdaaGrp
namespace Go.Proofs.Ytpafafleepcjdaa
open Go.ChangeShapes Go.WideShapes Go.ChangeAt Go.RowKit
set_option linter.unusedVariables false
set_option maxHeartbeats 1000000 in
theorem gleast_ok (w : World) (F : Nat → Prop) (p : Nat) (ts : List FT) (S : GS) (a : Option Addr) (c : Nat) (G : Option Nat) (mb n : Nat) (h : GA w F p ts S a c G mb n) (hl : ts.length ≤ 1000) (hz : ∀ x ∈ ts, x.v = 0) (I : Int) :
    Calls Try.prog 27 #[.pointer (some ⟨p, 0, none⟩), .int .i64 I] w fun e w' => ∃ ok, e = .returned (.tuple #[.int .i64 0, .bool ok]) ∧ Chg Nil w w' := by
  have c0 := h.c0
  have H := hid h
  have HZ := hid hz
  clear h hz
  go_enter Try.func27, Try.ntmps27
  go_wp2
  go_loopw [6, 7, 15] (fun s6 s7 s15 wr => ∃ (k : Nat) (o : Bool), k ≤ ts.length ∧ s15 = .int .i64 k ∧ s6 = .int .i64 0 ∧ s7 = .bool o ∧ Hid (Chg Nil w wr)) (fun _ _ s15 _ => ts.length - (intOf s15).toNat)
  case atStart => exact ⟨0, false, by omega, rfl, rfl, rfl, Chg.refl _ _⟩
  case round =>
    obtain ⟨k, o, hk, rfl, rfl, rfl, hC⟩ := hrel
    by_cases hlt : k < ts.length
    · obtain ⟨g, off, rfl, rfl, hgl, _⟩ := H.out.at (by omega)
      have hxk := List.getElem?_eq_getElem hlt
      generalize ts[k] = x at hxk
      have HW := H.out.nil hC.out
      have x0 := HW.cell hxk 0 (by omega)
      have x1 := HW.cell hxk 1 (by omega)
      have x2 := HW.cell hxk 2 (by omega)
      have x3 := HW.cell hxk 3 (by omega)
      have x4 := HW.cell hxk 4 (by omega)
      simp only [ftCells, List.getElem?_cons_succ, List.getElem?_cons_zero, Nat.add_zero] at x0 x1 x2 x3 x4
      rw [HZ.out x (List.mem_of_getElem? hxk)] at x3
      clear HW hxk
      cases hr : x.r with
      | false =>
        rw [hr] at x4
        clear hr
        go_wp2
        go_roundw
        case rel => exact ⟨k + 1, o, by omega, by go_num, rfl, rfl, hC.out.alloc _⟩
        case measure => simp [intOf]; omega
      | true =>
        rw [hr] at x4
        clear hr
        by_cases hgI : (x.g : Int) = I
        · have t0 : ((x.g : Int) == I) = true := by rw [beq_iff_eq]; exact hgI
          clear hgI
          cases o with
          | false =>
            go_wp2
            go_roundw
            case rel => exact ⟨k + 1, true, by omega, by go_num, rfl, rfl, hC.out.alloc _⟩
            case measure => simp [intOf]; omega
          | true =>
            go_wp2
            go_roundw
            case rel => exact ⟨k + 1, true, by omega, by go_num, rfl, rfl, hC.out.alloc _⟩
            case measure => simp [intOf]; omega
        · have t0 : ((x.g : Int) == I) = false := by rw [beq_eq_false_iff_ne]; exact hgI
          clear hgI
          go_wp2
          go_roundw
          case rel => exact ⟨k + 1, o, by omega, by go_num, rfl, rfl, hC.out.alloc _⟩
          case measure => simp [intOf]; omega
    · go_wp2
      go_ret2
      exact ⟨o, rfl, hC.out⟩
theorem gmap_some {S : GS} {i : Int} (h : (gmap S i).isSome = true) : ∃ g q : Nat, i = (g : Int) ∧ S.q g = some q ∧ gmap S i = some (ptrV q) := by
  unfold gmap at h ⊢
  by_cases h0 : 0 ≤ i
  · rw [if_pos h0] at h ⊢
    cases hq : S.q i.toNat with
    | none => rw [hq] at h; cases h
    | some q => exact ⟨i.toNat, q, by omega, hq, rfl⟩
  · rw [if_neg h0] at h; cases h
set_option maxHeartbeats 2000000 in
theorem gtop_ok (w : World) (F : Nat → Prop) (p : Nat) (ts : List FT) (S : GS) (a : Option Addr) (c : Nat) (G : Option Nat) (mb n : Nat) (h : GA w F p ts S a c G mb n) (hl : ts.length ≤ 1000) (hz : ∀ x ∈ ts, x.v = 0) (hv : ∀ g, S.v g = 0) :
    Calls Try.prog 26 #[.pointer (some ⟨p, 0, none⟩)] w fun e w' => ∃ ok, e = .returned (.tuple #[.int .i64 0, .bool ok]) ∧ Chg Nil w w' := by
  have H := hid h
  have HZ := hid hz
  have HV := hid hv
  clear h hz hv
  go_enter Try.func26, Try.ntmps26
  go_wp2_with fail
  refine (gleast_ok w F p ts S a c G mb n H.out hl HZ.out 0).mono ?_
  rintro e w1 ⟨ok, rfl, c1⟩
  have H1 := H.out.nil c1
  have d1 := H1.c1
  have HM := hid H1.mp
  replace c1 := hid c1
  go_wp2_with (at_range; refine wpList_range_mp _ rfl _ 48 rfl 3 46 Try.underlying3 Try.underlying48 mb n _ rfl HM.out ?_; intro w2 cnt2 r1 r2 r3; replace r1 := hid r1; replace r2 := hid r2)
  go_frame
  have H2 := hid (H1.nil r2.out)
  have C2 := hid (c1.out.trans r2.out (fun _ _ h => h))
  have RL := hid (show ¬ F w1.heap.size from fun hF => by have := H1.lt _ hF; omega)
  have RB := hid (show ∀ k, k < w.heap.size → k ≠ w1.heap.size from fun k hk => by have := c1.out.size; omega)
  clear r2 c1 HM H1
  go_loopw [4, 5] (fun s4 s5 wr => ∃ (o : Bool) (left : Int → Bool) (cnt : Nat), s4 = .int .i64 0 ∧ s5 = .bool o ∧ Hid (MpRg wr Try.prog 3 mb w1.heap.size n (gmap S) left cnt) ∧ Hid (GA wr F p ts S a c G mb n) ∧ Hid (Chg Nil w wr)) (fun _ _ wr => wr.rangeLeft mb w1.heap.size)
  case atStart => exact ⟨ok, _, cnt2, rfl, rfl, r1, H2, C2⟩
  case round =>
    clear r1 H2 C2
    obtain ⟨o, left, cnt, rfl, rfl, hR, H2, C2⟩ := hrel
    go_wp2_with (at_next; refine wpList_next_mp _ rfl _ rfl 3 Try.underlying3 mb w1.heap.size n _ left cnt rfl hR.out ?_ ?_)
    · intro _
      go_wp2
      go_ret2
      exact ⟨o, rfl, C2.out⟩
    · intro i v w3 cnt3 hleft hfv hfs hR3 hcnt hC3 hsz3 hen
      obtain ⟨g, q, rfl, hq, hgq⟩ := gmap_some hfs
      have hve := hfv _ hgq
      subst hve
      have HCN : Hid (cnt3 < wr.rangeLeft mb w1.heap.size) := hid (by rw [hR.out.cnt_eq]; exact hcnt)
      have H3 := H2.out.chg hC3 (fun k hk he => RL.out (by rw [← show k = w1.heap.size from he]; exact hk))
      have C3 := hid (C2.out.trans hC3 (fun k hk he => RB.out k hk he))
      have b1 := (H3.gb g q hq).cell 1
      simp only [grpCells, List.getElem?_cons_succ, List.getElem?_cons_zero] at b1
      rw [HV.out g] at b1
      have LE := hid (gleast_ok w3 F p ts S a c G mb n H3 hl HZ.out (g : Int))
      replace hR3 := hid hR3
      replace H3 := hid H3
      unfold ptrV at hen ⊢
      clear hfv hfs hcnt hleft hsz3 hgq hC3 hR H2 C2
      obtain ⟨wu, rfl⟩ : ∃ wu : World, wu = wr := ⟨_, rfl⟩
      go_wp2_with fail
      refine LE.out.mono ?_
      rintro e w4 ⟨is, rfl, c4⟩
      have H4 := H3.out.nil c4
      have b4 := (H4.gb g q hq).cell 1
      simp only [grpCells, List.getElem?_cons_succ, List.getElem?_cons_zero] at b4
      rw [HV.out g] at b4
      have HR4 := hid (hR3.out.chg c4 (fun h => h) (fun h => h))
      replace H4 := hid H4
      have C4 := hid (C3.out.trans c4 (fun _ _ h => h))
      have HL4 : Hid (w4.rangeLeft mb w1.heap.size < wu.rangeLeft mb w1.heap.size) := hid (by rw [HR4.out.cnt_eq]; exact HCN.out)
      clear c4 H3 hR3 hen LE C3 HCN hq
      cases is with
      | false =>
        go_wp2
        go_roundw
        case rel => exact ⟨o, _, cnt3, rfl, rfl, HR4, H4, C4⟩
        case measure => exact HL4.out
      | true =>
        cases o with
        | false =>
          go_wp2
          go_roundw
          case rel => exact ⟨true, _, cnt3, rfl, rfl, HR4, H4, C4⟩
          case measure => exact HL4.out
        | true =>
          go_wp2
          go_roundw
          case rel => exact ⟨true, _, cnt3, rfl, rfl, HR4, H4, C4⟩
          case measure => exact HL4.out
theorem setV_same (S : GS) (g : Nat) (h : S.v g = 0) : S.setV g 0 = S := by
  unfold GS.setV
  have : (fun i => if i = g then 0 else S.v i) = S.v := by
    funext i
    by_cases hi : i = g
    · subst hi; rw [if_pos rfl, h]
    · rw [if_neg hi]
  rw [this]
set_option maxHeartbeats 2000000 in
theorem gwake_ok (w : World) (F : Nat → Prop) (p : Nat) (ts : List FT) (S : GS) (g off c mb n i : Nat) (x : FT) (h : GA w F p ts S (some ⟨g, off, none⟩) c (some g) mb n) (hl : ts.length ≤ 1000) (hz : ∀ x ∈ ts, x.v = 0) (hv : ∀ g, S.v g = 0) (hx : ts[i]? = some x) (gr q : Nat) (hgr : x.g = gr) (g1 : 1 ≤ gr) (g2 : gr ≤ 8) (hq : S.q gr = some q) :
    Calls Try.prog 24 #[.pointer (some ⟨p, 0, none⟩), .pointer (some ⟨g, off + i * 5, none⟩)] w fun e w' => e = .returned (.tuple #[]) ∧ GA w' F p (ts.set i { x with r := true }) S (some ⟨g, off, none⟩) c (some g) mb n ∧ Chg F w w' := by
  have H := hid h
  have HZ := hid hz
  have HV := hid hv
  have HX := hid hx
  have HQ := hid hq
  have hi : i < ts.length := (List.getElem?_eq_some_iff.1 hx).1
  have hFg := h.fg g rfl
  have hFq := (h.gf gr q hq).1
  have xv : Hid (x.v = 0) := hid (hz x (List.mem_of_getElem? hx))
  replace hgr := hid hgr
  clear h hz hv hx hq
  go_enter Try.func24, Try.ntmps24
  go_wp2_with fail
  refine (gtop_ok w F p ts S _ c _ mb n H.out hl HZ.out HV.out).mono ?_
  rintro e w1 ⟨ok, rfl, c1⟩
  have H1 := H.out.nil c1
  have x2 := H1.cell HX.out 2 (by omega)
  simp only [ftCells, List.getElem?_cons_succ, List.getElem?_cons_zero] at x2
  rw [hgr.out] at x2
  have LE := hid (gleast_ok w1 F p ts S _ c _ mb n H1 hl HZ.out (gr : Int))
  replace H1 := hid H1
  replace c1 := hid c1
  go_wp2_with fail
  refine LE.out.mono ?_
  rintro e w2 ⟨is, rfl, c2⟩
  have H2 := H1.out.nil c2
  have x3 := H2.cell HX.out 3 (by omega)
  have y2 := H2.cell HX.out 2 (by omega)
  have x4 := H2.cell HX.out 4 (by omega)
  have f3 := H2.free (by omega) (off + i * 5 + 3)
  have f4 := H2.free (by omega) (off + i * 5 + 4)
  simp only [ftCells, List.getElem?_cons_succ, List.getElem?_cons_zero] at x3 x4 y2
  rw [xv.out] at x3
  rw [hgr.out] at y2
  have C2 := hid ((c1.out.trans c2 (fun _ _ h => h)).mono (G := F) (fun _ _ h => h.elim))
  clear LE c2 c1 H1
  cases is with
  | true =>
    have y1 := H2.put (y := x) (u := .int .i64 0) HX.out (j := 3) (by omega) (by
      have : x = { x with v := 0 } := by rw [show (0 : Nat) = x.v from xv.out.symm]
      rw [this]; rfl)
    rw [set_same HX.out] at y1
    have y2' := y1.put (y := { x with r := true }) (u := .bool true) HX.out (j := 4) (by omega) rfl
    replace y2' := hid y2'
    clear y1
    go_wp2
    go_end0
    exact ⟨rfl, y2'.out, (C2.out.setCell (p := ⟨g, off + i * 5 + 3, none⟩) (.inl hFg) _).setCell (p := ⟨g, off + i * 5 + 4, none⟩) (.inl hFg) _⟩
  | false =>
    have d1 := H2.c1
    have H2' := hid H2
    have lk : (Instr.lookup 48 (.map (some mb)) (.int .i64 (gr : Int)) false).run Try.prog w2.drew = .ok (.pointer (some ⟨q, 0, none⟩)) w2.drew := (H2.drewN 1).look_yes gr (by omega) HQ.out
    clear H2
    go_upto_region 8 with fail
    go_region
    have H3 : GA w2.drew F p ts S (some ⟨g, off, none⟩) c (some g) mb n := H2'.out.drewN 1
    have C3 : Hid (Chg F w w2.drew) := hid (C2.out.drewN 1)
    clear x3 y2 x4 f3 f4 d1 lk H2' C2
    generalize World.drew w2 = w3 at H3 C3 ⊢
    have x4 := H3.cell HX.out 4 (by omega)
    have f4 := H3.free (by omega) (off + i * 5 + 4)
    simp only [ftCells, List.getElem?_cons_succ, List.getElem?_cons_zero] at x4
    cases ok with
    | false =>
      have y2' := H3.put (y := { x with r := true }) (u := .bool true) HX.out (j := 4) (by omega) rfl
      replace y2' := hid y2'
      replace H3 := hid H3
      go_wp2
      go_end0
      exact ⟨rfl, y2'.out, C3.out.setCell (p := ⟨g, off + i * 5 + 4, none⟩) (.inl hFg) _⟩
    | true =>
      have b1 := (H3.gb gr q HQ.out).cell 1
      have fb := (H3.gb gr q HQ.out).frozen 1
      simp only [grpCells, List.getElem?_cons_succ, List.getElem?_cons_zero] at b1
      rw [HV.out gr] at b1
      have y1 := H3.putv HQ.out 0
      rw [setV_same S gr (HV.out gr)] at y1
      have x4' := y1.cell HX.out 4 (by omega)
      have f4' := y1.free (by omega) (off + i * 5 + 4)
      simp only [ftCells, List.getElem?_cons_succ, List.getElem?_cons_zero] at x4'
      have y2' := y1.put (y := { x with r := true }) (u := .bool true) HX.out (j := 4) (by omega) rfl
      replace y2' := hid y2'
      replace H3 := hid H3
      clear y1
      go_wp2
      go_end0
      exact ⟨rfl, y2'.out, (C3.out.setCell (p := ⟨q, 1, none⟩) (.inl hFq) _).setCell (p := ⟨g, off + i * 5 + 4, none⟩) (.inl hFg) _⟩
end Go.Proofs.Ytpafafleepcjdaa
