/- Contracts of package wheel: Add. Conditions: at most 999 timers. -/
import Derived.Test.YtaffkdoiooablaaWheel
namespace Go.Proofs.Ytaffkdoiooablaa
open Go.ChangeShapes Go.WideShapes Go.ChangeAt Go.RowKit
set_option linter.unusedVariables false
theorem far_q (a b : Int) (w : World) : Calls Try.prog 49 #[.int .u32 a, .int .u32 b] w fun e w' => e = .returned (.int .i64 (far a b)) ∧ w' = w := (far_any a b w).mono fun _ _ ⟨h1, h2⟩ => ⟨h1, h2.symm⟩
theorem far_bd (a b : Int) : -2147483648 ≤ far a b ∧ far a b ≤ 2147483647 := by rw [far_eq]; omega
/-- Does y stand ahead of x? -/
def bef (now : Int) (x y : Tm) : Bool := decide (far now y.at_ < far now x.at_ ∨ (far now y.at_ = far now x.at_ ∧ y.id ≤ x.id))
def insIx (now : Int) (x : Tm) (l : List Tm) : Nat := (l.takeWhile (bef now x)).length
theorem tw_ix {α : Type} (f : α → Bool) : ∀ (l : List α) (i : Nat) (hi : i ≤ l.length), (∀ j (hj : j < l.length), j < i → f l[j] = true) → (∀ hj : i < l.length, f l[i] = false) → (l.takeWhile f).length = i
  | [], i, hi, _, _ => by simp at hi; subst hi; rfl
  | x :: l, 0, _, _, h2 => by
    have := h2 (by simp)
    simp only [List.getElem_cons_zero] at this
    rw [List.takeWhile_cons_of_neg (by rw [this]; simp)]; rfl
  | x :: l, i + 1, hi, h1, h2 => by
    have h0 := h1 0 (by simp) (by omega)
    simp only [List.getElem_cons_zero] at h0
    rw [List.takeWhile_cons_of_pos h0, List.length_cons, tw_ix f l i (by simpa using hi) (fun j hj hji => by have := h1 (j + 1) (by simpa using hj) (by omega); simpa using this) (fun hj => by have := h2 (by simpa using hj); simpa using this)]
def PWh (F : Nat → Prop) (p : Nat) (now : Int) (l : List Tm) (v : Value) (w : World) (e : Ending) (w' : World) : Prop := ∃ F', e = .returned v ∧ WhAt w' F' p now l ∧ Chg F w w' ∧ Grew w.heap.size F F'
theorem wadd_there (w : World) (F : Nat → Prop) (p : Nat) (now : Int) (l : List Tm) (x : Tm) (h : WhAt w F p now l) (hl : l.length ≤ 999) (hin : x.id ∈ idsT l) :
    Calls Try.prog 37 #[.pointer (some ⟨p, 0, none⟩), .int .u32 x.at_, .int .i64 x.id] w fun e w' => e = .returned (.int .i64 5) ∧ Chg Nil w w' := by
  obtain ⟨k, hk, _⟩ := idxI_split (idsT l) x.id hin
  have HF := hid (wfind_ok w F p now l x.id h (by omega))
  rw [hk] at HF
  clear h hk hin
  go_enter Try.func37, Try.ntmps37
  go_wp2_with fail
  refine HF.out.mono ?_
  rintro e w1 ⟨rfl, c1⟩
  have C1 := hid c1
  clear c1
  go_wp2
  go_ret
  exact ⟨rfl, C1.out⟩
theorem wadd_late (w : World) (F : Nat → Prop) (p : Nat) (now : Int) (l : List Tm) (x : Tm) (h : WhAt w F p now l) (hl : l.length ≤ 999) (hin : x.id ∉ idsT l) (hf : far now x.at_ < 0) :
    Calls Try.prog 37 #[.pointer (some ⟨p, 0, none⟩), .int .u32 x.at_, .int .i64 x.id] w fun e w' => e = .returned (.int .i64 1) ∧ Chg Nil w w' := by
  have hk : idxI (idsT l) x.id = -1 := idxI_none (fun j hj he => hin (by rw [← he]; exact List.getElem_mem hj))
  have HF := hid (wfind_ok w F p now l x.id h (by omega))
  rw [hk] at HF
  obtain ⟨a, c, G, h⟩ := h
  have H := hid h
  clear h hk hin
  go_enter Try.func37, Try.ntmps37
  go_wp2_with fail
  refine HF.out.mono ?_
  rintro e w1 ⟨rfl, c1⟩
  have C1 := hid c1
  have hc0 := (H.out.nil c1).c0
  clear c1
  go_wp2_with fail
  refine (far_any _ _ _).mono ?_
  rintro e w2 ⟨rfl, rfl⟩
  go_wp2
  go_ret
  exact ⟨rfl, C1.out⟩
set_option maxHeartbeats 2000000 in
theorem wadd_ok (w : World) (F : Nat → Prop) (p : Nat) (now : Int) (l : List Tm) (x : Tm) (h : WhAt w F p now l) (hl : l.length ≤ 999) (hin : x.id ∉ idsT l) (hf : 0 ≤ far now x.at_) :
    Calls Try.prog 37 #[.pointer (some ⟨p, 0, none⟩), .int .u32 x.at_, .int .i64 x.id] w (PWh F p now (insAt l (insIx now x l) x) (.int .i64 0) w) := by
  have hk : idxI (idsT l) x.id = -1 := idxI_none (fun j hj he => hin (by rw [← he]; exact List.getElem_mem hj))
  have HF := hid (wfind_ok w F p now l x.id h (by omega))
  rw [hk] at HF
  obtain ⟨a, c, G, h⟩ := h
  have H := hid h
  clear h hk hin
  go_enter Try.func37, Try.ntmps37
  go_wp2_with fail
  refine HF.out.mono ?_
  rintro e w1 ⟨rfl, c1⟩
  have C1 := hid c1
  have HW := hid (H.out.nil c1)
  have hc0 := HW.out.c0
  clear c1
  go_wp2_with fail
  refine (far_any _ _ _).mono ?_
  rintro e w2 ⟨rfl, rfl⟩
  go_wp2
  clear hc0
  go_loopw [7] (fun s7 wr => ∃ i : Nat, i ≤ l.length ∧ s7 = .int .i64 i ∧ Hid (Chg Nil w1 wr) ∧ Hid (∀ j (hj : j < l.length), j < i → bef now x l[j] = true)) (fun s7 _ => l.length - (intOf s7).toNat)
  case atStart => exact ⟨0, by omega, rfl, Chg.refl _ _, fun j hj h => by omega⟩
  case round =>
    obtain ⟨i, hi, rfl, hC, hB⟩ := hrel
    have HW2 := hid (HW.out.nil hC.out)
    have hc0 := HW2.out.c0
    have hc1 := HW2.out.c1
    by_cases hend : ∃ hlt : i < l.length, bef now x l[i] = true
    · obtain ⟨hlt, hbf⟩ := hend
      obtain ⟨g, off, rfl, _, _, hc⟩ := HW2.out.sl.rd.elem tm_len rfl (by omega)
      have e0 := hc i hlt 0 (by omega)
      have e1 := hc i hlt 1 (by omega)
      simp only [tm, List.getElem?_cons_succ, List.getElem?_cons_zero, Nat.add_zero] at e0 e1
      have f1 := far_bd now l[i].at_
      have f2 := far_bd now x.at_
      have hbf2 : far now l[i].at_ < far now x.at_ ∨ (far now l[i].at_ = far now x.at_ ∧ l[i].id ≤ x.id) := by simpa [bef] using hbf
      have HB2 : Hid (∀ j (hj : j < l.length), j < i + 1 → bef now x l[j] = true) := hid (fun j hj hji => by
        by_cases hji2 : j = i
        · subst hji2; exact hbf
        · exact hB.out j hj (by omega))
      clear hc hbf
      generalize l[i].at_ = A at e0 f1 hbf2
      generalize l[i].id = I at e1 hbf2
      have hw : IntKind.i64.wrap (far now A - far now x.at_) = far now A - far now x.at_ := IntWalk.i64_in _ (by omega)
      have hlt2 : (i : Int) < l.length := by omega
      go_wp2
      go_quiet ((go_at_call 49; exact Calls.quiet_of_same (far_q _ _ _)))
      have h0 : ¬ (0 : Int) < far now A - far now x.at_ := by omega
      by_cases he : far now A - far now x.at_ = 0
      · have he2 : (far now A - far now x.at_ == 0) = true := by rw [beq_iff_eq]; exact he
        have hI : ¬ x.id < I := by omega
        go_wp2
        go_roundw
        case rel => exact ⟨i + 1, by omega, by go_num, hC.out.drewN nq, HB2⟩
        case measure => simp [intOf]; omega
      · have he2 : (far now A - far now x.at_ == 0) = false := by rw [beq_eq_false_iff_ne]; exact he
        go_wp2
        go_roundw
        case rel => exact ⟨i + 1, by omega, by go_num, hC.out.drewN nq, HB2⟩
        case measure => simp [intOf]; omega
    · have HIX : Hid (insIx now x l = i) := hid (tw_ix (bef now x) l i hi hB.out (fun hj => by
        cases hh : bef now x l[i] with
        | false => rfl
        | true => exact absurd ⟨hj, hh⟩ hend))
      have HT : Hid (∀ W, Chg Nil w1 W → Calls Try.prog 52 #[.slice a l.length c, .int .i64 (i : Int), .slice (some ⟨W.heap.size, 0, none⟩) 1 1] (W.alloc (.cells #[.int .u32 x.at_, .int .i64 x.id] 85)) (InsPost (W.alloc (.cells #[.int .u32 x.at_, .int .i64 x.id] 85)) l i x G)) := hid (fun W hW => by
        have h5 := HW.out.nil hW
        exact tins a c W.heap.size i l x G _ (h5.sl.alloc _) (Blk.new W 85 (tm x)) (by omega) (fun hh => by have := h5.sl.lt _ hh; omega) hi)
      have HE : Hid (∀ W a' c' G' w3, Chg Nil w1 W → Sl w3 85 2 a' (l.length + 1) c' ((insAt l i x).flatMap tm) G' → Chg (Opt G) (W.alloc (.cells #[.int .u32 x.at_, .int .i64 x.id] 85)) w3 → (∀ g, G' = some g → G = some g ∨ (W.alloc (.cells #[.int .u32 x.at_, .int .i64 x.id] 85)).heap.size ≤ g) → (w3.cell? ⟨p, 1, none⟩ = some (.slice a l.length c) ∧ w3.frozen? ⟨p, 1, none⟩ = false) ∧ PWh F p now (insAt l (insIx now x l) x) (.int .i64 0) w (.returned (.int .i64 0)) (w3.setCell ⟨p, 1, none⟩ (.slice a' (l.length + 1) c'))) := hid (fun W a' c' G' w3 hW s3 c3 g3 => by
        rw [HIX.out]
        have h5 := HW.out.nil hW
        have c4 : Chg (Opt G) W w3 := ((Chg.refl _ W).alloc _).trans c3 (fun _ _ h => h)
        have hb3 := h5.blk.chg c4 h5.ne
        have s4 := s3
        rw [← insAt_len l i x hi] at s4
        have h6 := h5.lay c4 s4
        rw [insAt_len l i x hi] at h6
        have c5 : Chg F w w3 := ((C1.out.trans hW (fun _ _ h => h)).mono (G := F) (fun _ _ h => h.elim)).trans c4 (fun k _ hk => h5.fg k hk)
        refine ⟨⟨hb3.cell 1, hb3.frozen 1⟩, _, rfl, ⟨_, _, _, h6⟩, c5.setCell (p := ⟨p, 1, none⟩) (.inl h5.fp) _, ?_⟩
        rintro k (hk | hk)
        · exact .inl hk
        · rcases g3 k hk with h7 | h7
          · exact .inl (h5.fg k h7)
          · have := (C1.out.trans hW (fun _ _ h => h)).size
            simp at h7
            exact .inr (by omega))
      by_cases hlt : i < l.length
      · have hbf : bef now x l[i] = false := by
          cases hh : bef now x l[i] with
          | false => rfl
          | true => exact absurd ⟨hlt, hh⟩ hend
        obtain ⟨g, off, rfl, _, _, hc⟩ := HW2.out.sl.rd.elem tm_len rfl (by omega)
        have e0 := hc i hlt 0 (by omega)
        have e1 := hc i hlt 1 (by omega)
        simp only [tm, List.getElem?_cons_succ, List.getElem?_cons_zero, Nat.add_zero] at e0 e1
        have f1 := far_bd now l[i].at_
        have f2 := far_bd now x.at_
        have hbf2 : ¬ (far now l[i].at_ < far now x.at_ ∨ (far now l[i].at_ = far now x.at_ ∧ l[i].id ≤ x.id)) := by simpa [bef] using hbf
        clear hc hbf hend
        generalize l[i].at_ = A at e0 f1 hbf2
        generalize l[i].id = I at e1 hbf2
        have hw : IntKind.i64.wrap (far now A - far now x.at_) = far now A - far now x.at_ := IntWalk.i64_in _ (by omega)
        have hlt2 : (i : Int) < l.length := by omega
        go_wp2
        go_quiet ((go_at_call 49; exact Calls.quiet_of_same (far_q _ _ _)))
        obtain ⟨W, hW⟩ : ∃ W, W = wr.drewN nq := ⟨_, rfl⟩
        have HCW : Hid (Chg Nil w1 W) := hid (by rw [hW]; exact hC.out.drewN nq)
        rw [← hW]
        have hc1 := (HW.out.nil HCW.out).c1
        rw [show wr.cell? ⟨g, off + i * 2 + 1, none⟩ = W.cell? ⟨g, off + i * 2 + 1, none⟩ by rw [hW]; rfl] at e1
        clear hW e0 hc0
        by_cases he : far now A - far now x.at_ = 0
        · have he2 : (far now A - far now x.at_ == 0) = true := by rw [beq_iff_eq]; exact he
          have hI : x.id < I := by omega
          have h0 : ¬ (0 : Int) < far now A - far now x.at_ := by omega
          go_wp2_with fail
          refine (HT.out W HCW.out).mono ?_
          rintro e w3 ⟨a', c', G', rfl, s3, c3, g3⟩
          obtain ⟨⟨k1, k2⟩, HP⟩ := HE.out W a' c' G' w3 HCW.out s3 c3 g3
          replace HP := hid HP
          clear s3 c3 g3
          go_wp2
          go_ret
          exact HP.out
        · have h0 : (0 : Int) < far now A - far now x.at_ := by omega
          go_wp2_with fail
          refine (HT.out W HCW.out).mono ?_
          rintro e w3 ⟨a', c', G', rfl, s3, c3, g3⟩
          obtain ⟨⟨k1, k2⟩, HP⟩ := HE.out W a' c' G' w3 HCW.out s3 c3 g3
          replace HP := hid HP
          clear s3 c3 g3
          go_wp2
          go_ret
          exact HP.out
      · clear hend
        go_wp2_with fail
        refine (HT.out wr hC.out).mono ?_
        rintro e w3 ⟨a', c', G', rfl, s3, c3, g3⟩
        obtain ⟨⟨k1, k2⟩, HP⟩ := HE.out wr a' c' G' w3 hC.out s3 c3 g3
        replace HP := hid HP
        clear s3 c3 g3
        go_wp2
        go_ret
        exact HP.out
end Go.Proofs.Ytaffkdoiooablaa
