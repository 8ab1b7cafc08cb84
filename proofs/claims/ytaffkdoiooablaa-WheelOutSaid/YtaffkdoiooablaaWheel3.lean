/- Contracts of package wheel: Step. Conditions: at most 1000 timers. -/
import Derived.Test.YtaffkdoiooablaaWheel2
namespace Go.Proofs.Ytaffkdoiooablaa
open Go.ChangeShapes Go.WideShapes Go.ChangeAt Go.RowKit
set_option linter.unusedVariables false
theorem clone_tm (R : Nat → Prop) (a : Option Addr) (n c : Nat) (xs : List Value) (w : World) (h : Rd w R 2 a n c xs) (hone : ∀ u ∈ xs, u.oneCell' = true) (hn : n ≤ 4294967296) :
    Calls Try.prog 50 #[.slice a n c] w fun e w' => ∃ a' c' G, e = .returned (.slice a' n c') ∧ Sl w' 85 2 a' n c' xs G ∧ Chg Nil w w' ∧ ∀ g, G = some g → w.heap.size ≤ g := by
  have he := fun (w : World) (a : Option Addr) (n c : Nat) => Lib.run_eql_slice_nil (P := Try.prog) w 81 85 a n c 0 0 Try.underlying81
  cases a with
  | none =>
    have h0 : n = 0 := rd_none h
    subst h0
    have hl : xs = [] := List.eq_nil_of_length_eq_zero (by simpa using h.len)
    subst hl
    clear h hone
    go_enter Try.func50, Try.ntmps50
    go_wp2
    go_ret
    exact ⟨_, _, none, rfl, Sl.empty _ _ _ _, Chg.refl _ _, fun _ h => by cases h⟩
  | some x =>
    have H := hid (h.alloc (.cells #[] 85))
    have HO := hid hone
    clear h hone
    go_enter Try.func50, Try.ntmps50
    go_wp2_with (at_builtin; refine wpList_append_sl rfl _ _ eTimer rfl rfl rfl (Sl.empty _ _ _ _) H.out HO.out (by omega) (by omega) ?_; intro a' c' w' G' q1 q2 q3)
    go_ret
    rw [Nat.zero_add, List.nil_append] at q1
    refine ⟨_, _, G', rfl, q1, ((Chg.refl Nil w).alloc _).trans q2 (fun i _ h => by cases h), fun g hg => ?_⟩
    rcases q3 with q3 | q3 <;> rw [q3] at hg
    · cases hg
    · injection hg with hg; rw [← hg]; simp
/-- Who is due. -/
def dueB (now f : Int) (y : Tm) : Bool := decide (far now y.at_ ≤ f)
def dueN (now f : Int) (l : List Tm) : Nat := (l.takeWhile (dueB now f)).length
theorem dueN_le (now f : Int) (l : List Tm) : dueN now f l ≤ l.length := (List.takeWhile_sublist _).length_le
theorem due_take (now f : Int) (l : List Tm) : l.take (dueN now f l) = l.takeWhile (dueB now f) := by
  have := List.takeWhile_append_dropWhile (p := dueB now f) (l := l)
  conv => lhs; rw [← this]
  unfold dueN
  rw [List.take_left']
  rw [this]
theorem due_drop (now f : Int) (l : List Tm) : l.drop (dueN now f l) = l.dropWhile (dueB now f) := by
  have := List.takeWhile_append_dropWhile (p := dueB now f) (l := l)
  conv => lhs; rw [← this]
  unfold dueN
  rw [List.drop_left']
  rw [this]
def PStep (F : Nat → Prop) (p : Nat) (now2 : Int) (l : List Tm) (n : Nat) (w : World) (e : Ending) (w' : World) : Prop := ∃ F' oa oc G2, e = .returned (.tuple #[.slice oa n oc, .int .i64 0]) ∧ WhAt w' F' p now2 (l.drop n) ∧ Chg F w w' ∧ Grew w.heap.size F F' ∧ Sl w' 3 1 oa n oc (ints .i64 (idsT (l.take n))) G2 ∧ ∀ g, G2 = some g → w.heap.size ≤ g ∧ ¬ F' g
theorem wstep_late (w : World) (F : Nat → Prop) (p : Nat) (now now2 : Int) (l : List Tm) (h : WhAt w F p now l) (hf : far now now2 < 0) :
    Calls Try.prog 34 #[.pointer (some ⟨p, 0, none⟩), .int .u32 now2] w fun e w' => e = .returned (.tuple #[.slice none 0 0, .int .i64 1]) ∧ w = w' := by
  obtain ⟨a, c, G, h⟩ := h
  have hc := h.c0
  clear h
  go_enter Try.func34, Try.ntmps34
  go_wp2_with fail
  refine (far_any _ _ _).mono ?_
  rintro e w2 ⟨rfl, rfl⟩
  go_wp2
  go_ret2
  exact ⟨rfl, rfl⟩
set_option maxHeartbeats 2000000 in
theorem wstep_ok (w : World) (F : Nat → Prop) (p : Nat) (now now2 : Int) (l : List Tm) (h : WhAt w F p now l) (hl : l.length ≤ 1000) (hf : 0 ≤ far now now2) :
    Calls Try.prog 34 #[.pointer (some ⟨p, 0, none⟩), .int .u32 now2] w (PStep F p now2 l (dueN now (far now now2) l) w) := by
  obtain ⟨D, hD⟩ : ∃ D, D = dueN now (far now now2) l := ⟨_, rfl⟩
  rw [← hD]
  have HD := hid hD
  clear hD
  obtain ⟨a, c, G, h⟩ := h
  have hc := h.c0
  have H := hid h
  have f1 := far_bd now now2
  clear h
  go_enter Try.func34, Try.ntmps34
  go_wp2_with fail
  refine (far_any _ _ _).mono ?_
  rintro e w2 ⟨rfl, rfl⟩
  unfold dueN at HD
  generalize far now now2 = f at hf HD f1
  go_wp2
  clear hc
  go_loopw [7, 8] (fun s7 s8 wr => ∃ (i oc : Nat) (oa : Option Addr) (G2 : Option Nat), i ≤ l.length ∧ s7 = .int .i64 i ∧ s8 = .slice oa i oc ∧ Hid (Chg Nil w wr) ∧ Hid (Sl wr 3 1 oa i oc (ints .i64 (idsT (l.take i))) G2) ∧ Hid (∀ g, G2 = some g → w.heap.size ≤ g) ∧ Hid (∀ j (hj : j < l.length), j < i → dueB now f l[j] = true)) (fun s7 _ _ => l.length - (intOf s7).toNat)
  case atStart => exact ⟨0, 0, none, none, by omega, rfl, rfl, Chg.refl _ _, Sl.empty _ _ _ _, (fun g h => by cases h), fun j hj h => by omega⟩
  case round =>
    obtain ⟨i, oc, oa, G2, hi, rfl, rfl, hC, hS, hG, hB⟩ := hrel
    have HW2 := hid (H.out.nil hC.out)
    have hc0 := HW2.out.c0
    have hc1 := HW2.out.c1
    by_cases hend : ∃ hlt : i < l.length, dueB now f l[i] = true
    · obtain ⟨hlt, hbf⟩ := hend
      obtain ⟨g, off, rfl, _, _, hc⟩ := HW2.out.sl.rd.elem tm_len rfl (by omega)
      have e0 := hc i hlt 0 (by omega)
      have e1 := hc i hlt 1 (by omega)
      simp only [tm, List.getElem?_cons_succ, List.getElem?_cons_zero, Nat.add_zero] at e0 e1
      have hbf2 : far now l[i].at_ ≤ f := by simpa [dueB] using hbf
      have HB2 : Hid (∀ j (hj : j < l.length), j < i + 1 → dueB now f l[j] = true) := hid (fun j hj hji => by
        by_cases hji2 : j = i
        · subst hji2; exact hbf
        · exact hB.out j hj (by omega))
      have HTK : Hid (idsT (l.take i) ++ [l[i].id] = idsT (l.take (i + 1))) := hid (by unfold idsT; rw [List.take_succ_eq_append_getElem hlt, List.map_append]; rfl)
      clear hc hbf
      generalize l[i].at_ = A at e0 hbf2
      generalize l[i].id = I at e1 HTK
      have hlt2 : (i : Int) < l.length := by omega
      go_wp2
      go_quiet ((go_at_call 49; exact Calls.quiet_of_same (far_q _ _ _)))
      have S8 := hid ((hS.out.drewN nq).alloc (.cells #[.int .i64 I] 3))
      have N8 := hid (Rd.of_blk (n := 1) (s := 1) (Blk.new (wr.drewN nq) 3 (ints .i64 [I])) rfl (by decide))
      go_wp2_with (at_builtin; refine wpList_append_sl rfl _ _ eInt rfl rfl rfl S8.out N8.out (ints_one _ _) (by omega) (by omega) ?_; intro a' c' w9 G' y1 y2 y3; replace y1 := hid y1; replace y2 := hid y2; replace y3 := hid y3)
      go_roundw
      case rel =>
        have y4 := y1.out
        rw [ints_append, HTK.out] at y4
        have hsz := hC.out.size
        refine ⟨i + 1, c', a', G', by omega, by go_num, rfl, ((hC.out.drewN nq).alloc _).trans y2.out (fun k hk h => by have := hG.out k h; omega), y4, (fun g hg => ?_), HB2⟩
        rcases y3.out with h | h <;> rw [h] at hg
        · exact hG.out g hg
        · injection hg with hg; simp at hg; omega
      case measure => simp [intOf]; omega
    · have HIX : Hid (D = i) := hid (HD.out.trans (tw_ix (dueB now f) l i hi hB.out (fun hj => by
        cases hh : dueB now f l[i] with
        | false => rfl
        | true => exact absurd ⟨hj, hh⟩ hend)))
      have hsl := run_from eTimer a l.length c i (i : Int) rfl hi
      have hlc : l.length ≤ c := H.out.sl.1
      have hcm : c ≤ 9223372036854775807 := H.out.sl.2.1
      have HT : Hid (∀ W, Chg Nil w W → Calls Try.prog 50 #[.slice (adv a c i 2) (l.length - i) (c - i)] W fun e w' => ∃ a' c' G, e = .returned (.slice a' (l.length - i) c') ∧ Sl w' 85 2 a' (l.length - i) c' ((l.drop i).flatMap tm) G ∧ Chg Nil W w' ∧ ∀ g, G = some g → W.heap.size ≤ g) := hid (fun W hW => by
        have h5 := ((H.out.nil hW).sl.rd).drop_n (k := i) hi
        rw [flat_drop tm 2 tm_len] at h5
        exact clone_tm _ _ _ _ _ W h5 (tm_one _) (by omega))
      have HE : Hid (∀ W a' c' G3 w3, Chg Nil w W → Sl W 3 1 oa i oc (ints .i64 (idsT (l.take i))) G2 → Sl w3 85 2 a' (l.length - i) c' ((l.drop i).flatMap tm) G3 → Chg Nil W w3 → (∀ g, G3 = some g → W.heap.size ≤ g) → (w3.cell? ⟨p, 1, none⟩ = some (.slice a l.length c) ∧ w3.frozen? ⟨p, 1, none⟩ = false ∧ (w3.setCell ⟨p, 1, none⟩ (.slice a' (l.length - i) c')).cell? ⟨p, 0, none⟩ = some (.int .u32 now) ∧ (w3.setCell ⟨p, 1, none⟩ (.slice a' (l.length - i) c')).frozen? ⟨p, 0, none⟩ = false) ∧ PStep F p now2 l D w (.returned (.tuple #[.slice oa i oc, .int .i64 0])) ((w3.setCell ⟨p, 1, none⟩ (.slice a' (l.length - i) c')).setCell ⟨p, 0, none⟩ (.int .u32 now2))) := hid (fun W a' c' G3 w3 hW hS s3 c3 g3 => by
        rw [HIX.out]
        have h5 := H.out.nil hW
        have hb3 := h5.blk.chg c3 (fun h => h)
        have s4 := s3
        rw [show l.length - i = (l.drop i).length by rw [List.length_drop]] at s4
        have h6 := h5.lay (c3.mono (fun _ _ h => h.elim)) s4
        rw [show (l.drop i).length = l.length - i by rw [List.length_drop]] at h6
        have c5 : Chg F w w3 := (hW.trans c3 (fun _ _ h => h)).mono (fun _ _ h => h.elim)
        have hpl := H.out.lt p H.out.fp
        have hnp : G2 ≠ some p := fun hh => by have := hG.out p hh; omega
        refine ⟨⟨hb3.cell 1, hb3.frozen 1, h6.c0, h6.blk.frozen 0⟩, _, oa, oc, G2, rfl, ⟨_, _, _, h6.late now2⟩, (c5.setCell (p := ⟨p, 1, none⟩) (.inl H.out.fp) _).setCell (p := ⟨p, 0, none⟩) (.inl H.out.fp) _, ?_, ((hS.chg c3 (fun _ _ h => h)).set_far (p := ⟨p, 1, none⟩) hnp _).set_far (p := ⟨p, 0, none⟩) hnp _, fun g hg => ⟨hG.out g hg, ?_⟩⟩
        · rintro k (hk | hk)
          · exact .inl hk
          · have := g3 k hk; have := hW.size; exact .inr (by omega)
        · rintro (hk | hk)
          · have := H.out.lt g hk; have := hG.out g hg; omega
          · have := g3 g hk; have := hS.lt g hg; omega)
      by_cases hlt : i < l.length
      · have hbf : dueB now f l[i] = false := by
          cases hh : dueB now f l[i] with
          | false => rfl
          | true => exact absurd ⟨hlt, hh⟩ hend
        obtain ⟨g, off, ha, _, _, hc⟩ := HW2.out.sl.rd.elem tm_len rfl (by omega)
        have e0 := hc i hlt 0 (by omega)
        simp only [tm, List.getElem?_cons_zero, Nat.add_zero] at e0
        have hbf2 : ¬ far now l[i].at_ ≤ f := by simpa [dueB] using hbf
        clear hc hbf hend
        generalize l[i].at_ = A at e0 hbf2
        have hlt2 : (i : Int) < l.length := by omega
        have hsl2 := hsl
        rw [ha] at hc1
        rw [ha] at hsl2
        go_wp2
        go_quiet ((go_at_call 49; exact Calls.quiet_of_same (far_q _ _ _)))
        obtain ⟨W, hW⟩ : ∃ W, W = wr.drewN nq := ⟨_, rfl⟩
        have HCW : Hid (Chg Nil w W) := hid (by rw [hW]; exact hC.out.drewN nq)
        have HSW : Hid (Sl W 3 1 oa i oc (ints .i64 (idsT (l.take i))) G2) := hid (by rw [hW]; exact hS.out.drewN nq)
        rw [← hW]
        clear hc1
        have hc1 := (H.out.nil HCW.out).c1
        rw [ha] at hc1
        clear hW e0 hc0
        have HT2 := hid (HT.out W HCW.out)
        rw [ha] at HT2
        go_wp2_with fail
        refine HT2.out.mono ?_
        rintro e w3 ⟨a', c', G3, rfl, s3, c3, g3⟩
        obtain ⟨⟨k1, k2, k3, k4⟩, HP⟩ := HE.out W a' c' G3 w3 HCW.out HSW.out s3 c3 g3
        replace HP := hid HP
        clear s3 c3 g3
        go_wp2
        go_ret2
        exact HP.out
      · clear hend
        go_wp2
        go_quiet ((go_at_call 49; exact Calls.quiet_of_same (far_q _ _ _)))
        obtain ⟨W, hW⟩ : ∃ W, W = wr.drewN nq := ⟨_, rfl⟩
        have HCW : Hid (Chg Nil w W) := hid (by rw [hW]; exact hC.out.drewN nq)
        have HSW : Hid (Sl W 3 1 oa i oc (ints .i64 (idsT (l.take i))) G2) := hid (by rw [hW]; exact hS.out.drewN nq)
        rw [← hW]
        clear hc1
        have hc1 := (H.out.nil HCW.out).c1
        clear hW hc0
        have HT2 := hid (HT.out W HCW.out)
        go_wp2_with fail
        refine HT2.out.mono ?_
        rintro e w3 ⟨a', c', G3, rfl, s3, c3, g3⟩
        obtain ⟨⟨k1, k2, k3, k4⟩, HP⟩ := HE.out W a' c' G3 w3 HCW.out HSW.out s3 c3 g3
        replace HP := hid HP
        clear s3 c3 g3
        go_wp2
        go_ret2
        exact HP.out
end Go.Proofs.Ytaffkdoiooablaa
