/- Contract of Take of package sleep, where any tasks are there. Conditions: the task and the lock are there. -/
import Derived.Test.YtdelelpfombfbaaLoLk
import Derived.Deep.DeepCutAuto
import Derived.Deep.CutBlock
namespace Go.Proofs.Ytdelelpfombfbaa
open Go.ChangeShapes Go.WideShapes Go.ChangeAt Go.RowKit
set_option linter.unusedVariables false
section
variable {w w1 w2 : World} {F H : Nat → Prop} {p n i c nf : Nat} {P : Int → Option Value} {o : Nat → Int} {q : Nat → List Int} {A : Nat → Option Addr} {C : Nat → Nat} {G : Nat → Option Nat} {pm fm : Nat} {a : Option Addr} {l : List Int} {G' : Option Nat}
/-- Another row is laid in the place of one, and the map of who waits with it. -/
theorem LkA.lay (h : LkA w F p n P o q A C G pm fm) (hi : i < 16) (hc : Chg (Opt (G i)) w w1) (hs : Sl w1 3 1 a l.length c (ints .i64 l) G') (hG : ∀ g, G' = some g → G i = some g ∨ w.heap.size ≤ g)
    (hm : MpAt w2 Try.prog 3 fm nf (forF (upN q i l))) (hc2 : Chg (One fm) (w1.setCell ⟨p, 17 + i, none⟩ (.slice a l.length c)) w2) (hS : LkS n o (upN q i l)) :
    LkA w2 (Or2 F (Opt G')) p n P o (upN q i l) (upN A i a) (upN C i c) (upN G i G') pm fm ∧ Chg F w w2 ∧ Grew w.heap.size F (Or2 F (Opt G')) := by
  have hb := h.blk.chg hc (h.gn i hi)
  have hq1 := hs.ne_blk hb (by decide)
  have hsz := hc.size
  have hst : Chg (One p) w1 (w1.setCell ⟨p, 17 + i, none⟩ (.slice a l.length c)) := (Chg.refl (One p) w1).setCell (p := ⟨p, 17 + i, none⟩) (.inl (show One p p from rfl)) _
  have hmlt := h.mf.lt
  have hplt := h.mp.lt
  have gnew : ∀ g, G' = some g → g ≠ fm ∧ g ≠ pm := fun g hg => by
    rcases hG g hg with h1 | h1
    · exact ⟨fun hh => h.gf i hi (by rw [h1, hh]), fun hh => h.gp i hi (by rw [h1, hh])⟩
    · omega
  have hsz2 := hc2.size
  have hsz1 := hst.size
  refine ⟨⟨?_, fun j hj => ?_, ?_, MpAt.forT hm hS h.n16, .inl h.fp, .inl h.fpm, .inl h.ffm, fun j g hj hg => ?_, fun j k g hj hk hjk hg => ?_, fun j hj hg => ?_, fun j hj hg => ?_, h.pp, h.pf, h.ne, ?_, hS, h.n16, h.pk⟩, ?_, ?_⟩
  · have := hb.set (17 + i) (.slice a l.length c)
    rw [lk_set_row _ _ _ _ _ _ i hi] at this
    exact this.chg hc2 (fun hh => h.pf (show p = fm from hh).symm)
  · by_cases hji : j = i
    · subst hji
      rw [upN_same, upN_same, upN_same, upN_same]
      exact (hs.set_far (p := ⟨p, 17 + j, none⟩) hq1 _).chg hc2 (fun g hg hh => (gnew g hg).1 (show g = fm from hh))
    · rw [upN_ne _ _ hji, upN_ne _ _ hji, upN_ne _ _ hji, upN_ne _ _ hji]
      have h1 := (h.sl j hj).chg hc (fun g hg hh => h.dj i j g hi hj (fun h => hji h.symm) hh hg)
      exact (h1.set_far (p := ⟨p, 17 + i, none⟩) (h.gn j hj) _).chg hc2 (fun g hg hh => h.gf j hj (by rw [hg, show g = fm from hh]))
  · exact ((h.mp.chg hc (fun hh => h.gp i hi hh)).chg hst (fun hh => h.pp hh)).chg hc2 (fun hh => h.ne hh)
  · by_cases hji : j = i
    · subst hji; rw [upN_same] at hg; exact .inr hg
    · rw [upN_ne _ _ hji] at hg; exact .inl (h.fg j g hj hg)
  · intro hgk
    by_cases hji : j = i
    · subst hji
      rw [upN_same] at hg
      rw [upN_ne _ _ (fun h => hjk h.symm)] at hgk
      rcases hG g hg with h1 | h1
      · exact h.dj j k g hj hk hjk h1 hgk
      · have := (h.sl k hk).lt g hgk; omega
    · rw [upN_ne _ _ hji] at hg
      by_cases hki : k = i
      · subst hki
        rw [upN_same] at hgk
        rcases hG g hgk with h1 | h1
        · exact h.dj j k g hj hk hjk hg h1
        · have := (h.sl j hj).lt g hg; omega
      · rw [upN_ne _ _ hki] at hgk
        exact h.dj j k g hj hk hjk hg hgk
  · by_cases hji : j = i
    · subst hji; rw [upN_same] at hg; exact (gnew pm hg).2 rfl
    · rw [upN_ne _ _ hji] at hg; exact h.gp j hj hg
  · by_cases hji : j = i
    · subst hji; rw [upN_same] at hg; exact (gnew fm hg).1 rfl
    · rw [upN_ne _ _ hji] at hg; exact h.gf j hj hg
  · rintro k (hF | hG')
    · have h1 := h.lt k hF; omega
    · have := hs.lt k hG'; omega
  · refine ((hc.mono (G := F) (fun k _ hk => h.fg i k hi hk)).trans hst (fun k _ hk => ?_)).trans hc2 (fun k _ hk => ?_)
    · rw [show k = p from hk]; exact h.fp
    · rw [show k = fm from hk]; exact h.ffm
  · rintro k (hF | hG')
    · exact .inl hF
    · rcases hG k hG' with h1 | h1
      · exact .inl (h.fg i k hi h1)
      · exact .inr h1
/-- Who waits is told anew. -/
theorem forF_wait (h : LkS n o q) (hi : i < 16) {t : Int} (hw : ∀ j, j < 16 → t ∉ q j) (hS : LkS n o (upN q i (q i ++ [t]))) : updM (forF q) t (some (.int .i64 (i : Int))) = forF (upN q i (q i ++ [t])) := by
  funext s
  unfold updM
  have key : ∀ k, waitK (upN q i (q i ++ [t])) s = some k ↔ (if s = t then k = i else waitK q s = some k) := fun k => by
    rw [waitK_some hS]
    by_cases hst : s = t
    · rw [if_pos hst, hst]
      constructor
      · rintro ⟨hk, hin⟩
        by_cases e : k = i
        · exact e
        · rw [upN_ne _ _ e] at hin; exact absurd hin (hw k hk)
      · rintro rfl; exact ⟨hi, by rw [upN_same]; simp⟩
    · rw [if_neg hst, waitK_some h]
      by_cases e : k = i
      · subst e
        rw [upN_same]
        simp [hst]
      · rw [upN_ne _ _ e]
  unfold forF
  by_cases hst : s = t
  · rw [if_pos hst, (key i).2 (by rw [if_pos hst])]; rfl
  · rw [if_neg hst]
    congr 1
    apply Option.ext
    intro k
    show waitK q s = some k ↔ waitK (upN q i (q i ++ [t])) s = some k
    rw [key k, if_neg hst]
end
section
variable (w : World) (F : Nat → Prop) (p n : Nat) (P : Int → Option Value) (o : Nat → Int) (q : Nat → List Int) (t : Int) (k : Nat)
theorem ltake_state (h : LkAt w F p n P o q) (hk : k < 16) (h1 : 1 ≤ t) (h2 : t ≤ n) (hP : (P t).isSome = true) (hw : (waitK q t).isSome = true) :
    Calls Try.prog 21 #[.pointer (some ⟨p, 0, none⟩), .int .i64 t, .int .i64 k] w fun e w' => e = .returned (.int .i64 8) ∧ w = w' := by
  have HI := hid (lis_ok w F p n P o q t k h hk h1 h2 hP)
  obtain ⟨A, C, G, pm, fm, h⟩ := h
  have d0 := h.cf
  have lk := h.mf.look_ok (t := 68) Try.underlying3 Try.underlying68 (zeroIntL _) t (h.wfT h1 h2)
  have e : (forF q t).isSome = true := by unfold forF; rw [Option.isSome_map]; exact hw
  rw [e] at lk
  clear h e hw
  generalize (forF q t).getD (.int .i64 0) = v at lk
  go_enter Try.func21, Try.ntmps21
  go_wp2_with (go_at_call 43; refine HI.out.mono ?_; rintro e w' ⟨rfl, rfl⟩)
  go_ret
  exact ⟨rfl, rfl⟩
set_option maxRecDepth 100000 in
theorem ltake_free (h : LkAt w F p n P o q) (hk : k < 16) (h1 : 1 ≤ t) (h2 : t ≤ n) (hP : (P t).isSome = true) (hw : waitK q t = none) (h0 : o k = 0) :
    Calls Try.prog 21 #[.pointer (some ⟨p, 0, none⟩), .int .i64 t, .int .i64 k] w fun e w' => e = .returned (.int .i64 0) ∧ LkAt w' F p n P (upN o k t) q ∧ Chg F w w' := by
  have HI := hid (lis_ok w F p n P o q t k h hk h1 h2 hP)
  obtain ⟨A, C, G, pm, fm, h⟩ := h
  have d0 := h.cf
  have d1 := h.co k hk
  have f1 := h.blk.frozen (1 + k)
  have lk := h.mf.look_ok (t := 68) Try.underlying3 Try.underlying68 (zeroIntL _) t (h.wfT h1 h2)
  have e : forF q t = none := by unfold forF; rw [hw]; rfl
  rw [e] at lk
  simp only [Option.getD_none, Option.isSome_none] at lk
  rw [h0] at d1
  have hk2 : (k : Int) < 16 := by omega
  have HA := hid (h.own hk t (h.s.take hk h0 h1 h2))
  have hfp := h.fp
  clear h e hw h0
  go_enter Try.func21, Try.ntmps21
  go_wp2_with (go_at_call 43; refine HI.out.mono ?_; rintro e w' ⟨rfl, rfl⟩)
  go_ret
  exact ⟨rfl, ⟨A, C, G, pm, fm, HA.out⟩, (Chg.refl F w).setCell (p := ⟨p, 1 + k, none⟩) (.inl hfp) _⟩
/-- What Take does where the lock is held. -/
def TakeP (e : Ending) (w' : World) : Prop :=
  (Rch o q (o k) t ∧ e = .returned (.int .i64 18) ∧ w = w') ∨ (¬ Rch o q (o k) t ∧ e = .returned (.int .i64 9) ∧ ∃ F', LkAt w' F' p n P o (upN q k (q k ++ [t])) ∧ Chg F w w' ∧ Grew w.heap.size F F')
set_option maxRecDepth 100000 in
set_option maxHeartbeats 2000000 in
theorem ltake_busy (h : LkAt w F p n P o q) (hk : k < 16) (h1 : 1 ≤ t) (h2 : t ≤ n) (hP : (P t).isSome = true) (hw : waitK q t = none) (h0 : o k ≠ 0) :
    Calls Try.prog 21 #[.pointer (some ⟨p, 0, none⟩), .int .i64 t, .int .i64 k] w (TakeP w F p n P o q t k) := by
  have HI := hid (lis_ok w F p n P o q t k h hk h1 h2 hP)
  have hln := lrow_len w F p n P o q k h hk
  obtain ⟨A, C, G, pm, fm, h⟩ := h
  have d0 := h.cf
  have d1 := h.co k hk
  have lk := h.mf.look_ok (t := 68) Try.underlying3 Try.underlying68 (zeroIntL _) t (h.wfT h1 h2)
  have e : forF q t = none := by unfold forF; rw [hw]; rfl
  rw [e] at lk
  simp only [Option.getD_none, Option.isSome_none] at lk
  have hk2 : (k : Int) < 16 := by omega
  have hb0 : (o k == 0) = false := by rw [beq_eq_false_iff_ne]; exact h0
  have hok := h.s.own k hk
  have H := hid h
  have HW := hid (waitK_none.1 hw)
  have H0 := hid h0
  obtain ⟨r, hr⟩ := h.s.acyc
  have HR := hid hr
  have hn16 := h.n16
  clear h e hw h0 hr
  go_enter Try.func21, Try.ntmps21
  go_upto_block 0 with (go_at_call 43; refine HI.out.mono ?_; rintro e w' ⟨rfl, rfl⟩)
  go_cut [10] (fun _ wx => wx = w ∧ Hid (¬ Rch o q (o k) t))
  case first =>
    go_wp2
    go_loop [10] (fun s10 => ∃ x : Int, s10 = .int .i64 x ∧ 0 ≤ x ∧ x ≤ n ∧ Hid (Rch o q (o k) t ↔ Rch o q x t)) (fun s10 => r (intOf s10))
    case atStart => exact ⟨o k, rfl, hok.1, hok.2, Iff.rfl⟩
    case round =>
      obtain ⟨x, rfl, hx0, hxn, hR⟩ := hrel
      by_cases hz : x = 0
      · subst hz
        have hno : ¬ Rch o q (o k) t := by
          rw [hR.out]
          exact rch_stop (fun j hj hh => by have := H.out.s.row j hj _ hh; omega) (by omega)
        replace hno := hid hno
        go_wp2
        go_meet
        exact ⟨rfl, hno⟩
      · have hz1 : (x != 0) = true := by rw [bne_iff_ne]; exact hz
        by_cases hxt : x = t
        · have hb : (x == t) = true := by rw [beq_iff_eq]; exact hxt
          have hyes : Rch o q (o k) t := by rw [hR.out, hxt]; exact Rch.refl t
          replace hyes := hid hyes
          clear hxt hz
          go_wp2
          go_ret
          exact .inl ⟨hyes.out, rfl, rfl⟩
        · have hb : (x == t) = false := by rw [beq_eq_false_iff_ne]; exact hxt
          have lkx := H.out.mf.look_ok (t := 68) Try.underlying3 Try.underlying68 (zeroIntL _) x (H.out.wfT (by omega) hxn)
          cases hwx : waitK q x with
          | none =>
            have e : forF q x = none := by unfold forF; rw [hwx]; rfl
            rw [e] at lkx
            simp only [Option.getD_none, Option.isSome_none] at lkx
            have hno : ¬ Rch o q (o k) t := by
              rw [hR.out]
              exact rch_stop (fun j hj hh => waitK_none.1 hwx j hj hh) hxt
            replace hno := hid hno
            clear e hwx hxt hz
            go_wp2
            go_meet
            exact ⟨rfl, hno⟩
          | some j =>
            have e : forF q x = some (.int .i64 (j : Int)) := by unfold forF; rw [hwx]; rfl
            rw [e] at lkx
            simp only [Option.getD_some, Option.isSome_some] at lkx
            obtain ⟨hj, hxj⟩ := (waitK_some H.out.s).1 hwx
            have dj := H.out.co j hj
            have hoj := H.out.s.own j hj
            have hj2 : (j : Int) < 16 := by omega
            have hnx := hid (H.out.s.next hj hxj hxt)
            have hrk := HR.out j hj x hxj
            clear e hwx hxt hz hxj
            go_wp2
            go_round
            case rel => exact ⟨o j, rfl, hoj.1, hoj.2, hR.out.trans hnx.out⟩
            case measure => simp only [intOf]; exact hrk
  case rest =>
    obtain ⟨rfl, hno⟩ := hcut
    have hS := hid (H.out.s.wait hk H0.out h1 h2 HW.out hno.out)
    have hF := hid (forF_wait H.out.s hk HW.out hS.out)
    have x0 : (wc.alloc (.cells #[.int .i64 t] 3)).cell? ⟨p, 17 + k, none⟩ = some (.slice (A k) (q k).length (C k)) := (H.out.nil ((Chg.refl Nil wc).alloc _)).cq k hk
    have x1 := H.out.cq k hk
    have HS : Hid (Sl (wc.alloc (.cells #[.int .i64 t] 3)).drew 3 1 (A k) (q k).length (C k) (ints .i64 (q k)) (G k)) := (H.out.sl k hk).alloc _
    have HN : Hid (Rd (wc.alloc (.cells #[.int .i64 t] 3)).drew (One wc.heap.size) 1 (some ⟨wc.heap.size, 0, none⟩) 1 1 (ints .i64 [t])) := Rd.of_blk (n := 1) (s := 1) (Blk.new wc 3 (ints .i64 [t])) rfl (by decide)
    have HNE := hid (H.out.gn k hk)
    have hwf := hid (H.out.wfT h1 h2)
    have hl63 : (q k).length + 1 ≤ 4294967296 := by omega
    have h8 : 8 ≤ 4096 := by omega
    clear lk d1 hb0 HR
    go_wp2
    go_region_law (refine step_append_sl rfl _ _ eIntL rfl rfl rfl HS.out HN.out (ints_one _ _) hl63 h8 ?_; intro a' c' w2 G' q1 q2 q3; have HB1 : Blk w2 p 79 (lkCells pm o A C q fm) := (H.out.blk.alloc (.cells #[.int .i64 t] 3)).drew.chg q2 HNE.out; have e0 : w2.cell? ⟨p, 17 + k, none⟩ = some (.slice (A k) (q k).length (C k)) := by { rw [HB1.cell, lk_row _ _ _ _ _ _ k hk] }; have g0 := HB1.frozen (17 + k); replace HB1 := hid HB1; replace q1 := hid q1; replace q2 := hid q2; replace q3 := hid q3)
    all_goals
      have e9 : (q k ++ [t]).length = (q k).length + 1 := by simp
      have hC2 : Chg (Opt (G k)) wc w2 := (((Chg.refl _ wc).alloc (.cells #[.int .i64 t] 3)).drew).trans q2.out (fun _ _ h => h)
      have hG2 : ∀ g, G' = some g → G k = some g ∨ wc.heap.size ≤ g := fun g hg => by
        rcases q3.out with h3 | h3 <;> rw [h3] at hg
        · exact .inl hg
        · injection hg with hg; simp at hg; exact .inr (by omega)
      have hs2 : Sl w2 3 1 a' (q k ++ [t]).length c' (ints .i64 (q k ++ [t])) G' := sl_push rfl q1.out
      obtain ⟨W, hW⟩ : ∃ W, W = w2.setCell ⟨p, 17 + k, none⟩ (.slice a' ((q k).length + 1) c') := ⟨_, rfl⟩
      have hst : Chg (One p) w2 W := by rw [hW]; exact (Chg.refl (One p) w2).setCell (p := ⟨p, 17 + k, none⟩) (.inl (show One p p from rfl)) _
      have hMW : MpAt W Try.prog 3 fm 16 (forF q) := (H.out.mf.chg hC2 (fun hh => H.out.gf k hk hh)).chg hst (fun hh => H.out.pf hh)
      have dW : W.cell? ⟨p, 33, none⟩ = some (.map (some fm)) := by
        have hbW := HB1.out.set (17 + k) (.slice a' (q k ++ [t]).length c')
        rw [lk_set_row _ _ _ _ _ _ k hk, e9, ← hW] at hbW
        rw [hbW.cell, lk_for]
      rw [← hW]
      replace hW := hid hW
      replace hst := hid hst
      replace hC2 := hid hC2
      replace hG2 := hid hG2
      replace hs2 := hid hs2
      replace hMW := hid hMW
      replace e9 := hid e9
      clear e0 g0 x0 x1 d0
      go_wp2_with (at_mapUpdate; refine wpList_store _ rfl _ _ _ 68 rfl Try.underlying3 Try.underlying68 fm 16 _ rfl hMW.out (by omega) t (.int .i64 (k : Int)) rfl rfl hwf.out ?_; intro w5 m1 m2; replace m1 := hid m1; replace m2 := hid m2)
      go_ret
      have hm := m1.out
      rw [hF.out] at hm
      have hm2 := m2.out
      rw [hW.out] at hm2
      obtain ⟨z1, z2, z3⟩ := H.out.lay hk hC2.out hs2.out hG2.out hm (by rw [e9.out]; exact hm2) hS.out
      exact .inr ⟨hno.out, rfl, _, ⟨_, _, _, _, _, z1⟩, z2, z3⟩
end
end Go.Proofs.Ytdelelpfombfbaa
