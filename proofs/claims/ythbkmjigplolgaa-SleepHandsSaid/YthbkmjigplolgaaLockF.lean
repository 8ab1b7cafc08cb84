/- Contract of Free of package sleep. Condition: the task and the lock are there. -/
import Derived.Test.YthbkmjigplolgaaLockD
import Derived.Test.YthbkmjigplolgaaDelI
namespace Go.Proofs.Ythbkmjigplolgaa
open Go.ChangeShapes Go.WideShapes Go.ChangeAt Go.RowKit
set_option linter.unusedVariables false
/-- The first of the greatest, of the first j. -/
def BestF (g : Int → Int) (l : List Int) (j : Nat) (b m : Int) : Prop :=
  (j = 0 ∧ b = -1 ∧ m = -1) ∨ ∃ i : Nat, ∃ hi : i < l.length, i < j ∧ b = i ∧ m = g l[i] ∧ (∀ x (hx : x < l.length), x < j → g l[x] ≤ g l[i]) ∧ ∀ x (hx : x < l.length), x < i → g l[x] < g l[i]
theorem BestF.yes {g : Int → Int} {l : List Int} {j : Nat} {b m : Int} (h : BestF g l j b m) (hj : j < l.length) (hg : 0 ≤ g l[j]) (hm : m < g l[j]) : BestF g l (j + 1) j (g l[j]) := by
  refine .inr ⟨j, hj, by omega, rfl, rfl, fun x hx hxj => ?_, fun x hx hxj => ?_⟩
  · by_cases e : x = j
    · subst e; exact Int.le_refl _
    · rcases h with ⟨h0, _, _⟩ | ⟨i, hi, h1, _, h2, h3, _⟩
      · omega
      · have := h3 x hx (by omega); omega
  · rcases h with ⟨h0, _, _⟩ | ⟨i, hi, h1, _, h2, h3, _⟩
    · omega
    · have := h3 x hx (by omega); omega
theorem BestF.no {g : Int → Int} {l : List Int} {j : Nat} {b m : Int} (h : BestF g l j b m) (hj : j < l.length) (hg : 0 ≤ g l[j]) (hm : ¬ m < g l[j]) : BestF g l (j + 1) b m := by
  rcases h with ⟨h0, h1, h2⟩ | ⟨i, hi, h1, h2, h3, h4, h5⟩
  · omega
  · refine .inr ⟨i, hi, by omega, h2, h3, fun x hx hxj => ?_, h5⟩
    by_cases e : x = j
    · subst e; omega
    · exact h4 x hx (by omega)
theorem cutI_sub (l : List Int) (i : Nat) : (cutI l i).Sublist l := by
  unfold cutI
  conv => rhs; rw [← List.take_append_drop i l]
  refine List.Sublist.append (List.Sublist.refl _) ?_
  have e : l.drop (i + 1) = (l.drop i).drop 1 := by rw [List.drop_drop]
  rw [e]
  exact List.drop_sublist _ _
theorem cutI_mem {l : List Int} (hn : l.Nodup) {i : Nat} (hi : i < l.length) (x : Int) : x ∈ cutI l i ↔ x ∈ l ∧ x ≠ l[i] := by
  have e : l = l.take i ++ l[i] :: l.drop (i + 1) := by
    have := List.take_append_drop i l
    rw [List.drop_eq_getElem_cons hi] at this
    exact this.symm
  have hn2 := hn
  rw [e, List.nodup_append] at hn2
  obtain ⟨n1, n2, n3⟩ := hn2
  rw [List.nodup_cons] at n2
  unfold cutI
  constructor
  · intro h
    rcases List.mem_append.1 h with h1 | h1
    · exact ⟨List.mem_of_mem_take h1, fun hh => n3 x h1 l[i] List.mem_cons_self hh⟩
    · exact ⟨List.mem_of_mem_drop h1, fun hh => n2.1 (by rw [← hh]; exact h1)⟩
  · rintro ⟨h1, h2⟩
    rw [e] at h1
    rcases List.mem_append.1 h1 with h3 | h3
    · exact List.mem_append_left _ h3
    · rcases List.mem_cons.1 h3 with h4 | h4
      · exact absurd h4 h2
      · exact List.mem_append_right _ h4
section
variable (w : World) (F : Nat → Prop) (p n : Nat) (pr : Int → Int) (o : Nat → Int) (q : Nat → List Int) (t : Int) (k : Nat)
theorem lfree_other (h : LkAt w F p n pr o q) (hk : k < 16) (h1 : 1 ≤ t) (h2 : t ≤ n) (ho : o k ≠ t) :
    Calls Try.prog 19 #[.pointer (some ⟨p, 0, none⟩), .int .i64 t, .int .i64 k] w fun e w' => e = .returned (.tuple #[.int .i64 0, .int .i64 8]) ∧ w = w' := by
  have HI := hid (lis_ok w F p n pr o q t k h hk h1 h2)
  obtain ⟨A, C, G, pm, fm, h⟩ := h
  have d1 := h.co k hk
  have hk2 : (k : Int) < 16 := by omega
  have hb : (o k != t) = true := by rw [bne_iff_ne]; exact ho
  clear h ho
  go_enter Try.func19, Try.ntmps19
  go_wp2_with (go_at_call 51; refine HI.out.mono ?_; rintro e w' ⟨rfl, rfl⟩)
  go_ret2
  exact ⟨rfl, rfl⟩
theorem lfree_waits (h : LkAt w F p n pr o q) (hk : k < 16) (h1 : 1 ≤ t) (h2 : t ≤ n) (ho : o k = t) (hw : (waitK q t).isSome = true) :
    Calls Try.prog 19 #[.pointer (some ⟨p, 0, none⟩), .int .i64 t, .int .i64 k] w fun e w' => e = .returned (.tuple #[.int .i64 0, .int .i64 8]) ∧ w = w' := by
  have HI := hid (lis_ok w F p n pr o q t k h hk h1 h2)
  have HW := lwaits_ok w F p n pr o q t h h1 h2
  rw [hw] at HW
  replace HW := hid HW
  obtain ⟨A, C, G, pm, fm, h⟩ := h
  have d1 := h.co k hk
  have hk2 : (k : Int) < 16 := by omega
  have hb : (o k != t) = false := by rw [bne_eq_false_iff_eq]; exact ho
  clear h ho hw
  go_enter Try.func19, Try.ntmps19
  go_wp2_with (first | (go_at_call 51; refine HI.out.mono ?_; rintro e w' ⟨rfl, rfl⟩) | (go_at_call 52; refine HW.out.mono ?_; rintro e w' ⟨rfl, rfl⟩))
  go_ret2
  exact ⟨rfl, rfl⟩
/-- What Free does where the lock is held, and the task does not wait. -/
def FreeP (e : Ending) (w' : World) : Prop :=
  (q k = [] ∧ e = .returned (.tuple #[.int .i64 0, .int .i64 0]) ∧ LkAt w' F p n pr (upN o k 0) q ∧ Chg F w w') ∨
    ∃ b, ∃ hb : b < (q k).length, (∀ g, IsEff n pr o q g → (∀ x (hx : x < (q k).length), g (q k)[x] ≤ g (q k)[b]) ∧ ∀ x (hx : x < (q k).length), x < b → g (q k)[x] < g (q k)[b]) ∧
      e = .returned (.tuple #[.int .i64 (q k)[b], .int .i64 0]) ∧ ∃ F', LkAt w' F' p n pr (upN o k (q k)[b]) (upN q k (cutI (q k) b)) ∧ Chg F w w' ∧ Grew w.heap.size F F'
theorem isEff_unique {g g' : Int → Int} (hs : LkS n o q) (h : IsEff n pr o q g) (h' : IsEff n pr o q g') : ∀ t : Int, 1 ≤ t → t ≤ n → g t = g' t := by
  obtain ⟨r, hr⟩ := hs.acyc
  have hT := topR_le r n
  have key : ∀ (d : Nat) (t : Int), topR r n - r t < d → 1 ≤ t → t ≤ n → g t = g' t := by
    intro d
    induction d with
    | zero => intro t hd; exact absurd hd (by omega)
    | succ d ih =>
      intro t hd h1 h2
      rw [h t h1 h2, h' t h1 h2]
      refine accF_congr 16 (fun k hk hkt x hx => ?_)
      have h3 := hr k hk x hx
      rw [hkt] at h3
      have h4 := hs.row k hk x hx
      have h5 := hT x (by omega) h4.2
      exact ih x (by omega) h4.1 h4.2
  exact fun t h1 h2 => key (topR r n - r t + 1) t (by omega) h1 h2
set_option maxRecDepth 100000 in
set_option maxHeartbeats 2000000 in
theorem lfree_ok (h : LkAt w F p n pr o q) (hk : k < 16) (h1 : 1 ≤ t) (h2 : t ≤ n) (ho : o k = t) (hw : waitK q t = none) :
    Calls Try.prog 19 #[.pointer (some ⟨p, 0, none⟩), .int .i64 t, .int .i64 k] w (FreeP w F p n pr o q k) := by
  have HI := hid (lis_ok w F p n pr o q t k h hk h1 h2)
  have HW := lwaits_ok w F p n pr o q t h h1 h2
  rw [hw] at HW
  simp only [Option.isSome_none] at HW
  replace HW := hid HW
  have hln := lrow_len w F p n pr o q k h hk
  obtain ⟨g, hg⟩ := h.s.eff pr
  have HE := hid (fun x (a1 : 1 ≤ x) (a2 : x ≤ (n : Int)) => leff_ok w F p n pr o q h g hg x a1 a2)
  have hg0 : Hid (∀ x : Int, 1 ≤ x → x ≤ n → 0 ≤ g x) := hid (fun x a1 a2 => Int.le_trans (h.bd x).1 (hg.own a1 a2))
  have HG := hid hg
  have HU := hid (fun g' (hg' : IsEff n pr o q g') => isEff_unique n pr o q h.s hg hg')
  obtain ⟨A, C, G, pm, fm, h⟩ := h
  have d1 := h.co k hk
  have hk2 : (k : Int) < 16 := by omega
  have hb : (o k != t) = false := by rw [bne_eq_false_iff_eq]; exact ho
  have d2 := h.cq k hk
  have H := hid h
  have HO := hid ho
  have HWN := hid hw
  clear h ho hw hg
  go_enter Try.func19, Try.ntmps19
  go_wp2_with (first | (go_at_call 51; refine HI.out.mono ?_; rintro e w' ⟨rfl, rfl⟩) | (go_at_call 52; refine HW.out.mono ?_; rintro e w' ⟨rfl, rfl⟩))
  go_loop [9, 10, 43] (fun s9 s10 s43 => ∃ (j : Nat) (b m : Int), j ≤ (q k).length ∧ s43 = .int .i64 j ∧ s9 = .int .i64 b ∧ s10 = .int .i64 m ∧ Hid (BestF g (q k) j b m)) (fun _ _ s43 => (q k).length - (intOf s43).toNat)
  case atStart => exact ⟨0, -1, -1, by omega, rfl, rfl, rfl, .inl ⟨rfl, rfl, rfl⟩⟩
  case round =>
    obtain ⟨j, b, m, hj, rfl, rfl, rfl, hB⟩ := hrel
    by_cases hjl : j < (q k).length
    · obtain ⟨gg, off, ha, _, _, hc⟩ := (H.out.sl k hk).rd.at hjl
      have hcj := hc j hjl
      have hxm : (q k)[j] ∈ q k := List.getElem_mem hjl
      have hxb := H.out.s.row k hk _ hxm
      have hgx := hg0.out _ hxb.1 hxb.2
      have hyes := fun hh => hid (hB.out.yes hjl hgx hh)
      have hno := fun hh => hid (hB.out.no hjl hgx hh)
      obtain ⟨x, hx⟩ : ∃ x, x = (q k)[j] := ⟨_, rfl⟩
      rw [← hx] at hcj hxb hyes hno
      have HC := hid (HE.out x hxb.1 hxb.2)
      rw [ha]
      clear hc hx hxm hgx
      by_cases hm : m < g x
      · have hy := hyes hm
        clear hyes hno
        go_wp2_with (go_at_call 18; refine HC.out.mono ?_; rintro e w' ⟨rfl, rfl⟩)
        go_round
        case rel => exact ⟨j + 1, j, g x, by omega, by go_num, rfl, rfl, hy⟩
        case measure => simp [intOf]; omega
      · have hy := hno hm
        have hm2 : g x ≤ m := by omega
        clear hyes hno hm
        go_wp2_with (go_at_call 18; refine HC.out.mono ?_; rintro e w' ⟨rfl, rfl⟩)
        go_round
        case rel => exact ⟨j + 1, b, m, by omega, by go_num, rfl, rfl, hy⟩
        case measure => simp [intOf]; omega
    · have hjl2 : j = (q k).length := by omega
      subst hjl2
      by_cases hz : (q k).length = 0
      · have hq : q k = [] := List.eq_nil_of_length_eq_zero hz
        obtain ⟨rfl, rfl⟩ : b = -1 ∧ m = -1 := by
          rcases hB.out with ⟨_, a1, a2⟩ | ⟨i, hi, h3, _⟩
          · exact ⟨a1, a2⟩
          · omega
        have f1 := H.out.blk.frozen (1 + k)
        have HA := hid (H.out.own hk 0 (H.out.s.leave hk hq))
        have hfp := H.out.fp
        replace hq := hid hq
        clear hz d2
        go_wp2
        go_ret2
        exact .inl ⟨hq.out, rfl, ⟨A, C, G, pm, fm, HA.out⟩, (Chg.refl F w).setCell (p := ⟨p, 1 + k, none⟩) (.inl hfp) _⟩
      · obtain ⟨i, hi, _, rfl, _, h4, h5⟩ := hB.out.resolve_left (fun hh => hz hh.1)
        obtain ⟨gg, off, ha, hgl, _, hc⟩ := (H.out.sl k hk).rd.at hi
        have hci := hc i hi
        have hxm : (q k)[i] ∈ q k := List.getElem_mem hi
        have hxb := H.out.s.row k hk _ hxm
        have hmem := hid (cutI_mem (H.out.s.nd k hk) hi)
        have hcl := cutI_len (q k) i hi
        have hnt : (q k)[i] ∉ cutI (q k) i := fun hh => ((hmem.out _).1 hh).2 rfl
        have hS := hid (H.out.s.drop hk (cutI_sub (q k) i))
        have hS2 := hid (H.out.s.hand hk hxm (cutI_sub (q k) i) hnt)
        have hFD := hid (forF_drop H.out.s hk hxm hS.out hmem.out)
        have hBST : Hid (∀ g', IsEff n pr o q g' → (∀ x (hx : x < (q k).length), g' (q k)[x] ≤ g' (q k)[i]) ∧ ∀ x (hx : x < (q k).length), x < i → g' (q k)[x] < g' (q k)[i]) := hid (fun g' hg' => by
          have hu := HU.out g' hg'
          have hr := fun x (hx : x < (q k).length) => H.out.s.row k hk _ (List.getElem_mem hx)
          refine ⟨fun x hx => ?_, fun x hx hxi => ?_⟩
          · rw [← hu _ (hr x hx).1 (hr x hx).2, ← hu _ hxb.1 hxb.2]; exact h4 x hx hx
          · rw [← hu _ (hr x hx).1 (hr x hx).2, ← hu _ hxb.1 hxb.2]; exact h5 x hx hxi)
        have hwf := hid (H.out.wfT hxb.1 hxb.2)
        have HD := idel (A k) (C k) i (q k) (G k) w.drew ((H.out.sl k hk).drewN 1) (by omega) hi
        rw [ha] at HD
        replace HD := hid HD
        have hi0 : (0 : Int) ≤ (i : Int) := by omega
        have hi1 : (i : Int) < ((q k).length : Int) := by omega
        have hw1 := IntWalk.i64_in ((i : Int) + 1) (by omega)
        have HNE := hid (H.out.gn k hk)
        have d3 := H.out.cq k hk
        have hci2 : w.cell? ⟨gg, off + i, none⟩ = some (.int .i64 (q k)[i]) := hci
        have ha2 := hid ha
        have hk3 := hid hcl
        have HB := hid hB
        obtain ⟨x, hx⟩ : ∃ x, x = (q k)[i] := ⟨_, rfl⟩
        rw [← hx] at hci hci2 hS2 hFD hwf
        have HX := hid hx
        clear hc hxm hnt h4 h5 hz hB hxb hcl hci hx
        rw [ha]
        rw [ha] at d2 d3
        go_wp2
        go_region_law (go_simp; go_at_call 53; refine HD.out.mono ?_; rintro e w2 ⟨rfl, q1, q2⟩; have HB1 : Blk w2 p 70 (lkCells pm o A C q fm) := H.out.blk.drew.chg q2 HNE.out; have e0 : w2.cell? ⟨p, 17 + k, none⟩ = some (.slice (some ⟨gg, off, none⟩) (q k).length (C k)) := by { rw [HB1.cell, lk_row _ _ _ _ _ _ k hk, ha2.out] }; have g0 := HB1.frozen (17 + k); replace HB1 := hid HB1; replace q1 := hid q1; replace q2 := hid q2)
        all_goals
          have hC2 : Chg (Opt (G k)) w w2 := ((Chg.refl _ w).drew).trans q2.out (fun _ _ h => h)
          obtain ⟨W2, hW2⟩ : ∃ W2, W2 = w2.setCell ⟨p, 17 + k, none⟩ (.slice (some ⟨gg, off, none⟩) ((q k).length - 1) (C k)) := ⟨_, rfl⟩
          have hst : Chg (One p) w2 W2 := by rw [hW2]; exact (Chg.refl (One p) w2).setCell (p := ⟨p, 17 + k, none⟩) (.inl (show One p p from rfl)) _
          have hMW : MpAt W2 Try.prog 3 fm 16 (forF q) := (H.out.mf.chg hC2 (fun hh => H.out.gf k hk hh)).chg hst (fun hh => H.out.pf hh)
          have dW : W2.cell? ⟨p, 33, none⟩ = some (.map (some fm)) := by
            have hbW := HB1.out.set (17 + k) (.slice (some ⟨gg, off, none⟩) (cutI (q k) i).length (C k))
            rw [lk_set_row _ _ _ _ _ _ k hk, hk3.out, ← hW2] at hbW
            rw [hbW.cell, lk_for]
          have LAY : Hid (∀ w5, MpAt w5 Try.prog 3 fm 16 (updM (forF q) x none) → Chg (One fm) W2 w5 → ∃ A' C' G', LkA w5 (Or2 F (Opt (G k))) p n pr o (upN q k (cutI (q k) i)) A' C' G' pm fm ∧ Chg F w w5 ∧ Grew w.heap.size F (Or2 F (Opt (G k)))) := hid (fun w5 m1 m2 => by
            rw [hFD.out] at m1
            rw [hW2] at m2
            obtain ⟨z1, z2, z3⟩ := H.out.lay hk hC2 (a := some ⟨gg, off, none⟩) (c := C k) (l := cutI (q k) i) (G' := G k) (by rw [hk3.out]; exact q1.out) (fun g hg => .inl hg) m1 (by rw [hk3.out]; exact m2) hS.out
            exact ⟨_, _, _, z1, z2, z3⟩)
          rw [← hW2]
          replace hW2 := hid hW2
          replace hst := hid hst
          replace hC2 := hid hC2
          replace hMW := hid hMW
          clear e0 g0 d2 d3 d1
          go_wp2_with (at_delete; refine wpList_drop _ rfl _ _ 36 3 rfl (e := 3) Try.underlying3 Try.underlying36 fm 16 _ rfl hMW.out x rfl hwf.out ?_; intro w5 m1 m2; obtain ⟨A', C', G', z1, z2, z3⟩ := LAY.out w5 m1 m2; have c5 := z1.co k hk; have f5 := z1.blk.frozen (1 + k); replace z1 := hid z1; replace z2 := hid z2; replace z3 := hid z3; replace m1 := hid m1; replace m2 := hid m2)
          go_ret2
          have e9 : Ending.returned (.tuple #[.int .i64 x, .int .i64 0]) = .returned (.tuple #[.int .i64 (q k)[i], .int .i64 0]) := by rw [HX.out]
          refine .inr ⟨i, hi, hBST.out, e9, Or2 F (Opt (G k)), ?_, z2.out.setCell (p := ⟨p, 1 + k, none⟩) (.inl H.out.fp) _, z3.out⟩
          rw [← HX.out]
          exact ⟨_, _, _, _, _, z1.out.own hk x hS2.out⟩
end
end Go.Proofs.Ythbkmjigplolgaa
