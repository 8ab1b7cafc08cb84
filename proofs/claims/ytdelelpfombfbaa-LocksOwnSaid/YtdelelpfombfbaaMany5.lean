/- Contracts of the lock that many may hold: Take, Free. Conditions: at most 900 hold it or wait. -/
import Derived.Test.YtdelelpfombfbaaMany2
import Derived.Test.YtdelelpfombfbaaMany4
namespace Go.Proofs.Ytdelelpfombfbaa
open Go.ChangeShapes Go.WideShapes Go.ChangeAt Go.RowKit
set_option linter.unusedVariables false
def PTakeM (F : Nat → Prop) (p : Nat) (r : MS × Int) (w : World) (e : Ending) (w' : World) : Prop := ∃ F', e = .returned (.int .i64 r.2) ∧ MnAt w' F' p r.1 ∧ Chg F w w' ∧ Grew w.heap.size F F'
theorem out_rd {w0 w : World} {F : Nat → Prop} {out : List Int} {a : Option Addr} {c : Nat} {G : Option Nat} (h : OutI w0 w F out a c G) : Rd w (Opt G) 1 a out.length c (ints .i64 out) := h.sl.rd
theorem goM_len : ∀ (row : List WN) (rd : List Int) (wr : Int), (goM rd wr row).2.length ≤ row.length := by
  intro row
  induction row with
  | nil => intro rd wr; exact Nat.le_refl _
  | cons x row ih =>
    intro rd wr
    by_cases hw : wr = 0
    · subst hw
      cases hxw : x.w with
      | true =>
        by_cases hr : rd = []
        · rw [goM_write row hxw hr]
          have := ih rd x.t
          simp only [List.length_cons]
          omega
        · rw [goM_stop row hxw hr]
          exact Nat.zero_le _
      | false =>
        rw [goM_read row hxw]
        have := ih (rd ++ [x.t]) 0
        simp only [List.length_cons]
        omega
    · rw [goM_busy _ hw]
      exact Nat.zero_le _
set_option maxHeartbeats 2000000 in
theorem mtake_ok (w : World) (F : Nat → Prop) (p : Nat) (s : MS) (h : MnAt w F p s) (hl : s.rd.length + s.row.length ≤ 900) (t : Int) (t1 : 1 ≤ t) (t2 : t ≤ 16) (wt : Bool) :
    Calls Try.prog 22 #[.pointer (some ⟨p, 0, none⟩), .int .i64 t, .bool wt] w (PTakeM F p (s.take t wt) w) := by
  have HH := mhas_any w F p s t h (by omega) (by omega)
  cases hh : s.has t with
  | true =>
    have E : Hid (s.take t wt = (s, 8)) := hid (by unfold MS.take; rw [if_pos hh])
    rw [hh] at HH
    rw [E.out]
    replace HH := hid HH
    have H := hid h
    clear h hh
    go_enter Try.func22, Try.ntmps22
    go_wp2_with fail
    refine HH.out.mono ?_
    rintro e w1 ⟨rfl, c1⟩
    replace c1 := hid c1
    go_wp2
    go_ret
    exact ⟨F, rfl, H.out.chg c1.out (fun _ _ h => h), c1.out.mono (fun _ _ h => h.elim), Grew.refl _ _⟩
  | false =>
    have E : Hid (s.take t wt = ((goM s.rd s.wr (s.row ++ [(⟨t, wt⟩ : WN)])).1, if hasI (goM s.rd s.wr (s.row ++ [(⟨t, wt⟩ : WN)])).2 t = true then 0 else 9)) := hid (by unfold MS.take; rw [if_neg (by rw [hh]; simp)])
    obtain ⟨r, hr⟩ : ∃ r, r = goM s.rd s.wr (s.row ++ [(⟨t, wt⟩ : WN)]) := ⟨_, rfl⟩
    rw [← hr] at E
    obtain ⟨v, hv⟩ : ∃ v : Int, v = if hasI r.2 t = true then 0 else 9 := ⟨_, rfl⟩
    rw [← hv] at E
    rw [hh] at HH
    rw [E.out]
    have rl : Hid (r.2.length ≤ 1000) := hid (by
      have := goM_len (s.row ++ [(⟨t, wt⟩ : WN)]) s.rd s.wr
      rw [← hr] at this
      simp at this
      omega)
    have HR := hid hr
    have HV := hid hv
    replace HH := hid HH
    have H := hid h
    clear h hh hr hv
    go_enter Try.func22, Try.ntmps22
    go_wp2_with fail
    refine HH.out.mono ?_
    rintro e w1 ⟨rfl, c1⟩
    obtain ⟨a, c, G, b, d, H', h⟩ := H.out.chg c1 (fun _ _ h => h)
    have C1 := hid c1
    have d2 := h.c2
    have HS := hid (h.row.alloc (.cells #[.int .i64 t, .bool wt] 98))
    have HN := hid (Rd.of_blk (n := 1) (s := 2) (Blk.new w1 98 (wnCells (⟨t, wt⟩ : WN))) rfl (by decide))
    have HA := hid h
    clear h c1 HH
    go_upto_region 6 with (at_builtin; refine wpList_append_sl rfl _ _ eWant rfl rfl rfl HS.out HN.out (wn_one _) (by omega) (by omega) ?_; intro b' d' w2 G' q1 q2 q3; have HB1 := (HA.out.blk.alloc (.cells #[.int .i64 t, .bool wt] 98)).chg q2 HA.out.nh; have e2 := HB1.cell 2; have g2 := HB1.frozen 2; simp only [List.getElem?_cons_succ, List.getElem?_cons_zero] at e2; replace HB1 := hid HB1; replace q1 := hid q1; replace q2 := hid q2; replace q3 := hid q3)
    have hs : Sl w2 98 2 b' (s.row ++ [(⟨t, wt⟩ : WN)]).length d' ((s.row ++ [(⟨t, wt⟩ : WN)]).flatMap wnCells) G' := by
      have h1 := q1.out
      have h2 : s.row.flatMap wnCells ++ wnCells (⟨t, wt⟩ : WN) = (s.row ++ [(⟨t, wt⟩ : WN)]).flatMap wnCells := by simp
      rw [h2] at h1
      simpa using h1
    have hC : Chg (Opt H') w1 w2 := ((Chg.refl _ w1).alloc _).trans q2.out (fun _ _ h => h)
    obtain ⟨u1, u2, u3⟩ := HA.out.setQ hC hs (fun g hg => by
      rcases q3.out with h3 | h3 <;> rw [h3] at hg
      · exact .inl hg
      · injection hg with hg; simp at hg; exact .inr (by omega))
    have e : (s.row ++ [(⟨t, wt⟩ : WN)]).length = s.row.length + 1 := by simp
    rw [e] at u1 u2
    have GO := mgo_ok _ _ p _ ⟨_, _, _, _, _, _, u1⟩ (by simp; omega)
    have CF : Hid (Chg F w (w2.setCell ⟨p, 2, none⟩ (.slice b' (s.row.length + 1) d'))) := hid ((C1.out.mono (G := F) (fun _ _ h => h.elim)).trans u2 (fun _ _ h => h))
    have hs1 := C1.out.size
    have GF : Hid (Grew w.heap.size F (Or2 F (Opt G'))) := hid (fun k hk => by
      rcases u3 k hk with h | h
      · exact .inl h
      · exact .inr (by omega))
    have GO2 : Calls Try.prog 45 #[.pointer (some ⟨p, 0, none⟩)] (w2.setCell ⟨p, 2, none⟩ (.slice b' (s.row.length + 1) d')) (PGo (Or2 F (Opt G')) p r (w2.setCell ⟨p, 2, none⟩ (.slice b' (s.row.length + 1) d'))) := by rw [HR.out]; exact GO
    clear GO u1 u2 u3 e hs hC d2 e2 g2 hs1
    generalize World.setCell w2 _ _ = W at GO2 CF ⊢
    replace GO2 := hid GO2
    go_wp2_with fail
    refine GO2.out.mono ?_
    rintro e w4 ⟨F2, a2, c2, G2, rfl, y1, y2, y3, y4⟩
    have y5 := rl.out
    have CN := hid (contains_int _ _ _ _ _ t w4 y4.sl.rd (by omega))
    have FIN : Hid (MnAt w4 F2 p r.1 ∧ Chg F w w4 ∧ Grew w.heap.size F F2) := hid ⟨y1, CF.out.trans y2 (fun i hi hk => by
      rcases GF.out i hk with h | h
      · exact h
      · omega), fun k hk => by
      have hsz := CF.out.size
      rcases y3 k hk with h | h
      · exact GF.out k h
      · exact .inr (by omega)⟩
    clear y1 y2 y3 y4 GO2
    cases hx : hasI r.2 t with
    | true =>
      rw [hx] at CN
      have hv := HV.out
      rw [hx] at hv
      simp only [if_true] at hv
      subst hv
      clear hx
      go_wp2_with fail
      refine CN.out.mono ?_
      rintro e w5 ⟨rfl, rfl⟩
      go_wp2
      go_ret
      exact ⟨F2, rfl, FIN.out⟩
    | false =>
      rw [hx] at CN
      have hv := HV.out
      rw [hx] at hv
      simp only [Bool.false_eq_true, if_false] at hv
      subst hv
      clear hx
      go_wp2_with fail
      refine CN.out.mono ?_
      rintro e w5 ⟨rfl, rfl⟩
      go_wp2
      go_ret
      exact ⟨F2, rfl, FIN.out⟩
end Go.Proofs.Ytdelelpfombfbaa
