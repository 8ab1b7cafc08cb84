/- Two schedulers beside each other: package pick where only fair tasks are, and package fair; what each play makes of both. Conditions: few are there. -/
import Derived.Test.YtipmjfpoglkiaaaPkP
namespace Go.Proofs.Ytipmjfpoglkiaaa
open Go.ChangeShapes Go.WideShapes Go.ChangeAt Go.RowKit
set_option linter.unusedVariables false
theorem fwakeup_no (w : World) (F : Nat → Prop) (p : Nat) (ts : List FT) (t : Int) (h : FairAt w F p ts) (hl : ts.length ≤ 1000) (ht : ∀ x ∈ ts, (x.t : Int) ≠ t) :
    Calls Try.prog 17 #[.pointer (some ⟨p, 0, none⟩), .int .i64 t] w fun e w' => e = .returned (.int .i64 4) ∧ w = w' := by
  obtain ⟨a, c, G, mb, h⟩ := h
  have HF := hid (ffind_no w F p ts a c G mb t h hl ht)
  clear h ht
  go_enter Try.func17, Try.ntmps17
  go_wp2_with (go_at_call 32; refine HF.out.mono ?_; rintro e w' ⟨rfl, rfl⟩)
  go_ret
  exact ⟨rfl, rfl⟩
theorem fwakeup_on (w : World) (F : Nat → Prop) (p : Nat) (ts : List FT) (i : Nat) (x : FT) (t : Int) (h : FairAt w F p ts) (hl : ts.length ≤ 1000) (hx : NumF ts i x t) (hr : x.r = true) :
    Calls Try.prog 17 #[.pointer (some ⟨p, 0, none⟩), .int .i64 t] w fun e w' => e = .returned (.int .i64 8) ∧ w = w' := by
  obtain ⟨a, c, G, mb, h⟩ := h
  have hi : i < ts.length := (List.getElem?_eq_some_iff.1 hx.1).1
  obtain ⟨g, off, rfl, rfl, hgl, hne⟩ := h.at (by omega)
  have c4 := h.cell hx.1 4 (by omega)
  simp only [ftCells, List.getElem?_cons_succ, List.getElem?_cons_zero] at c4
  rw [hr] at c4
  have HF := hid (ffind_yes w F p ts g off c _ mb i x t h hl hx)
  clear h hx hr
  go_enter Try.func17, Try.ntmps17
  go_wp2_with (go_at_call 32; refine HF.out.mono ?_; rintro e w' ⟨rfl, rfl⟩)
  go_ret
  exact ⟨rfl, rfl⟩
/-- Another view of what is not to be touched. -/
theorem PkA.env {E E' : Env} {w w' : World} {p : Nat} {y : PKL} {s : PKS} {H : Nat → Prop} (h : PkA E w p y s) (hc : Chg H w w') (hH : ∀ k, H k → E.K k ∨ w.heap.size ≤ k) (hE : E'.w = w') (hg : Grew w.heap.size E.K E'.K) : PkA E' w' p y s := by
  have d : ∀ i F, (pkFs E p y)[i]? = some F → i ≠ 7 → Dj F H := fun i F hi h7 k hk hh => by
    rcases hH k hh with h1 | h1
    · exact h.dj i 7 hi rfl h7 k hk h1
    · have := h.sep.lt i hi k hk; omega
  refine ⟨h.blk.chg hc (d 0 _ rfl (by omega) p rfl), h.fa.chg hc (d 6 _ rfl (by omega)), h.pr.chg hc (d 5 _ rfl (by omega)), h.de.chg hc (d 4 _ rfl (by omega)), h.mc.chg hc (d 3 _ rfl (by omega) y.mc rfl), h.mv.chg hc (d 2 _ rfl (by omega) y.mv rfl), h.mo.chg hc (d 1 _ rfl (by omega) y.mo rfl), ?_, ?_⟩
  · exact h.sep.upd 7 rfl hg (fun k hk => by rw [← hE]; exact E'.lt k hk) hc.size (Nat.zero_le _)
  · subst hE; exact Chg.refl _ _
theorem PkM.env {E E' : Env} {w w' : World} {p n : Nat} {s : PKS} {H : Nat → Prop} (h : PkM E p n s w) (hc : Chg H w w') (hH : ∀ k, H k → E.K k ∨ w.heap.size ≤ k) (hE : E'.w = w') (hg : Grew w.heap.size E.K E'.K) : PkM E' p n s w' := by
  obtain ⟨y, h, hn⟩ := h
  exact ⟨y, h.env hc hH hE hg, hn⟩
/-- Both, beside each other. -/
structure Two (w0 : World) (E : Env) (p pf n : Nat) (s : PKS) (w : World) : Prop where
  pk : PkM E p n s w
  fa : ∃ F, FairAt w F pf s.ts ∧ (∀ k, F k → w0.heap.size ≤ k) ∧ (∀ k, F k → E.K k) ∧ ∀ k, E.K k → F k ∨ k < w0.heap.size
  bel : Below w0.heap.size w0 w
  ew : E.w = w
  ek : ∀ k, k < w0.heap.size → E.K k
def Env.at (E : Env) (w' : World) (h : E.w.heap.size ≤ w'.heap.size) : Env := ⟨w', E.K, fun k hk => Nat.lt_of_lt_of_le (E.lt k hk) h⟩
/-- Both did the same. -/
theorem two_both {w0 w w1 w2 : World} {E : Env} {p pf n n' : Nat} {s s' : PKS} {F F' : Nat → Prop} (h : Two w0 E p pf n s w) (h1 : PkM E p n' s' w1) (hF : FairAt w F pf s.ts ∧ (∀ k, F k → w0.heap.size ≤ k) ∧ (∀ k, F k → E.K k) ∧ ∀ k, E.K k → F k ∨ k < w0.heap.size) (h2 : FairAt w2 F pf s'.ts) (hc : Chg F w1 w2) : ∃ E', Two w0 E' p pf n' s' w2 := by
  obtain ⟨f1, f2, f3, f4⟩ := hF
  have hb := h1.bel
  rw [h.ew] at hb
  have hs : E.w.heap.size ≤ w2.heap.size := by rw [h.ew]; exact Nat.le_trans hb.size hc.size
  refine ⟨E.at w2 hs, ⟨h1.env hc (fun k hk => .inl (f3 k hk)) rfl (Grew.refl _ _), ⟨F, h2, f2, f3, f4⟩, ?_, rfl, h.ek⟩⟩
  have b1 : Below w0.heap.size w w1 := hb.below (fun k hk hF => hF (h.ek k hk)) h.bel.size
  exact (h.bel.trans b1).trans (hc.below (fun k hk hF => by have := f2 k hF; omega) (Nat.le_trans h.bel.size hb.size))
/-- The other one is not touched. -/
theorem two_fair {w0 w w1 : World} {E : Env} {p pf n n' : Nat} {s s' : PKS} (h : Two w0 E p pf n s w) (h1 : PkM E p n' s' w1) {F : Nat → Prop} (hF : FairAt w F pf s.ts) (f3 : ∀ k, F k → E.K k) : FairAt w1 F pf s.ts := by
  have hb := h1.bel
  rw [h.ew] at hb
  exact hF.chg hb (fun k hk hn => hn (f3 k hk))
section
variable {w0 : Env} {w : World} {p N n m : Nat} {s : PKS}
theorem al_block (h : PkM w0 p N s w) (hI : AlI n m s) (hN : N ≤ 900) (i : Nat) (hi : i < 16) :
    Calls Try.prog 14 #[.pointer (some ⟨p, 0, none⟩), .int .i64 ((i + 1 : Nat) : Int)] w fun e w' => e = .returned (.int .i64 (blkR s.ts i)) ∧ ∃ s', s'.ts = blkT s.ts i ∧ AlI n (m + 1) s' ∧ PkM w0 p (N + 1) s' w' := by
  have hlen := hI.inv.len
  have hn := hI.n16
  cases hx : s.ts[i]? with
  | none =>
    have e1 : blkR s.ts i = 4 := by unfold blkR; rw [hx]
    have e2 : blkT s.ts i = s.ts := by unfold blkT; rw [hx]
    rw [e1, e2]
    refine (pkblock_no h (i + 1) (by omega) (hI.co i (by have := List.getElem?_eq_none_iff.1 hx; omega))).mono ?_
    rintro e w' ⟨rfl, rfl⟩
    obtain ⟨y, k1, k2, k3, k4⟩ := h
    exact ⟨rfl, s, rfl, hI.stay, y, k1, by omega, by omega, by omega⟩
  | some x =>
    have hil : i < n := by have := (List.getElem?_eq_some_iff.1 hx).1; omega
    have hof := hI.of i x hx
    cases hr : x.r with
    | true =>
      have e1 : blkR s.ts i = 0 := by unfold blkR; rw [hx]; simp [hr]
      have e2 : blkT s.ts i = s.ts.set i { x with r := false } := by unfold blkT; rw [hx]; simp [hr]
      have hv := blkT_inv (i := i) hI.inv
      rw [e2] at hv
      rw [e1, e2]
      rw [hr] at hof
      refine (pkblock_fair h (by omega) (i + 1) (by omega) (by omega) (hI.cl i hil) hof (by omega) i x (hI.inv.at hx) hr).mono ?_
      rintro e w' ⟨rfl, k⟩
      exact ⟨rfl, _, rfl, hI.put hx hv (some (.bool true)) rfl, k⟩
    | false =>
      have e1 : blkR s.ts i = 8 := by unfold blkR; rw [hx]; simp [hr]
      have e2 : blkT s.ts i = s.ts := by unfold blkT; rw [hx]; simp [hr]
      rw [e1, e2]
      rw [hr] at hof
      refine (pkblock_state h (i + 1) 1 (by omega) (by omega) (hI.cl i hil) hof).mono ?_
      rintro e w' ⟨rfl, rfl⟩
      obtain ⟨y, k1, k2, k3, k4⟩ := h
      exact ⟨rfl, s, rfl, hI.stay, y, k1, by omega, by omega, by omega⟩
theorem al_wake (h : PkM w0 p N s w) (hI : AlI n m s) (hN : N ≤ 900) (i : Nat) (hi : i < 16) :
    Calls Try.prog 16 #[.pointer (some ⟨p, 0, none⟩), .int .i64 ((i + 1 : Nat) : Int)] w fun e w' => e = .returned (.int .i64 (wakR s.ts i)) ∧ ∃ s', WakT s.ts i s'.ts ∧ AlI n (m + 1) s' ∧ PkM w0 p (N + 1) s' w' := by
  have hlen := hI.inv.len
  have hn := hI.n16
  cases hx : s.ts[i]? with
  | none =>
    have e1 : wakR s.ts i = 4 := by unfold wakR; rw [hx]
    have e2 : WakT s.ts i s.ts := by unfold WakT; rw [hx]
    rw [e1]
    refine (pkwake_no h (i + 1) (by omega) (hI.co i (by have := List.getElem?_eq_none_iff.1 hx; omega))).mono ?_
    rintro e w' ⟨rfl, rfl⟩
    obtain ⟨y, k1, k2, k3, k4⟩ := h
    exact ⟨rfl, s, e2, hI.stay, y, k1, by omega, by omega, by omega⟩
  | some x =>
    have hil : i < n := by have := (List.getElem?_eq_some_iff.1 hx).1; omega
    have hof := hI.of i x hx
    cases hr : x.r with
    | true =>
      have e1 : wakR s.ts i = 8 := by unfold wakR; rw [hx]; simp [hr]
      have e2 : WakT s.ts i s.ts := by unfold WakT; rw [hx]; simp [hr]
      rw [e1]
      rw [hr] at hof
      refine (pkwake_state h (i + 1) 1 (by omega) (by omega) (hI.cl i hil) hof).mono ?_
      rintro e w' ⟨rfl, rfl⟩
      obtain ⟨y, k1, k2, k3, k4⟩ := h
      exact ⟨rfl, s, e2, hI.stay, y, k1, by omega, by omega, by omega⟩
    | false =>
      have e1 : wakR s.ts i = 0 := by unfold wakR; rw [hx]; simp [hr]
      rw [e1]
      rw [hr] at hof
      refine (pkwake_fair h (by omega) (i + 1) (by omega) (by omega) (hI.cl i hil) hof (by omega) hI.inv.gz i x (hI.inv.at hx) hr).mono ?_
      rintro e w' ⟨rfl, o, ho, k⟩
      have e2 : WakT s.ts i (s.ts.set i (wokenF o x)) := by unfold WakT; rw [hx]; simp only [hr, Bool.false_eq_true, if_false]; exact ⟨o, ho, rfl⟩
      exact ⟨rfl, _, e2, hI.put hx (wakT_inv hI.inv e2) none rfl, k⟩
theorem al_tick (h : PkM w0 p N s w) (hI : AlI n m s) (hm : m ≤ 900) :
    Calls Try.prog 10 #[.pointer (some ⟨p, 0, none⟩)] w fun e w' => ∃ r s', e = .returned (.int .i64 r) ∧ TikT s.ts r s'.ts ∧ AlI n (m + 1) s' ∧ PkM w0 p (N + 1) s' w' := by
  have hlen := hI.inv.len
  have hn := hI.n16
  refine (pktick_fair h ⟨hI.b, hI.ds⟩ (by omega) (V := m * 1048576) (by omega) hI.inv.ok (fun x hx => ?_) hI.c0 hI.u1 (by have := hI.u2; omega) (by have := hI.nw; omega)).mono ?_
  · obtain ⟨i, hi⟩ := mem_at hx
    have := (List.getElem?_eq_some_iff.1 hi).1
    refine ⟨(hI.inv.ok x hx).t2, ?_⟩
    rw [hI.inv.num i x hi]
    exact hI.cl i (by omega)
  · rintro e w' ⟨b, b', f1, f2, rfl, k1, k2⟩
    have := ffirst_uniq hI.inv f1 f2
    subst this
    have up : ∀ {s' : PKS}, PkM w0 p N s' w' → PkM w0 p (N + 1) s' w' := fun h => by
      obtain ⟨y, a1, a2, a3, a4⟩ := h
      exact ⟨y, a1, by omega, by omega, by omega⟩
    cases b with
    | none => exact ⟨_, pkTickF s 0 none, rfl, ⟨none, f1, rfl, rfl⟩, hI.tick (b := none) 0, up (k1 rfl)⟩
    | some j => exact ⟨_, _, rfl, ⟨some j, f1, rfl, rfl⟩, hI.tick (b := some j) _, up (k2 (by simp))⟩
end
section
variable {w : World} {F : Nat → Prop} {p n V : Nat} {ts : List FT}
theorem fb_block (h : FairAt w F p ts) (hI : NInv V n ts) (hn : n ≤ 16) (i : Nat) :
    Calls Try.prog 15 #[.pointer (some ⟨p, 0, none⟩), .int .i64 ((i + 1 : Nat) : Int)] w fun e w' => e = .returned (.int .i64 (blkR ts i)) ∧ FairAt w' F p (blkT ts i) ∧ Chg F w w' := by
  have hlen := hI.len
  cases hx : ts[i]? with
  | none =>
    have e1 : blkR ts i = 4 := by unfold blkR; rw [hx]
    have e2 : blkT ts i = ts := by unfold blkT; rw [hx]
    rw [e1, e2]
    refine (fblock_no w F p ts _ h (by omega) (hI.no hx)).mono ?_
    rintro e w' ⟨rfl, rfl⟩
    exact ⟨rfl, h, Chg.refl _ _⟩
  | some x =>
    have e1 : blkR ts i = if x.r then 0 else 8 := by unfold blkR; rw [hx]
    have e2 : blkT ts i = ts.set i { x with r := false } := by
      unfold blkT; rw [hx]
      have e3 : x.r = false → ts.set i { x with r := false } = ts := fun hr => by
        have : ({ x with r := false } : FT) = x := by cases x; cases hr; rfl
        rw [this]; exact set_same hx
      show (if x.r then ts.set i { x with r := false } else ts) = _
      by_cases hr : x.r = true
      · rw [if_pos hr]
      · rw [if_neg hr]; exact (e3 (by simpa using hr)).symm
    rw [e1, e2]
    exact fblock_ok w F p ts i x _ h (by omega) (hI.at hx)
theorem fb_wake (h : FairAt w F p ts) (hI : NInv V n ts) (hn : n ≤ 16) (i : Nat) :
    Calls Try.prog 17 #[.pointer (some ⟨p, 0, none⟩), .int .i64 ((i + 1 : Nat) : Int)] w fun e w' => e = .returned (.int .i64 (wakR ts i)) ∧ ∃ ts', WakT ts i ts' ∧ FairAt w' F p ts' ∧ Chg F w w' := by
  have hlen := hI.len
  cases hx : ts[i]? with
  | none =>
    have e1 : wakR ts i = 4 := by unfold wakR; rw [hx]
    have e2 : WakT ts i ts := by unfold WakT; rw [hx]
    rw [e1]
    refine (fwakeup_no w F p ts _ h (by omega) (hI.no hx)).mono ?_
    rintro e w' ⟨rfl, rfl⟩
    exact ⟨rfl, ts, e2, h, Chg.refl _ _⟩
  | some x =>
    cases hr : x.r with
    | true =>
      have e1 : wakR ts i = 8 := by unfold wakR; rw [hx]; simp [hr]
      have e2 : WakT ts i ts := by unfold WakT; rw [hx]; simp [hr]
      rw [e1]
      refine (fwakeup_on w F p ts i x _ h (by omega) (hI.at hx) hr).mono ?_
      rintro e w' ⟨rfl, rfl⟩
      exact ⟨rfl, ts, e2, h, Chg.refl _ _⟩
    | false =>
      have e1 : wakR ts i = 0 := by unfold wakR; rw [hx]; simp [hr]
      rw [e1]
      refine (fwakeup_ok w F p ts i x _ h (by omega) hI.gz (hI.at hx) hr).mono ?_
      rintro e w' ⟨o, ho, rfl, k1, k2⟩
      have e2 : WakT ts i (ts.set i (wokenF o x)) := by unfold WakT; rw [hx]; simp only [hr, Bool.false_eq_true, if_false]; exact ⟨o, ho, rfl⟩
      exact ⟨rfl, _, e2, k1, k2⟩
theorem fb_tick (h : FairAt w F p ts) (hI : NInv V n ts) (hn : n ≤ 16) (hV : V ≤ 1000000000000000) :
    Calls Try.prog 18 #[.pointer (some ⟨p, 0, none⟩)] w fun e w' => ∃ (r E : Int) (ts' : List FT), e = .returned (.tuple #[.int .i64 r, .int .i64 E]) ∧ TikT ts r ts' ∧ FairAt w' F p ts' ∧ Chg F w w' := by
  have hlen := hI.len
  refine (ftick_ok w F p V ts h (by omega) hV hI.ok).mono ?_
  rintro e w' ⟨b, hb, rfl, k1, k2⟩
  exact ⟨_, _, _, rfl, ⟨b, hb, rfl, rfl⟩, k1, k2⟩
end
end Go.Proofs.Ytipmjfpoglkiaaa
