/- Contracts of package pick for the law PickClasses: what each play makes. Conditions: few plays. -/
import Derived.Test.YtipmjfpoglkiaaaPcQ
import Derived.Test.YtipmjfpoglkiaaaPk8
import Derived.Test.YtipmjfpoglkiaaaPk5
import Derived.Test.YtipmjfpoglkiaaaPk10
namespace Go.Proofs.Ytipmjfpoglkiaaa
open Go.ChangeShapes Go.WideShapes Go.ChangeAt Go.RowKit
set_option linter.unusedVariables false
theorem PkM.more {E : Env} {p n : Nat} {s : PKS} {w : World} (h : PkM E p n s w) : PkM E p (n + 1) s w := by
  obtain ⟨y, h, h1, h2, h3⟩ := h
  exact ⟨y, h, by omega, by omega, by omega⟩
section
variable {E : Env} {w : World} {p n m : Nat} {o : Nat → Bool} {s : PKS}
theorem pc_block (h : PkM E p n s w) (hi : PcI m o s) (hn : n ≤ 900000) (t : Nat) (t1 : 1 ≤ t) (t9 : t ≤ 9) :
    Calls Try.prog 14 #[.pointer (some ⟨p, 0, none⟩), .int .i64 (t : Int)] w fun e w' => ∃ s', e = .returned (.int .i64 (if o t then 8 else 0)) ∧ PkM E p (n + 1) s' w' ∧ PcI (m + 1) (updO o t true) s' := by
  have hcl := hi.cl t t1 t9
  have hof := hi.of t t1 t9
  cases ho : o t with
  | true =>
    rw [ho] at hof
    refine (pkblock_state h t (clsN t) (by omega) (by unfold clsN; split; omega; split <;> omega) hcl hof).mono ?_
    rintro e w' ⟨rfl, rfl⟩
    refine ⟨s, rfl, h.more, ?_⟩
    have := updO_same o t
    rw [ho] at this
    rw [this]
    exact hi.more
  | false =>
    rw [ho] at hof
    by_cases h3 : t ≤ 3
    · obtain ⟨i, rfl⟩ : ∃ i, t = i + 1 := ⟨t - 1, by omega⟩
      obtain ⟨x, x1, x2, x3, x4⟩ := hi.numF (i := i) (by omega)
      unfold clsN at hcl
      rw [if_pos h3] at hcl
      refine (pkblock_fair h hn (i + 1) t1 (by omega) hcl hof (by rw [hi.tl]; omega) i x x1 (by rw [x3, ho]; rfl)).mono ?_
      rintro e w' ⟨rfl, k⟩
      exact ⟨_, rfl, k, hi.setF (i := i) (by omega) (y := { x with r := false }) ⟨x4.t1, x4.t2, x4.w1, x4.w2, x4.g0, x4.v2⟩ x2 true rfl⟩
    · by_cases h6 : t ≤ 6
      · obtain ⟨v, rfl⟩ : ∃ v, t = v + 4 := ⟨t - 4, by omega⟩
        have hq := hi.at (v := v) (by omega) ho (fun _ _ => trivial)
        unfold clsN at hcl
        rw [if_neg h3, if_pos h6] at hcl
        refine (pkblock_prio h hn (v + 4) t1 (by omega) hcl hof (fun i h8 => by rw [hi.q i h8]; have := qOf_len o i; omega) hi.b v (by omega) (hi.prYes (by omega) ho) (by rw [hq]; simp)).mono ?_
        rintro e w' ⟨rfl, k⟩
        refine ⟨_, rfl, k, ?_⟩
        have e1 : keepI ((v + 4 : Nat) : Int) (s.q v) = [] := by rw [hq]; simp [keepI]
        have e2 : outB s.b v (s.q v) ((v + 4 : Nat) : Int) = clrB s.b v := by unfold outB; rw [e1]; rfl
        rw [e1, e2]
        have := hi.setQ (v := v) (by omega) true (clrB s.b v) (by have := hi.b; unfold clrB; omega) (fun i h8 => by
          rw [clr_test s.b v i hi.b (by omega) h8]
          by_cases hiv : i = v
          · rw [if_pos hiv]; simp [hiv]
          · rw [if_neg hiv]; simp [hiv])
        exact this
      · obtain ⟨i, rfl⟩ : ∃ i, t = i + 7 := ⟨t - 7, by omega⟩
        obtain ⟨x, x1, x2, x3, x4⟩ := hi.numD (i := i) (by omega)
        unfold clsN at hcl
        rw [if_neg h3, if_neg h6] at hcl
        refine (pkblock_dead h hn (i + 7) t1 (by omega) hcl hof (by rw [hi.dl]; omega) i x x1 (by rw [x3, ho]; rfl)).mono ?_
        rintro e w' ⟨rfl, k⟩
        exact ⟨_, rfl, k, hi.setD (i := i) (by omega) (y := { x with r := false }) x4.block x2 true rfl⟩
theorem wok_ok {ts : List FT} {V k : Nat} {o : Option Nat} (hk : ∀ x ∈ ts, FOk V x) (ho : FLeast ts k o) {x : FT} (hx : FOk V x) : FOk V (wokenF o x) := by
  refine ⟨hx.t1, hx.t2, hx.w1, hx.w2, hx.g0, ?_⟩
  cases o with
  | none => exact hx.v2
  | some m =>
    obtain ⟨⟨i, z, _, hz, _, hm⟩, _⟩ := ho
    have := (hk z (List.mem_of_getElem? hz)).v2
    have := hx.v2
    show max x.v m ≤ V
    omega
theorem pc_wake (h : PkM E p n s w) (hi : PcI m o s) (hn : n ≤ 900000) (hm : m ≤ 1000000) (t : Nat) (t1 : 1 ≤ t) (t9 : t ≤ 9) :
    Calls Try.prog 16 #[.pointer (some ⟨p, 0, none⟩), .int .i64 (t : Int)] w fun e w' => ∃ s', e = .returned (.int .i64 (if o t then 0 else 8)) ∧ PkM E p (n + 1) s' w' ∧ PcI (m + 1) (updO o t false) s' := by
  have hcl := hi.cl t t1 t9
  have hof := hi.of t t1 t9
  cases ho : o t with
  | false =>
    rw [ho] at hof
    refine (pkwake_state h t (clsN t) (by omega) (by unfold clsN; split; omega; split <;> omega) hcl hof).mono ?_
    rintro e w' ⟨rfl, rfl⟩
    refine ⟨s, rfl, h.more, ?_⟩
    have := updO_same o t
    rw [ho] at this
    rw [this]
    exact hi.more
  | true =>
    rw [ho] at hof
    by_cases h3 : t ≤ 3
    · obtain ⟨i, rfl⟩ : ∃ i, t = i + 1 := ⟨t - 1, by omega⟩
      obtain ⟨x, x1, x2, x3, x4⟩ := hi.numF (i := i) (by omega)
      unfold clsN at hcl
      rw [if_pos h3] at hcl
      refine (pkwake_fair h hn (i + 1) t1 (by omega) hcl hof (by rw [hi.tl]; omega) (fun y hy => (hi.tk y hy).g0) i x x1 (by rw [x3, ho]; rfl)).mono ?_
      rintro e w' ⟨rfl, oo, ho2, k⟩
      exact ⟨_, rfl, k, hi.setF (i := i) (by omega) (y := wokenF oo x) (wok_ok hi.tk ho2 x4) x2 false rfl⟩
    · by_cases h6 : t ≤ 6
      · obtain ⟨v, rfl⟩ : ∃ v, t = v + 4 := ⟨t - 4, by omega⟩
        have hq : s.q v = [] := by rw [hi.q v (by omega)]; unfold qOf; rw [if_neg (by rw [ho]; simp)]
        unfold clsN at hcl
        rw [if_neg h3, if_pos h6] at hcl
        refine (pkwake_prio h hn (v + 4) t1 (by omega) hcl hof (fun i h8 => by rw [hi.q i h8]; have := qOf_len o i; omega) hi.b v (by omega) (hi.va v (by omega)) (hi.prNo ho)).mono ?_
        rintro e w' ⟨rfl, k⟩
        refine ⟨_, rfl, k, ?_⟩
        rw [hq]
        have := hi.setQ (v := v) (by omega) false (s.b ||| 2 ^ v) (or_lt s.b v hi.b (by omega)) (fun i h8 => by
          rw [Nat.testBit_or, Nat.testBit_two_pow]
          by_cases hiv : i = v
          · rw [if_pos hiv]; simp [hiv]
          · rw [if_neg hiv]
            have : decide (v = i) = false := by simp; omega
            rw [this, Bool.or_false])
        exact this
      · obtain ⟨i, rfl⟩ : ∃ i, t = i + 7 := ⟨t - 7, by omega⟩
        obtain ⟨x, x1, x2, x3, x4⟩ := hi.numD (i := i) (by omega)
        unfold clsN at hcl
        rw [if_neg h3, if_neg h6] at hcl
        have hr : x.r = false := by rw [x3, ho]; rfl
        refine (pkwake_dead h hn (i + 7) t1 (by omega) hcl hof (by rw [hi.dl]; omega) (by have := hi.nw; omega) i x x4 x1 hr).mono ?_
        rintro e w' ⟨rfl, k⟩
        refine ⟨_, rfl, k, hi.setD (i := i) (by omega) (y := wokeT s.nw x) ?_ ?_ false ?_⟩
        · unfold wokeT; rw [hr]; exact x4.wake
        · unfold wokeT; rw [hr]; exact (wakeT_t s.nw x).trans x2
        · unfold wokeT; rw [hr]; unfold wakeT; simp; split <;> rfl
theorem pc_tick (h : PkM E p n s w) (hi : PcI m o s) (hm : m ≤ 1000000) :
    Calls Try.prog 10 #[.pointer (some ⟨p, 0, none⟩)] w fun e w' => ∃ (t : Nat) (s' : PKS), e = .returned (.int .i64 (t : Int)) ∧ PkM E p n s' w' ∧ PcI (m + 1) o s' ∧ s'.now = (t : Int) ∧ t ≤ 9 ∧ (t ≠ 0 → o t = false) ∧ ∀ x, 1 ≤ x → x ≤ 6 → o x = false → t ≠ 0 ∧ (x - 1) / 3 ≤ (t - 1) / 3 := by
  refine (pktick_gen (V := m * 1048576) h (by rw [hi.dl]; omega) hi.b (fun h0 => ?_) (by rw [hi.tl]; omega) (by omega) hi.tk hi.dk (fun t ht => by
    obtain ⟨a1, _, _, a4⟩ := hi.best ht
    exact ⟨by omega, a4⟩) hi.u0 (by have := hi.u1; omega) (by have := hi.nw; omega)).mono ?_
  · obtain ⟨_, v2, _, v4, _⟩ := topB_ok s.b hi.b h0
    have h1 := (hi.bt _ v2).1 v4
    rw [hi.q _ v2] at h1 ⊢
    unfold qOf at h1 ⊢
    by_cases hh : topB s.b < 3 ∧ o (topB s.b + 4) = false
    · rw [if_pos hh]; exact ⟨_, _, rfl⟩
    · rw [if_neg hh] at h1; exact absurd rfl h1
  · rintro e w' ⟨t, s', hb, rfl, ht, k⟩
    obtain ⟨a1, a2, a3, _⟩ := hi.best hb
    exact ⟨t, s', rfl, k, hi.tick ht, ht.1, a1, a2, a3⟩
end
theorem pknow_ok {E : Env} {w : World} {p n : Nat} {s : PKS} (h : PkM E p n s w) :
    Calls Try.prog 20 #[.pointer (some ⟨p, 0, none⟩)] w fun e w' => e = .returned (.int .i64 s.now) ∧ w = w' := by
  obtain ⟨y, h, _⟩ := h
  have c6 := h.cell 6
  simp only [pkCells, List.getElem?_cons_succ, List.getElem?_cons_zero] at c6
  clear h
  go_enter Try.func20, Try.ntmps20
  go_wp2
  go_ret
  exact ⟨rfl, rfl⟩
/-- The scheduler, and a map of bools beside it. -/
structure PcB (w0 : World) (E : Env) (p mo n nb m : Nat) (o : Nat → Bool) (s : PKS) (w : World) : Prop where
  pk : PkM E p n s w
  pi : PcI m o s
  mp : ∃ f, MpAt w Try.prog 3 mo nb f ∧ ∀ t : Nat, f (t : Int) = some (.bool (o t)) ∨ (f (t : Int) = none ∧ o t = false)
  ew : E.w = w
  mko : E.K mo
  mg : w0.heap.size ≤ mo
  ek : ∀ k, k < w0.heap.size → E.K k
  bel : Below w0.heap.size w0 w
theorem PcB.look {w0 w : World} {E : Env} {p mo n nb m : Nat} {o : Nat → Bool} {s : PKS} (h : PcB w0 E p mo n nb m o s w) (t : Nat) (ht : t ≤ 1000) : (Instr.lookup 39 (.map (some mo)) (.int .i64 (t : Int)) false).run Try.prog w = .ok (.bool (o t)) w := by
  obtain ⟨f, hf, ho⟩ := h.mp
  rcases ho t with h1 | ⟨h1, h2⟩
  · exact hf.boolV (t : Int) (by omega) (by omega) h1
  · rw [h2]; exact hf.boolN (t : Int) (by omega) (by omega) h1
theorem PcB.sz {w0 w w' : World} {E : Env} {p mo n nb m n' : Nat} {o : Nat → Bool} {s s' : PKS} (h : PcB w0 E p mo n nb m o s w) (k : PkM E p n' s' w') : E.w.heap.size ≤ w'.heap.size := k.bel.size
/-- The scheduler made a play. -/
theorem PcB.play {w0 w w' : World} {E : Env} {p mo n nb m n' : Nat} {o : Nat → Bool} {s s' : PKS} (h : PcB w0 E p mo n nb m o s w) (k : PkM E p n' s' w') : PkM (E.at w' (h.sz k)) p n' s' w' ∧ Chg E.F w w' := by
  have hb := k.bel
  rw [h.ew] at hb
  exact ⟨k.env (Chg.refl Nil w') (fun k hk => hk.elim) rfl (Grew.refl _ _), hb⟩
theorem PcB.tick {w0 w w' : World} {E : Env} {p mo n nb m m' n' : Nat} {o : Nat → Bool} {s s' : PKS} (h : PcB w0 E p mo n nb m o s w) (k : PkM E p n' s' w') (hi : PcI m' o s') : ∃ E', PcB w0 E' p mo n' nb m' o s' w' := by
  obtain ⟨k1, hb⟩ := h.play k
  obtain ⟨f, hf, ho⟩ := h.mp
  exact ⟨_, k1, hi, ⟨f, hf.chg hb (fun hh => hh h.mko), ho⟩, rfl, h.mko, h.mg, h.ek, h.bel.trans (hb.below (fun k hk hF => hF (h.ek k hk)) h.bel.size)⟩
/-- .. and then the map was told. -/
theorem PcB.told {w0 w w' : World} {E : Env} {p mo n nb m m' n' : Nat} {o : Nat → Bool} {s s' : PKS} (h : PcB w0 E p mo n nb m o s w) (k : PkM E p n' s' w') (t : Nat) (b : Bool) (hi : PcI m' (updO o t b) s') :
    ∃ f, MpAt w' Try.prog 3 mo nb f ∧ ∀ w'', MpAt w'' Try.prog 3 mo (nb + 1) (updM f (t : Int) (some (.bool b))) → Chg (One mo) w' w'' → ∃ E', PcB w0 E' p mo n' (nb + 1) m' (updO o t b) s' w'' := by
  obtain ⟨f, hf, ho⟩ := h.mp
  have hb := k.bel
  rw [h.ew] at hb
  refine ⟨f, hf.chg hb (fun hh => hh h.mko), fun w'' m1 m2 => ?_⟩
  have hs : E.w.heap.size ≤ w''.heap.size := Nat.le_trans k.bel.size m2.size
  refine ⟨E.at w'' hs, k.env m2 (fun i hi => .inl (by rw [show i = mo from hi]; exact h.mko)) rfl (Grew.refl _ _), hi, ⟨_, m1, fun i => ?_⟩, rfl, h.mko, h.mg, h.ek, ?_⟩
  · unfold updM updO
    by_cases hit : i = t
    · subst hit; rw [if_pos rfl, if_pos rfl]; exact .inl rfl
    · rw [if_neg (by omega), if_neg hit]; exact ho i
  · have b1 : Below w0.heap.size w0 w' := h.bel.trans (hb.below (fun k hk hF => hF (h.ek k hk)) h.bel.size)
    exact b1.trans (m2.below (fun k hk hF => by have := h.mg; rw [show k = mo from hF] at hk; omega) (Nat.le_trans h.bel.size hb.size))
theorem PcB.lookD {w0 w w' : World} {E : Env} {p mo n nb m : Nat} {o : Nat → Bool} {s : PKS} (h : PcB w0 E p mo n nb m o s w) (hc : Chg E.F w w') (t : Nat) (ht : t ≤ 1000) : (Instr.lookup 39 (.map (some mo)) (.int .i64 (t : Int)) false).run Try.prog w' = .ok (.bool (o t)) w' := by
  obtain ⟨f, hf, ho⟩ := h.mp
  have hf2 := hf.chg hc (fun hh => hh h.mko)
  rcases ho t with h1 | ⟨h1, h2⟩
  · exact hf2.boolV (t : Int) (by omega) (by omega) h1
  · rw [h2]; exact hf2.boolN (t : Int) (by omega) (by omega) h1
theorem PcB.more {w0 w : World} {E : Env} {p mo n nb m : Nat} {o : Nat → Bool} {s : PKS} (h : PcB w0 E p mo n nb m o s w) : PcB w0 E p mo (n + 1) (nb + 1) (m + 1) o s w := by
  obtain ⟨f, hf, ho⟩ := h.mp
  exact ⟨h.pk.more, h.pi.more, ⟨f, hf.mono (by omega), ho⟩, h.ew, h.mko, h.mg, h.ek, h.bel⟩
theorem PcB.more9 {w0 w : World} {E : Env} {p mo n nb m : Nat} {o : Nat → Bool} {s : PKS} (h : PcB w0 E p mo n nb (m + 1) o s w) : PcB w0 E p mo (n + 1) (nb + 1) (m + 1) o s w := by
  obtain ⟨f, hf, ho⟩ := h.mp
  exact ⟨h.pk.more, h.pi, ⟨f, hf.mono (by omega), ho⟩, h.ew, h.mko, h.mg, h.ek, h.bel⟩
/-- A block, and what the map tells before and behind it. -/
theorem pcb_block {w0 w : World} {E : Env} {p mo n nb m : Nat} {o : Nat → Bool} {s : PKS} (h : PcB w0 E p mo n nb m o s w) (hn : n ≤ 900000) (t : Nat) (t1 : 1 ≤ t) (t9 : t ≤ 9) :
    Calls Try.prog 14 #[.pointer (some ⟨p, 0, none⟩), .int .i64 (t : Int)] w.drew fun e w' => ∃ s', e = .returned (.int .i64 (if o t then 8 else 0)) ∧ (PkM E p (n + 1) s' w' ∧ PcI (m + 1) (updO o t true) s') ∧ (Instr.lookup 39 (.map (some mo)) (.int .i64 (t : Int)) false).run Try.prog w' = .ok (.bool (o t)) w' := by
  refine (pc_block (h.pk.nil ((Chg.refl Nil w).drew)) h.pi hn t t1 t9).mono ?_
  rintro e w' ⟨s', rfl, k, hi⟩
  have hb := k.bel
  rw [h.ew] at hb
  exact ⟨s', rfl, ⟨k, hi⟩, h.lookD hb t (by omega)⟩
theorem pcb_wake {w0 w : World} {E : Env} {p mo n nb m : Nat} {o : Nat → Bool} {s : PKS} (h : PcB w0 E p mo n nb m o s w) (hn : n ≤ 900000) (hm : m ≤ 1000000) (t : Nat) (t1 : 1 ≤ t) (t9 : t ≤ 9) :
    Calls Try.prog 16 #[.pointer (some ⟨p, 0, none⟩), .int .i64 (t : Int)] w.drew fun e w' => ∃ s', e = .returned (.int .i64 (if o t then 0 else 8)) ∧ (PkM E p (n + 1) s' w' ∧ PcI (m + 1) (updO o t false) s') ∧ (Instr.lookup 39 (.map (some mo)) (.int .i64 (t : Int)) false).run Try.prog w' = .ok (.bool (o t)) w' := by
  refine (pc_wake (h.pk.nil ((Chg.refl Nil w).drew)) h.pi hn hm t t1 t9).mono ?_
  rintro e w' ⟨s', rfl, k, hi⟩
  have hb := k.bel
  rw [h.ew] at hb
  exact ⟨s', rfl, ⟨k, hi⟩, h.lookD hb t (by omega)⟩
theorem pcb_start {w0 w4 wr : World} {E : Env} {p mo n : Nat} {s : PKS} (h : PkM E p n s wr) (hw : E.w = w4) (mp : MpAt w4 Try.prog 3 mo 0 (fun _ => none)) (mk : E.K mo) (mg : w0.heap.size ≤ mo) (ek : ∀ k, k < w0.heap.size → E.K k) (B4 : Below w0.heap.size w0 w4) (hi : PcI 0 (fun _ => false) s) : ∃ E', PcB w0 E' p mo n 0 0 (fun _ => false) s wr := by
  have hb := h.bel
  rw [hw] at hb
  exact ⟨E.at wr h.bel.size, h.env (Chg.refl Nil wr) (fun k hk => hk.elim) rfl (Grew.refl _ _), hi, ⟨_, mp.chg hb (fun hh => hh mk), fun t => .inr ⟨rfl, rfl⟩⟩, rfl, mk, mg, ek, B4.trans (hb.below (fun k hk hF => hF (ek k hk)) B4.size)⟩
/-- The scheduler that is new, beside a map that is new. -/
theorem pcb_new {w w3 : World} {p : Nat} (h : PkM (Env.of w) p 0 pkNew w3) : ∃ E : Env, E.w = w3.alloc (.map #[] 0) ∧ PkM E p 0 pkNew (w3.alloc (.map #[] 0)) ∧ E.K w3.heap.size ∧ ∀ k, k < w.heap.size → E.K k := by
  have hb := h.belw
  have hs := hb.size
  refine ⟨⟨w3.alloc (.map #[] 0), fun k => k = w3.heap.size ∨ k < w.heap.size, fun k hk => by rcases hk with hk | hk <;> (simp; omega)⟩, rfl, h.env (H := Nil) ((Chg.refl Nil w3).alloc _) (fun k hk => hk.elim) rfl (fun k hk => ?_), .inl rfl, fun k hk => .inr hk⟩
  rcases hk with hk | hk
  · exact .inr (Nat.le_of_eq hk.symm)
  · exact .inl hk
theorem pkFair_i {E : Env} {w : World} {p n k : Nat} {s : PKS} (h : PkM E p n s w) (hn : n ≤ 900) (hk : PcA k s) (h3 : k < 3) (I : Int) (hI : I = ((k + 1 : Nat) : Int)) :
    Calls Try.prog 13 #[.pointer (some ⟨p, 0, none⟩), .int .i64 I, .int .i64 I] w fun e w' => e = .returned (.int .i64 0) ∧ ∃ s', PkM E p (n + 1) s' w' ∧ PcA (k + 1) s' := by
  subst hI
  obtain ⟨l1, l2, l3, l4, l5, l6, l7⟩ := hk.len
  have hc := hk.co (k + 1) (by omega)
  refine (pkFair_ok h hn (k + 1) (k + 1) (by omega) (by omega) (by omega) (by omega) hc.1 hc.2 (by omega) l5 (fun x hx => by have := l6 x hx; omega)).mono ?_
  rintro e w' ⟨o, rfl, ho, h2⟩
  exact ⟨rfl, _, h2, hk.addF h3 ho⟩
theorem pkPrio_i {E : Env} {w : World} {p n k : Nat} {s : PKS} (h : PkM E p n s w) (hn : n ≤ 900) (hk : PcA k s) (h3 : 3 ≤ k) (h6 : k < 6) (I J : Int) (hI : I = ((k + 1 : Nat) : Int)) (hJ : J = ((k - 3 : Nat) : Int)) :
    Calls Try.prog 9 #[.pointer (some ⟨p, 0, none⟩), .int .i64 I, .int .i64 J] w fun e w' => e = .returned (.int .i64 0) ∧ ∃ s', PkM E p (n + 1) s' w' ∧ PcA (k + 1) s' := by
  subst hI; subst hJ
  obtain ⟨l1, l2, l3, l4, l5, l6, l7⟩ := hk.len
  have hc := hk.co (k + 1) (by omega)
  refine (pkPrio_ok h hn (k + 1) (k - 3) (by omega) (by omega) (by omega) hc.1 hc.2 l4 l3 hk.prNo).mono ?_
  rintro e w' ⟨rfl, h2⟩
  exact ⟨rfl, _, h2, hk.addP h3 h6⟩
theorem pkDead_i {E : Env} {w : World} {p n k : Nat} {s : PKS} (h : PkM E p n s w) (hn : n ≤ 900) (hk : PcA k s) (h6 : 6 ≤ k) (h9 : k < 9) (I : Int) (hI : I = ((k + 1 : Nat) : Int)) :
    Calls Try.prog 19 #[.pointer (some ⟨p, 0, none⟩), .int .i64 I, .int .i64 1, .int .i64 4] w fun e w' => e = .returned (.int .i64 0) ∧ ∃ s', PkM E p (n + 1) s' w' ∧ PcA (k + 1) s' := by
  subst hI
  obtain ⟨l1, l2, l3, l4, l5, l6, l7⟩ := hk.len
  have hc := hk.co (k + 1) (by omega)
  refine (pkDead_ok h hn (k + 1) 1 4 (by omega) (by omega) (by omega) (by omega) (by omega) hc.1 hc.2 (by omega) (by rw [hk.nw]; omega) (fun x hx => by have := l7 x hx; omega)).mono ?_
  rintro e w' ⟨rfl, h2⟩
  exact ⟨rfl, _, h2, hk.addD h6 h9⟩
end Go.Proofs.Ytipmjfpoglkiaaa
