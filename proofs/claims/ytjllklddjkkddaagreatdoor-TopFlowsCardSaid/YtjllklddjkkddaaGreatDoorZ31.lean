/- Contracts of package spread: Leave, Add. Conditions: a run as it may be, with fewer than a thousand tasks · Plain model of package spread, on: who runs, who is best, what a tick and fill make of a run. No program in sight; no condition · A run apart from whatever else is there, and what each call does to it; the beginning of the laws. Conditions: a run as it may be. -/
import Derived.Test.YtjllklddjkkddaaGreatDoorZ30
namespace Go.Proofs.YtjllklddjkkddaaGreatDoor
open Go.ChangeShapes Go.WideShapes Go.ChangeAt Go.RowKit
set_option linter.unusedVariables false
theorem Sl.cut {w : World} {e : TypeId} {s n m c : Nat} {a : Option Addr} {xs : List Value} {G : Option Nat} (h : Sl w e s a n c xs G) (hm : m ≤ n) (h0 : 0 < n) : Sl w e s a m m (xs.take (m * s)) G := by
  obtain ⟨h1, h2, h3, h4⟩ := h
  have hms : m * s ≤ n * s := Nat.mul_le_mul_right _ hm
  rcases h4 with ⟨h4, h5⟩ | ⟨g, off, cur, r1, r2, r3, r4, r5⟩
  · omega
  · have hmc : m * s ≤ c * s := Nat.mul_le_mul_right _ (by omega)
    exact ⟨Nat.le_refl _, by omega, by rw [List.length_take]; omega, .inr ⟨g, off, cur, r1, r2, r3, by omega, fun j hj => by rw [r5 j (by omega), List.getElem?_take_of_lt hj]⟩⟩
/-- Behind Leave's append: the run without one task. -/
theorem lea_fin {W w4 : World} {F : Nat → Prop} {p : Nat} {s : SR} {g off i : Nat} {a a' : Option Addr} {c c' : Nat} {G G' : Option Nat} (D : RA W F p s g off a c G) (hi : i < s.ts.length)
    (HB : Blk w4 p 184 [.int .i64 s.n, .int .i64 s.tk, .int .i64 s.st, .slice a s.ts.length c])
    (q1 : Sl w4 191 15 a' (i + (s.ts.length - (i + 1))) c' ((s.ts.take i).flatMap stCells ++ (s.ts.drop (i + 1)).flatMap stCells) G') (q2 : Chg (Opt G) W.drew w4) (q3 : G' = G ∨ G' = some W.drew.heap.size) :
    ∃ g' off', RA (w4.setCell ⟨p, 3, none⟩ (.slice a' (i + (s.ts.length - (i + 1))) c')) (Or2 F (Opt G')) p { s with ts := s.ts.eraseIdx i } g' off' a' c' G' ∧
      Chg F W (w4.setCell ⟨p, 3, none⟩ (.slice a' (i + (s.ts.length - (i + 1))) c')) ∧ Grew W.heap.size F (Or2 F (Opt G')) := by
  have hne := q1.ne_blk HB (by decide)
  have hfl : (s.ts.take i).flatMap stCells ++ (s.ts.drop (i + 1)).flatMap stCells = (s.ts.eraseIdx i).flatMap stCells := by rw [← List.flatMap_append, List.eraseIdx_eq_take_drop_succ]
  have hel : (s.ts.eraseIdx i).length = i + (s.ts.length - (i + 1)) := by rw [List.length_eraseIdx_of_lt hi]; omega
  have hc := q2.size
  have hg : ∀ k, Opt G' k → F k ∨ W.heap.size ≤ k := by
    intro k hk
    rcases q3 with h | h
    · subst h; exact .inl (D.fg k hk)
    · rw [h] at hk
      injection hk with hk
      exact .inr (by have : W.drew.heap.size = W.heap.size := rfl; omega)
  have hst : ∃ g' off', 0 < (s.ts.eraseIdx i).length → a' = some ⟨g', off', none⟩ ∧ G' = some g' := by
    by_cases h0 : 0 < i + (s.ts.length - (i + 1))
    · obtain ⟨g', off', e1, e2, _⟩ := q1.block h0
      exact ⟨g', off', fun _ => ⟨e1, e2⟩⟩
    · exact ⟨0, 0, fun h => absurd h (by rw [hel]; exact h0)⟩
  obtain ⟨g', off', hst⟩ := hst
  refine ⟨g', off', ⟨?_, ?_, hst, .inl D.fp, fun g hg => .inr hg, ?_⟩, ?_, fun k hk => hk.elim .inl (hg k)⟩
  · have := HB.set 3 (.slice a' (i + (s.ts.length - (i + 1))) c')
    show Blk _ p _ [.int .i64 s.n, .int .i64 s.tk, .int .i64 s.st, .slice a' (s.ts.eraseIdx i).length c']
    rw [hel]
    exact this
  · have h1 := q1.set_far (p := ⟨p, 3, none⟩) hne (.slice a' (i + (s.ts.length - (i + 1))) c')
    rw [hfl] at h1
    show Sl _ _ 15 a' (s.ts.eraseIdx i).length c' _ G'
    rw [hel]
    exact h1
  · rintro k (hF | hG)
    · have := D.lt k hF
      have h2 : W.drew.heap.size = W.heap.size := rfl
      simp [World.setCell]; omega
    · have := q1.lt k hG; simpa [World.setCell] using this
  · have h0 : Chg F W w4 := ((Chg.refl F W).drew).trans q2 (fun i _ h => D.fg i h)
    exact h0.setCell (p := ⟨p, 3, none⟩) (.inl D.fp) _
set_option maxRecDepth 100000 in
set_option maxHeartbeats 2000000 in
theorem sleave_any (w : World) (F : Nat → Prop) (p : Nat) (s : SR) (h : RunAt w F p s) (M : Int) (hok : SOk M s) (t : Int) :
    Calls Tryz.prog 75 #[.pointer (some ⟨p, 0, none⟩), .int .i64 t] w (PS F p (s.doLeave t).1 (s.doLeave t).2 w) := by
  have HR := hid h
  obtain ⟨g, off, a, c, G, h⟩ := h
  have c3 := h.c3
  have f3 := h.fr 3
  have hc1 := h.sl.1
  have hc2 := h.sl.2.1
  unfold maxLen at hc2
  have hl := hok.len
  have H := hid h
  have OK := hid hok
  have HNE := hid h.ne
  clear h hok
  go_enter Tryz.func75, Tryz.ntmps75
  go_wp2
  go_loop [11] (fun s11 => ∃ k : Nat, k ≤ s.ts.length ∧ s11 = .int .i64 k ∧ Hid (NoU (fun x => decide (x.t = t)) s.ts k)) (fun s11 => s.ts.length - (intOf s11).toNat)
  case atStart => exact ⟨0, by omega, rfl, fun j y hj => absurd hj (by omega)⟩
  case round =>
    obtain ⟨k, hk, rfl, hN⟩ := hrel
    by_cases hlt : k < s.ts.length
    · have hx := List.getElem?_eq_getElem hlt
      generalize s.ts[k] = x at hx
      obtain ⟨rfl, rfl⟩ := H.out.eq hx
      have hc := H.out.cell hx 0 (by omega)
      simp only [stCells, List.getElem?_cons_zero, Nat.add_zero] at hc
      replace hx := hid hx
      by_cases he : x.t = t
      · have hb : (x.t == t) = true := by rw [beq_iff_eq]; exact he
        have HI : Hid (s.doLeave t = (s.leave k, 0)) := hid (by
          have hf : fndI s.ts t = some k := idx_some hN.out hx.out (by simp [he])
          unfold SR.doLeave
          rw [who_some hf hx.out])
        replace he := hid he
        have hA := H.out.sl.cut (m := k) (by omega) (by omega)
        rw [flat_take stCells 15 st_len] at hA
        have hB := H.out.sl.rd.drop_n (k := k + 1) (by omega)
        rw [flat_drop stCells 15 st_len] at hB
        have HA : Hid (Sl w.drew 191 15 (some ⟨g, off, none⟩) k k ((s.ts.take k).flatMap stCells) (some g)) := hA
        have HB : Hid (Rd w.drew (Opt (some g)) 15 (adv (some ⟨g, off, none⟩) c (k + 1) 15) (s.ts.length - (k + 1)) (c - (k + 1)) ((s.ts.drop (k + 1)).flatMap stCells)) := hB
        have HAo : Hid (∀ u ∈ (s.ts.drop (k + 1)).flatMap stCells, u.oneCell' = true) := flat_one stCells st_one _
        have hs1 := run_from eSTask (some ⟨g, off, none⟩) s.ts.length c (k + 1) ((k : Int) + 1) (by omega) (by omega)
        have hs2 := IntWalk.i64_in ((k : Int) + 1) (by omega)
        have hkc : k ≤ c := by omega
        have hsum : k + (s.ts.length - (k + 1)) ≤ 4294967296 := by omega
        have h112 : 112 ≤ 4096 := by omega
        clear hA hB hN
        go_wp2
        go_region_law (refine step_append_sl rfl _ _ eSTask rfl rfl rfl HA.out HB.out HAo.out hsum h112 ?_; intro a' c' w1 G' q1 q2 q3; have HB1 : Blk w1 p 184 [.int .i64 s.n, .int .i64 s.tk, .int .i64 s.st, .slice (some ⟨g, off, none⟩) s.ts.length c] := H.out.blk.drew.chg q2 HNE.out; have e0 := HB1.cell 3; have g0 := HB1.frozen 3; simp only [List.getElem?_cons_succ, List.getElem?_cons_zero] at e0; replace HB1 := hid HB1; replace q1 := hid q1; replace q2 := hid q2; replace q3 := hid q3)
        all_goals
          obtain ⟨g', off', R1, R2, R3⟩ := lea_fin H.out hlt HB1.out q1.out q2.out q3.out
          have FL := hid (sfill_ok _ (Or2 F (Opt G')) p _ g' off' _ c' G' R1 M (OK.out.erase k))
          replace R2 := hid R2
          replace R3 := hid R3
          clear R1 e0 g0 q1 q2 q3 HB1 HA HB HAo hs1 hs2 hc
          go_wp2_with fail
          refine FL.out.mono ?_
          rintro e w7 ⟨rfl, h3, h4⟩
          replace h3 := hid h3
          replace h4 := hid h4
          go_wp2
          go_ret
          rw [HI.out]
          refine ⟨rfl, Or2 F (Opt G'), ⟨g', off', a', c', G', h3.out⟩, R2.out.trans h4.out (fun i hi h => (R3.out i h).elim id (fun hh => by omega)), R3.out⟩
      · have hb : (x.t == t) = false := by rw [beq_eq_false_iff_ne]; exact he
        have HI := hid (noU_succ hN.out hx.out (by simp [he]))
        replace he := hid he
        go_wp2
        go_round
        case rel => exact ⟨k + 1, by omega, by go_num, HI⟩
        case measure => simp [intOf]; omega
    · have HI : Hid (s.doLeave t = (s, 4)) := hid (by
        have hf : fndI s.ts t = none := idx_none hN.out (by omega)
        unfold SR.doLeave
        rw [who_none hf])
      go_wp2
      go_ret
      rw [HI.out]
      exact ps_same (w' := w) HR.out 0
theorem newS_ok {m : Int} {t cl va : Int} (hm : 0 ≤ m) (t1 : 1 ≤ t) (t2 : t ≤ 16) (hv : valB cl va = true) : TOk m (newS t cl va) := by
  obtain ⟨b1, b2, b3, b4, b5⟩ := valB_bd hv
  exact { t1 := t1, t2 := t2, c1 := b1, c2 := by show cl ≤ 3; omega, va1 := b3, va2 := b4, va3 := b5, mo1 := by simp [newS], mo2 := by simp [newS], wi1 := by simp [newS], wi2 := by simp [newS], b1 := by simp [newS], b2 := by simp [newS], b3 := (fun h => by have h' : cl = 3 := h; omega), p1 := by simp [newS], p2 := by simp [newS], l1 := by simp [newS], l2 := by simp [newS], l3 := (fun h => by have h' : cl = 3 := h; omega), d1 := by simp [newS], d2 := by show (0 : Int) ≤ m + 30; omega, v1 := by simp [newS], v2 := by show (0 : Int) ≤ m * 1048576; omega, s1 := by simp [newS], s2 := hm, pi := by simp [newS], q1 := by simp [newS], q2 := by simp [newS], o1 := fun _ => rfl }
set_option maxHeartbeats 1000000 in
theorem sadd_any (w : World) (F : Nat → Prop) (p : Nat) (s : SR) (h : RunAt w F p s) (M : Int) (hok : SOk M s) (hM : M ≤ 1000000) (hl : s.ts.length < 1000) (t cl va : Int) (t1 : 1 ≤ t) (t2 : t ≤ 16) (hv : valB cl va = true) :
    Calls Tryz.prog 34 #[.pointer (some ⟨p, 0, none⟩), .int .i64 t, .int .i64 cl, .int .i64 va] w (PS F p (s.doAdd t cl va).1 (s.doAdd t cl va).2 w) := by
  have HR := hid h
  have EN := hid (senter_ok w F p s h M hok hM (newS t cl va) (newS_ok (by have := hok.tk1; have := hok.tk2; omega) t1 t2 hv) rfl hl)
  obtain ⟨g, off, a, c, G, h⟩ := h
  have FN := hid (sfind_ok w F p s g off a c G h hok.len t)
  have VL : Hid (∀ w, Calls Tryz.prog 66 #[.int .i64 cl, .int .i64 va] w fun e w' => e = .returned (.bool true) ∧ w = w') := hid (fun w => by
    have := svalue_ok w cl va
    rwa [hv] at this)
  have H := hid h
  clear h hok hv
  simp only [newS] at EN
  cases hf : fndI s.ts t with
  | none =>
    have E : Hid (s.doAdd t cl va = (s.enter (newS t cl va), 0)) := hid (by unfold SR.doAdd; rw [who_none hf])
    rw [hf] at FN
    unfold elV at FN
    clear hf
    go_enter Tryz.func34, Tryz.ntmps34
    go_wp2_with fail
    refine (VL.out _).mono ?_
    rintro e w1 ⟨rfl, hw⟩
    subst hw
    go_wp2_with fail
    refine FN.out.mono ?_
    rintro e w1 ⟨rfl, hw⟩
    subst hw
    go_wp2_with fail
    refine EN.out.mono ?_
    rintro e w2 ⟨rfl, F', h1, h2, h3⟩
    replace h1 := hid h1
    replace h2 := hid h2
    replace h3 := hid h3
    go_wp2
    go_ret
    rw [E.out]
    exact ⟨rfl, F', h1.out, h2.out, h3.out⟩
  | some i =>
    rw [hf] at FN
    obtain ⟨x, hx, _⟩ := fnd_get hf
    have E : Hid (s.doAdd t cl va = (s, 5)) := hid (by unfold SR.doAdd; rw [who_some hf hx])
    unfold elV at FN
    clear hf hx
    go_enter Tryz.func34, Tryz.ntmps34
    go_wp2_with fail
    refine (VL.out _).mono ?_
    rintro e w1 ⟨rfl, hw⟩
    subst hw
    go_wp2_with fail
    refine FN.out.mono ?_
    rintro e w1 ⟨rfl, hw⟩
    subst hw
    go_wp2
    go_ret
    rw [E.out]
    exact ps_same (w' := w) HR.out 0
end Go.Proofs.YtjllklddjkkddaaGreatDoor
namespace Go.Proofs.YtjllklddjkkddaaGreatDoor
set_option linter.unusedVariables false
theorem on_is {ts : List ST} {i : Nat} {x : ST} {c : Int} (hx : ts[i]? = some x) (hc : x.cpu = c) (hu : ∀ (j : Nat) (y : ST), ts[j]? = some y → y.cpu = c → j = i) : onI ts c = some i := by
  refine idx_some (x := x) (fun j y hj hy => ?_) hx (by simp [hc])
  rw [decide_eq_false_iff_not]
  intro h
  have := hu j y hy h
  omega
theorem on_no {ts : List ST} {c : Int} (hu : ∀ (j : Nat) (y : ST), ts[j]? = some y → y.cpu ≠ c) : onI ts c = none := by
  refine idx_none (k := ts.length) (fun j y hj hy => ?_) (Nat.le_refl _)
  rw [decide_eq_false_iff_not]
  exact hu j y hy
theorem on_none_iff {ts : List ST} {c : Int} (h : onI ts c = none) : ∀ (j : Nat) (y : ST), ts[j]? = some y → y.cpu ≠ c := by
  intro j y hy he
  have := idx_not h y (List.mem_of_getElem? hy)
  rw [decide_eq_false_iff_not] at this
  exact this he
theorem fnd_is {ts : List ST} {i : Nat} {x : ST} {c : Int} (hx : ts[i]? = some x) (hc : x.t = c) (hu : ∀ (j : Nat) (y : ST), ts[j]? = some y → y.t = c → j = i) : fndI ts c = some i := by
  refine idx_some (x := x) (fun j y hj hy => ?_) hx (by simp [hc])
  rw [decide_eq_false_iff_not]
  intro h
  have := hu j y hy h
  omega
theorem fnd_no {ts : List ST} {c : Int} (hu : ∀ (j : Nat) (y : ST), ts[j]? = some y → y.t ≠ c) : fndI ts c = none := by
  refine idx_none (k := ts.length) (fun j y hj hy => ?_) (Nat.le_refl _)
  rw [decide_eq_false_iff_not]
  exact hu j y hy
theorem best_no {ts : List ST} {c : Nat} (h : ∀ (j : Nat) (y : ST), ts[j]? = some y → waitB y = true → pinB y c = true → False) : bestI ts c = none := by
  cases hb : bestI ts c with
  | none => rfl
  | some j =>
    obtain ⟨_, x, hx, hw, hp⟩ := bestK_lt hb
    exact (h j x hx hw hp).elim
theorem best_is {ts : List ST} {c i : Nat} {x : ST} (hx : ts[i]? = some x) (hw : waitB x = true) (hp : pinB x c = true) (h : ∀ (j : Nat) (y : ST), ts[j]? = some y → j ≠ i → waitB y = true → pinB y c = true → Better x y) : bestI ts c = some i := by
  cases hb : bestI ts c with
  | none => exact (bestK_none hb (List.getElem?_eq_some_iff.1 hx).1 hx ⟨hw, hp⟩).elim
  | some j =>
    obtain ⟨_, y, hy, hw', hp'⟩ := bestK_lt hb
    by_cases hji : j = i
    · rw [hji]
    · exact (bestK_best hb hy (List.getElem?_eq_some_iff.1 hx).1 hx hw hp (h j y hy hji hw' hp')).elim
theorem upd_upd (ts : List ST) (i : Nat) (f g : ST → ST) : upd (upd ts i f) i g = upd ts i (fun x => g (f x)) := by
  cases h : ts[i]? with
  | none => unfold upd; simp [h]
  | some x =>
    have h2 : (upd ts i f)[i]? = some (f x) := by rw [upd_get, if_pos rfl, h]; rfl
    rw [upd_of h2, upd_of h, upd_of h, set_set]
theorem on_upd {ts : List ST} {i : Nat} {f : ST → ST} (hf : ∀ x, ts[i]? = some x → (f x).cpu = x.cpu) (c : Int) : onI (upd ts i f) c = onI ts c := by
  cases h : ts[i]? with
  | none => have : upd ts i f = ts := by unfold upd; rw [h]
            rw [this]
  | some x =>
    cases ho : onI ts c with
    | none =>
      refine on_no (fun j y hy he => ?_)
      rw [upd_get] at hy
      split at hy
      · rename_i hij
        subst hij
        rw [h] at hy
        injection hy with hy
        subst hy
        rw [hf x h] at he
        exact on_none_iff ho _ x h he
      · exact on_none_iff ho j y hy he
    | some k =>
      obtain ⟨y, hy, hyc, hn⟩ := idx_get ho
      by_cases hik : i = k
      · subst hik
        rw [h] at hy
        injection hy with hy
        subst hy
        refine idx_some (x := f x) (fun j z hj hz => ?_) (by rw [upd_get, if_pos rfl, h]; rfl) (by simp [hf x h]; exact of_decide_eq_true hyc)
        rw [upd_get, if_neg (by omega)] at hz
        exact hn j z hj hz
      · refine idx_some (x := y) (fun j z hj hz => ?_) (by rw [upd_get, if_neg hik]; exact hy) hyc
        rw [upd_get] at hz
        split at hz
        · rename_i hij
          subst hij
          rw [h] at hz
          injection hz with hz
          subst hz
          have := hn i x hj h
          rw [decide_eq_false_iff_not] at this ⊢
          rw [hf x h]
          exact this
        · exact hn j z hj hz
theorem run_cpu (x : ST) : (runT x).cpu = x.cpu := by unfold runT; split <;> (try split) <;> rfl
theorem run_o {x : ST} (h : x.cl ≠ 3) (ho : x.o = false) : (runT x).o = false := by
  unfold runT
  split
  · exact ho
  · rw [if_neg (fun hh => h hh.1)]; exact ho
theorem ref_no {now : Int} {x : ST} (h : x.o = false) : refT now x = x := by unfold refT; rw [h]; simp
theorem ref_id {now : Int} {ts : List ST} (h : ∀ x ∈ ts, x.o = false) : ts.map (refT now) = ts := by
  induction ts with
  | nil => rfl
  | cons x ts ih => rw [List.map_cons, ref_no (h x (by simp)), ih (fun y hy => h y (List.mem_cons_of_mem _ hy))]
/-- What a tick makes of who ran. -/
def gone (st : Int) (x : ST) : ST := { runT x with cpu := -1, si := st + 1 }
theorem tick_calm {s : SR} {c : Int} {i : Nat} (h : onI s.ts c = some i) (ho : ∀ x ∈ s.ts, x.o = false) (h3 : ∀ x, s.ts[i]? = some x → x.cl ≠ 3) : s.tick c = (⟨s.n, s.tk + 1, s.st + 1, upd s.ts i (gone s.st)⟩ : SR).fill := by
  have e1 : s.tick1 c = { s with tk := s.tk + 1, ts := upd s.ts i runT } := by unfold SR.tick1; rw [h]
  have hid : (upd s.ts i runT).map (refT (s.tick1 c).time) = upd s.ts i runT := by
    refine ref_id (fun x hx => ?_)
    rcases upd_mem hx with hx | ⟨y, hy, rfl⟩
    · exact ho x hx
    · exact run_o (h3 y hy) (ho y (List.mem_of_getElem? hy))
  have e2 : s.tick2 c = { s with tk := s.tk + 1, ts := upd s.ts i runT } := by
    unfold SR.tick2
    rw [show (s.tick1 c).ts = upd s.ts i runT by rw [e1], hid, e1]
  have hon : onI (s.tick2 c).ts c = some i := by rw [e2]; show onI (upd s.ts i runT) c = _; rw [on_upd (fun x _ => run_cpu x)]; exact h
  unfold SR.tick SR.tick3
  rw [hon]
  show ((s.tick2 c).wait i).fill = _
  rw [e2]
  unfold SR.wait
  show SR.fill ⟨s.n, s.tk + 1, s.st + 1, upd (upd s.ts i runT) i (fun x => { x with cpu := -1, si := s.st + 1 })⟩ = _
  rw [upd_upd]
  rfl
theorem fill_one {s : SR} (hn : s.n = 1) : s.fill = match onI s.ts 0 with
    | some _ => s
    | none => match bestI s.ts 0 with
      | none => s
      | some i => { s with ts := upd s.ts i (fun x => { x with cpu := 0 }) } := by
  have e1 : s.fill = { s with ts := fillK s.ts 1 } := by unfold SR.fill; rw [hn]
  rw [e1]
  have h0 : fillK s.ts 0 = s.ts := rfl
  cases ho : onI s.ts 0 with
  | some i =>
    have := @fillK_on s.ts 0 i (by rw [h0]; exact ho)
    rw [this, h0]
  | none =>
    cases hb : bestI s.ts 0 with
    | none =>
      have := @fillK_no s.ts 0 (by rw [h0]; exact ho) (by rw [h0]; exact hb)
      rw [this, h0]
    | some i =>
      have := @fillK_to s.ts 0 i (by rw [h0]; exact ho) (by rw [h0]; exact hb)
      rw [this, h0]
      rfl
theorem fill_one_on {s : SR} {i : Nat} (hn : s.n = 1) (h : onI s.ts 0 = some i) : s.fill = s := by rw [fill_one hn, h]
theorem fill_one_to {s : SR} {i : Nat} (hn : s.n = 1) (h : onI s.ts 0 = none) (hb : bestI s.ts 0 = some i) : s.fill = { s with ts := upd s.ts i (fun x => { x with cpu := 0 }) } := by rw [fill_one hn, h]; simp only; rw [hb]
end Go.Proofs.YtjllklddjkkddaaGreatDoor
namespace Go.Proofs.YtjllklddjkkddaaGreatDoor
open Go.ChangeShapes Go.WideShapes Go.ChangeAt Go.RowKit
set_option linter.unusedVariables false
/-- A run, apart from what was there at first and from some blocks. -/
def RunX (w0 : World) (gs : List Nat) (p : Nat) (s : SR) (w : World) : Prop := ∃ F, RunAt w F p s ∧ (∀ k, F k → w0.heap.size ≤ k) ∧ Below w0.heap.size w0 w ∧ ∀ g ∈ gs, ¬ F g ∧ g < w.heap.size ∧ w0.heap.size ≤ g
/-- These blocks are as they were. -/
def KeepB (gs : List Nat) (w w' : World) : Prop := ∀ g ∈ gs, ∀ t cs, Blk w g t cs → Blk w' g t cs
theorem RunX.bel {w0 w : World} {gs : List Nat} {p : Nat} {s : SR} (h : RunX w0 gs p s w) : Below w0.heap.size w0 w := by
  obtain ⟨F, _, _, h, _⟩ := h
  exact h
theorem RunX.step {w0 w w' : World} {gs : List Nat} {F F' : Nat → Prop} {p : Nat} {s' : SR} (h2 : ∀ k, F k → w0.heap.size ≤ k) (h3 : Below w0.heap.size w0 w) (h4 : ∀ g ∈ gs, ¬ F g ∧ g < w.heap.size ∧ w0.heap.size ≤ g) (k1 : RunAt w' F' p s') (k2 : Chg F w w') (k3 : Grew w.heap.size F F') : RunX w0 gs p s' w' ∧ KeepB gs w w' := by
  refine ⟨⟨F', k1, fun k hk => (k3 k hk).elim (h2 k) (fun h => Nat.le_trans h3.size h), below_chg h3 k2 h2, fun g hg => ?_⟩, fun g hg t cs hb => hb.chg k2 (h4 g hg).1⟩
  obtain ⟨a1, a2, a3⟩ := h4 g hg
  exact ⟨fun hF => (k3 g hF).elim a1 (fun h => by omega), Nat.lt_of_lt_of_le a2 k2.size, a3⟩
theorem RunX.drewN {w0 w : World} {gs : List Nat} {p : Nat} {s : SR} (h : RunX w0 gs p s w) (q : Nat) : RunX w0 gs p s (w.drewN q) := by
  obtain ⟨F, h1, h2, h3, h4⟩ := h
  exact ⟨F, h1.drewN q, h2, below_nil h3 ((Chg.refl _ _).drewN q), h4⟩
theorem RunX.alloc {w0 w : World} {gs : List Nat} {p : Nat} {s : SR} (h : RunX w0 gs p s w) (o : Obj) : RunX w0 (w.heap.size :: gs) p s (w.alloc o) := by
  obtain ⟨F, h1, h2, h3, h4⟩ := h
  refine ⟨F, h1.chg (H := Nil) ((Chg.refl _ _).alloc o) (fun _ _ h => h), h2, below_nil h3 ((Chg.refl _ _).alloc o), fun g hg => ?_⟩
  rcases List.mem_cons.1 hg with rfl | hg
  · exact ⟨fun hF => by have := h1.lt _ hF; omega, by simp, h3.size⟩
  · obtain ⟨a1, a2, a3⟩ := h4 g hg
    exact ⟨a1, by simp; omega, a3⟩
theorem RunX.less {w0 w : World} {gs hs : List Nat} {p : Nat} {s : SR} (h : RunX w0 gs p s w) (hh : ∀ g ∈ hs, g ∈ gs) : RunX w0 hs p s w := by
  obtain ⟨F, h1, h2, h3, h4⟩ := h
  exact ⟨F, h1, h2, h3, fun g hg => h4 g (hh g hg)⟩
theorem RunX.put {w0 w : World} {gs : List Nat} {p : Nat} {s : SR} (h : RunX w0 gs p s w) {g i : Nat} (hg : g ∈ gs) (v : Value) : RunX w0 gs p s (w.setCell ⟨g, i, none⟩ v) := by
  obtain ⟨F, h1, h2, h3, h4⟩ := h
  obtain ⟨a1, a2, a3⟩ := h4 g hg
  have hc : Chg (One g) w (w.setCell ⟨g, i, none⟩ v) := (Chg.refl (One g) w).setCell (p := ⟨g, i, none⟩) (.inl (show One g g from rfl)) v
  refine ⟨F, h1.chg hc (fun k hF hk => a1 (by rw [← show k = g from hk]; exact hF)), h2, below_chg h3 hc (fun k hk => by rw [show k = g from hk]; exact a3), fun g' hg' => ?_⟩
  obtain ⟨b1, b2, b3⟩ := h4 g' hg'
  exact ⟨b1, Nat.lt_of_lt_of_le b2 hc.size, b3⟩
theorem RunX.chgNil {w0 w w' : World} {gs : List Nat} {p : Nat} {s : SR} (h : RunX w0 gs p s w) (hc : Chg Nil w w') : RunX w0 gs p s w' := by
  obtain ⟨F, h1, h2, h3, h4⟩ := h
  exact ⟨F, h1.chg hc (fun _ _ h => h), h2, below_nil h3 hc, fun g hg => by obtain ⟨a1, a2, a3⟩ := h4 g hg; exact ⟨a1, Nat.lt_of_lt_of_le a2 hc.size, a3⟩⟩
theorem KeepB.nil {gs : List Nat} {w w' : World} (hc : Chg Nil w w') : KeepB gs w w' := fun g hg t cs hb => hb.chg hc (fun h => h)
/-- What a call makes of a run, apart. -/
def PX (w0 : World) (gs : List Nat) (p : Nat) (s' : SR) (r : Int) (w : World) (e : Ending) (w' : World) : Prop := e = .returned (.int .i64 r) ∧ RunX w0 gs p s' w' ∧ KeepB gs w w'
theorem px_of {w0 w : World} {gs : List Nat} {p : Nat} {s s' : SR} {r : Int} {f : Nat} {args : Array Value} (h : RunX w0 gs p s w) (hc : ∀ F, RunAt w F p s → Calls Tryz.prog f args w (PS F p s' r w)) : Calls Tryz.prog f args w (PX w0 gs p s' r w) := by
  obtain ⟨F, h1, h2, h3, h4⟩ := h
  refine (hc F h1).mono ?_
  rintro e w' ⟨rfl, F', k1, k2, k3⟩
  obtain ⟨a, b⟩ := RunX.step h2 h3 h4 k1 k2 k3
  exact ⟨rfl, a, b⟩
section
variable {w0 w : World} {gs : List Nat} {p : Nat} {s : SR} {M : Int}
theorem rx_add (h : RunX w0 gs p s w) (hok : SOk M s) (hM : M ≤ 1000000) (hl : s.ts.length < 1000) (t cl va : Int) (t1 : 1 ≤ t) (t2 : t ≤ 16) (hv : valB cl va = true) :
    Calls Tryz.prog 34 #[.pointer (some ⟨p, 0, none⟩), .int .i64 t, .int .i64 cl, .int .i64 va] w (PX w0 gs p (s.doAdd t cl va).1 (s.doAdd t cl va).2 w) := px_of h fun F h => sadd_any w F p s h M hok hM hl t cl va t1 t2 hv
theorem rx_block (h : RunX w0 gs p s w) (hok : SOk M s) (t : Int) :
    Calls Tryz.prog 189 #[.pointer (some ⟨p, 0, none⟩), .int .i64 t] w (PX w0 gs p (s.doBlock t).1 (s.doBlock t).2 w) := px_of h fun F h => sblock_any w F p s h M hok t
theorem rx_wake (h : RunX w0 gs p s w) (hok : SOk M s) (hM : M ≤ 1000000) (t : Int) :
    Calls Tryz.prog 225 #[.pointer (some ⟨p, 0, none⟩), .int .i64 t] w (PX w0 gs p (s.doWake t).1 (s.doWake t).2 w) := px_of h fun F h => swake_any w F p s h M hok hM t
theorem rx_leave (h : RunX w0 gs p s w) (hok : SOk M s) (t : Int) :
    Calls Tryz.prog 75 #[.pointer (some ⟨p, 0, none⟩), .int .i64 t] w (PX w0 gs p (s.doLeave t).1 (s.doLeave t).2 w) := px_of h fun F h => sleave_any w F p s h M hok t
end
theorem new_ok (n : Nat) (h1 : 1 ≤ n) (h4 : n ≤ 4) : SOk 0 ⟨n, 0, 0, []⟩ := ⟨h1, h4, by simp, by simp, by simp, by simp, by simp, fun x hx => by cases hx⟩
theorem rx_new {w0 w : World} (hb : Below w0.heap.size w0 w) (n : Nat) (h1 : 1 ≤ n) (h4 : n ≤ 4) :
    Calls Tryz.prog 31 #[.int .i64 n] w fun e w' => ∃ p, e = .returned (.tuple #[.pointer (some ⟨p, 0, none⟩), .int .i64 0]) ∧ RunX w0 [] p ⟨n, 0, 0, []⟩ w' ∧ Chg Nil w w' := by
  refine (snew_ok w n h1 h4).mono ?_
  rintro e w' ⟨F, p, rfl, k1, k2, k3⟩
  exact ⟨p, rfl, ⟨F, k1, fun k hk => (k3 k hk).elim (fun h => h.elim) (fun h => Nat.le_trans hb.size h), below_nil hb k2, fun g hg => by cases hg⟩, k2⟩
theorem SOk.add {m : Int} {s : SR} (h : SOk m s) (hl : s.ts.length < 1000) {t cl va : Int} (t1 : 1 ≤ t) (t2 : t ≤ 16) (hv : valB cl va = true) : SOk (m + 1) (s.doAdd t cl va).1 := by
  have h0 : 0 ≤ m := Int.le_trans h.tk1 h.tk2
  unfold SR.doAdd
  split
  · exact h.enter (newS_ok h0 t1 t2 hv) rfl hl
  · exact h.more (by omega)
theorem RunX.chg0 {w0 w : World} {gs : List Nat} {p : Nat} {s : SR} (h : RunX w0 gs p s w) : Chg Nil w0 w := Chg.of_below h.bel _
end Go.Proofs.YtjllklddjkkddaaGreatDoor
