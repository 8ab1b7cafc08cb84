/- Contract of Eff of package sleep: how urgent a task is. Condition: nobody waits for himself. -/
import Derived.Test.YthbkmjigplolgaaLock
namespace Go.Proofs.Ythbkmjigplolgaa
open Go.ChangeShapes Go.WideShapes Go.ChangeAt Go.RowKit
set_option linter.unusedVariables false
/-- What a row of who waits makes of how urgent one is. -/
def foldM (g : Int → Int) (a : Int) (l : List Int) : Int := l.foldl (fun a x => max a (g x)) a
theorem foldM_snoc (g : Int → Int) (a : Int) (l : List Int) (j : Nat) (h : j < l.length) : foldM g a (l.take (j + 1)) = max (foldM g a (l.take j)) (g l[j]) := by
  unfold foldM
  rw [List.take_succ_eq_append_getElem h, List.foldl_append]
  rfl
theorem accF_in {pr : Int → Int} {o : Nat → Int} {q : Nat → List Int} {g : Int → Int} {t : Int} {k : Nat} (h : o k = t) : accF pr o q g t (k + 1) = foldM g (accF pr o q g t k) (q k) := by
  conv => lhs; unfold accF
  rw [if_pos h]; rfl
theorem accF_out {pr : Int → Int} {o : Nat → Int} {q : Nat → List Int} {g : Int → Int} {t : Int} {k : Nat} (h : o k ≠ t) : accF pr o q g t (k + 1) = accF pr o q g t k := by
  conv => lhs; unfold accF
  rw [if_neg h]
set_option maxRecDepth 100000 in
set_option maxHeartbeats 800000 in
theorem leff_aux (w : World) (F : Nat → Prop) (p n : Nat) (pr : Int → Int) (o : Nat → Int) (q : Nat → List Int) (h : LkAt w F p n pr o q) (g : Int → Int) (hg : ∀ t : Int, 1 ≤ t → t ≤ n → g t = accF pr o q g t 16) (r : Int → Nat) (hr : ∀ k, k < 16 → ∀ x ∈ q k, r (o k) < r x) (H : Nat) (hH : ∀ x : Int, 0 ≤ x → x ≤ n → r x ≤ H) :
    ∀ (d : Nat) (t : Int), H - r t < d → 1 ≤ t → t ≤ n → Calls Try.prog 18 #[.pointer (some ⟨p, 0, none⟩), .int .i64 t] w fun e w' => e = .returned (.tuple #[.int .i64 (g t), .int .i64 0]) ∧ w = w' := by
  intro d
  induction d with
  | zero =>
    intro t hd h1 h2
    exact absurd hd (by omega)
  | succ d ih =>
    intro t hd h1 h2
    have IH := hid ih
    have HDD := hid hd
    have HG := hid (hg t h1 h2)
    have HR := hid hr
    have HHH := hid hH
    have HL := hid h
    have hln := hid (fun k hk => lrow_len w F p n pr o q k h hk)
    obtain ⟨A, C, G, pm, fm, h⟩ := h
    have d0 := h.cp
    have lk := h.mp.look_ok (t := 36) Try.underlying3 Try.underlying36 (zeroIntL _) t (h.wfT h1 h2)
    have e : prioF n pr t = some (.int .i64 (pr t)) := if_pos ⟨h1, h2⟩
    rw [e] at lk
    simp only [Option.getD_some, Option.isSome_some] at lk
    have HA := hid h
    clear h e hg hr hH ih hd
    go_enter Try.func18, Try.ntmps18
    go_wp2
    go_loop [6, 24] (fun s6 s24 => ∃ k : Nat, k ≤ 16 ∧ s24 = .int .i64 k ∧ s6 = .int .i64 (accF pr o q g t k)) (fun _ s24 => 16 - (intOf s24).toNat)
    case atStart => exact ⟨0, by omega, rfl, rfl⟩
    case round =>
      obtain ⟨k, hk, rfl, rfl⟩ := hrel
      by_cases hlt : k < 16
      · have hk2 : (k : Int) < 16 := by omega
        have c1 := HA.out.co k hlt
        have c2 := HA.out.cq k hlt
        have hl := hln.out k hlt
        by_cases hot : o k = t
        · have hb : (o k != t) = false := by rw [bne_eq_false_iff_eq]; exact hot
          have HE := hid (accF_in (pr := pr) (g := g) (q := q) hot)
          have HOT := hid hot
          clear hot
          go_wp2
          go_loop [6, 42] (fun s6 s42 => ∃ j : Nat, j ≤ (q k).length ∧ s42 = .int .i64 j ∧ s6 = .int .i64 (foldM g (accF pr o q g t k) ((q k).take j))) (fun _ s42 => (q k).length - (intOf s42).toNat)
          case atStart => exact ⟨0, by omega, rfl, rfl⟩
          case round =>
            obtain ⟨j, hj, rfl, rfl⟩ := hrel
            by_cases hjl : j < (q k).length
            · obtain ⟨gg, off, ha, _, _, hc⟩ := (HA.out.sl k hlt).rd.at hjl
              have hcj := hc j hjl
              have hS := hid (foldM_snoc g (accF pr o q g t k) (q k) j hjl)
              obtain ⟨x, hx⟩ : ∃ x, x = (q k)[j] := ⟨_, rfl⟩
              have hxm : x ∈ q k := by rw [hx]; exact List.getElem_mem hjl
              have hxb := HA.out.s.row k hlt x hxm
              have hrx := HR.out k hlt x hxm
              rw [HOT.out] at hrx
              have hxH := HHH.out x (by omega) hxb.2
              have HC := hid (IH.out x (by have := HDD.out; omega) hxb.1 hxb.2)
              rw [← hx] at hcj hS
              rw [ha]
              clear hc hx hxm
              go_wp2_with (go_at_call 18; refine HC.out.mono ?_; rintro e w' ⟨rfl, rfl⟩)
              refine ⟨⟨j + 1, by omega, by go_num, ?_⟩, by simp [intOf]; omega⟩
              rw [hS.out]
              congr 1
              split <;> omega
            · have hjl2 : j = (q k).length := by omega
              subst hjl2
              rw [List.take_length]
              go_wp2
              go_round
              case rel => exact ⟨k + 1, by omega, by go_num, by rw [HE.out]⟩
              case measure => simp [intOf]; omega
        · have hb : (o k != t) = true := by rw [bne_iff_ne]; exact hot
          have HE := hid (accF_out (pr := pr) (g := g) (q := q) hot)
          clear hot
          go_wp2
          go_round
          case rel => exact ⟨k + 1, by omega, by go_num, by rw [HE.out]⟩
          case measure => simp [intOf]; omega
      · obtain rfl : k = 16 := by omega
        have e9 : Ending.returned (.tuple #[.int .i64 (accF pr o q g t 16), .int .i64 0]) = Ending.returned (.tuple #[.int .i64 (g t), .int .i64 0]) := by rw [HG.out]
        replace e9 := hid e9
        go_wp2
        go_ret2
        exact ⟨e9.out, rfl⟩
/-- What is so of how urgent each is. -/
def IsEff (n : Nat) (pr : Int → Int) (o : Nat → Int) (q : Nat → List Int) (g : Int → Int) : Prop := ∀ t : Int, 1 ≤ t → t ≤ n → g t = accF pr o q g t 16
theorem LkS.eff {n : Nat} {o : Nat → Int} {q : Nat → List Int} (h : LkS n o q) (pr : Int → Int) : ∃ g, IsEff n pr o q g := by
  obtain ⟨r, hr⟩ := h.acyc
  refine ⟨Go.Proofs.Ythbkmjigplolgaa.eff pr o q (topR r n + 1), fun t h1 h2 => ?_⟩
  have := eff_stable (pr := pr) h hr (topR_le r n) (topR r n + 1) (topR r n + 2) t (by omega) (by omega)
  exact this
theorem leff_ok (w : World) (F : Nat → Prop) (p n : Nat) (pr : Int → Int) (o : Nat → Int) (q : Nat → List Int) (h : LkAt w F p n pr o q) (g : Int → Int) (hg : IsEff n pr o q g) (t : Int) (h1 : 1 ≤ t) (h2 : t ≤ n) :
    Calls Try.prog 18 #[.pointer (some ⟨p, 0, none⟩), .int .i64 t] w fun e w' => e = .returned (.tuple #[.int .i64 (g t), .int .i64 0]) ∧ w = w' := by
  obtain ⟨r, hr⟩ := h.s.acyc
  exact leff_aux w F p n pr o q h g hg r hr (topR r n) (topR_le r n) (topR r n - r t + 1) t (by omega) h1 h2
/-- No less than his own, than any that waits for him; no more than all. -/
theorem IsEff.own {n : Nat} {pr : Int → Int} {o : Nat → Int} {q : Nat → List Int} {g : Int → Int} (h : IsEff n pr o q g) {t : Int} (h1 : 1 ≤ t) (h2 : t ≤ n) : pr t ≤ g t := by
  rw [h t h1 h2]; exact (accF_ge 16).1
theorem IsEff.row {n : Nat} {pr : Int → Int} {o : Nat → Int} {q : Nat → List Int} {g : Int → Int} (h : IsEff n pr o q g) {t : Int} (h1 : 1 ≤ t) (h2 : t ≤ n) {k : Nat} (hk : k < 16) (hkt : o k = t) {x : Int} (hx : x ∈ q k) : g x ≤ g t := by
  rw [h t h1 h2]; exact (accF_ge 16).2 k hk hkt x hx
theorem IsEff.le {n : Nat} {pr : Int → Int} {o : Nat → Int} {q : Nat → List Int} {g : Int → Int} (h : IsEff n pr o q g) (hs : LkS n o q) {b : Int} (hb : ∀ t : Int, 1 ≤ t → t ≤ n → pr t ≤ b) : ∀ t : Int, 1 ≤ t → t ≤ n → g t ≤ b := by
  obtain ⟨r, hr⟩ := hs.acyc
  have hT := topR_le r n
  have key : ∀ (d : Nat) (t : Int), topR r n - r t < d → 1 ≤ t → t ≤ n → g t ≤ b := by
    intro d
    induction d with
    | zero => intro t hd; exact absurd hd (by omega)
    | succ d ih =>
      intro t hd h1 h2
      rw [h t h1 h2]
      refine accF_le 16 (hb t h1 h2) (fun k hk hkt x hx => ?_)
      have h3 := hr k hk x hx
      rw [hkt] at h3
      have h4 := hs.row k hk x hx
      have h5 := hT x (by omega) h4.2
      exact ih x (by omega) h4.1 h4.2
  exact fun t h1 h2 => key (topR r n - r t + 1) t (by omega) h1 h2
end Go.Proofs.Ythbkmjigplolgaa
