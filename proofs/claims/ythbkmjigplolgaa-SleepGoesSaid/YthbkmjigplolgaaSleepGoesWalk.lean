/- The walk of the law SleepGoes: it returns true and changes nothing that was there. No condition. -/
import Derived.Test.YthbkmjigplolgaaLocked
import Derived.Deep.DeepCutAuto
namespace Go.Proofs.Ythbkmjigplolgaa
open Go.ChangeShapes Go.WideShapes Go.ChangeAt Go.RowKit
set_option linter.unusedVariables false
def sumN (f : Nat → Nat) : Nat → Nat
  | 0 => 0
  | n + 1 => sumN f n + f n
theorem sumN_same {f f' : Nat → Nat} (n : Nat) (h : ∀ j, j < n → f' j = f j) : sumN f' n = sumN f n := by
  induction n with
  | zero => rfl
  | succ n ih => unfold sumN; rw [ih (fun j hj => h j (by omega)), h n (by omega)]
theorem sumN_less {f f' : Nat → Nat} {k : Nat} (n : Nat) (hk : k < n) (h : ∀ j, j ≠ k → f' j = f j) (h1 : f' k + 1 = f k) : sumN f' n + 1 = sumN f n := by
  induction n with
  | zero => omega
  | succ n ih =>
    unfold sumN
    by_cases e : k = n
    · subst e; rw [sumN_same k (fun j hj => h j (by omega))]; omega
    · have := ih (by omega); rw [h n (fun hh => e hh.symm)]; omega
theorem sumN_le {f : Nat → Nat} {c : Nat} (n : Nat) (h : ∀ j, j < n → f j ≤ c) : sumN f n ≤ n * c := by
  induction n with
  | zero => exact Nat.zero_le _
  | succ n ih => unfold sumN; rw [Nat.succ_mul]; have := ih (fun j hj => h j (by omega)); have := h n (by omega); omega
/-- How much is still to be done. -/
def work (o : Nat → Int) (q : Nat → List Int) : Nat := sumN (fun k => (q k).length + (if o k = 0 then 0 else 1)) 16
theorem work_leave {o : Nat → Int} {q : Nat → List Int} {k : Nat} (hk : k < 16) (h : o k ≠ 0) : work (upN o k 0) q + 1 = work o q := by
  refine sumN_less 16 hk (fun j hj => ?_) ?_
  · rw [upN_ne _ _ hj]
  · rw [upN_same, if_pos rfl, if_neg h]
theorem work_hand {o : Nat → Int} {q : Nat → List Int} {k : Nat} (hk : k < 16) (h : o k ≠ 0) {t : Int} (ht : t ≠ 0) {l : List Int} (hl : l.length + 1 = (q k).length) : work (upN o k t) (upN q k l) + 1 = work o q := by
  refine sumN_less 16 hk (fun j hj => ?_) ?_
  · rw [upN_ne _ _ hj, upN_ne _ _ hj]
  · rw [upN_same, upN_same, if_neg ht, if_neg h]; omega
/-- Where nobody who holds a lock goes on, no lock is held. -/
theorem all_free {n : Nat} {o : Nat → Int} {q : Nat → List Int} (h : LkS n o q) (hw : ∀ k, k < 16 → o k = 0 ∨ (waitK q (o k)).isSome = true) : ∀ k, k < 16 → o k = 0 := by
  obtain ⟨r, hr⟩ := h.acyc
  have key : ∀ (d : Nat) (k : Nat), k < 16 → r (o k) < d → o k = 0 := by
    intro d
    induction d with
    | zero => intro k _ hd; omega
    | succ d ih =>
      intro k hk hd
      rcases hw k hk with h0 | h0
      · exact h0
      · obtain ⟨j, hj⟩ := Option.isSome_iff_exists.1 h0
        obtain ⟨hj1, hj2⟩ := (waitK_some h).1 hj
        have h3 := hr j hj1 _ hj2
        have h4 := ih j hj1 (by omega)
        have := h.free j hj1 h4
        rw [this] at hj2; cases hj2
  exact fun k hk => key (r (o k) + 1) k hk (by omega)
theorem eff_free {n : Nat} {pr : Int → Int} {o : Nat → Int} {q : Nat → List Int} {g : Int → Int} (h : IsEff n pr o q g) (h0 : ∀ k, k < 16 → o k = 0) {t : Int} (h1 : 1 ≤ t) (h2 : t ≤ n) : g t = pr t := by
  rw [h t h1 h2]
  have : ∀ j, j ≤ 16 → accF pr o q g t j = pr t := by
    intro j
    induction j with
    | zero => intro _; rfl
    | succ j ih =>
      intro hj
      rw [accF_out (by rw [h0 j (by omega)]; omega)]
      exact ih (by omega)
  exact this 16 (by omega)
/-- What holds in the rounds: m is what is still to be done, at most. -/
def GoInv (w0 : World) (p n : Nat) (pr : Int → Int) (m : Nat) (w : World) : Prop := ∃ F o q, LkAt w F p n pr o q ∧ (∀ k, F k → w0.heap.size ≤ k) ∧ Below w0.heap.size w0 w ∧ work o q ≤ m
/-- .. and within a round: nothing was freed as yet, of the first k. -/
def GoIn (w0 : World) (p n : Nat) (pr : Int → Int) (m k : Nat) (b : Bool) (w : World) : Prop := ∃ F o q, LkAt w F p n pr o q ∧ (∀ k, F k → w0.heap.size ≤ k) ∧ Below w0.heap.size w0 w ∧ work o q ≤ m ∧ (b = true → work o q + 1 ≤ m) ∧ (b = false → ∀ j, j < k → o j = 0 ∨ (waitK q (o j)).isSome = true)
set_option maxRecDepth 100000 in
set_option maxHeartbeats 1000000 in
theorem sleepGoes_walk (a0 : Option Addr) (len0 cap0 : Nat) (z0 : List Int) (a1 : Option Addr) (len1 cap1 : Nat) (z1 : List (List Int)) (w : World) (w0 : IsRow .i64 w a0 len0 cap0 z0) (w1 : IsRows .i64 w a1 len1 cap1 z1) :
    Calls Try.prog 5 #[.slice a0 len0 cap0, .slice a1 len1 cap1] w fun e w' => e = .returned (.bool true) ∧ Below w.heap.size w w' := by
  have hl1 := w0.1.1
  have hl2 := w0.1.2.1
  unfold maxLen at hl2
  have hzl := w0.1.ilen
  have W0 := hid w0.1
  have W1 := hid w1
  clear w0 w1
  go_enter Try.func5, Try.ntmps5
  go_wp2_with fail
  refine (sleepBegun_ok _).mono ?_
  rintro e w2 ⟨rfl, c2⟩
  have C2 := hid c2
  clear c2
  go_upto_region 3 with fail
  go_cut [0] (fun s0 wx => wx = w2 ∧ ∃ N : Nat, N ≤ 16 ∧ N ≤ len0 ∧ s0 = .slice a0 N cap0)
  case first =>
    go_wp2
    · go_meet
      exact ⟨rfl, 16, by omega, by omega, rfl⟩
    · go_meet
      exact ⟨rfl, len0, by omega, by omega, by simp⟩
  case rest =>
  obtain ⟨rfl, N, hN1, hN2, rfl⟩ := hcut
  have hR := W0.out.take_n (k := N) hN2
  rw [Nat.mul_one, show (ints .i64 z0).take N = ints .i64 (z0.take N) by unfold ints; rw [List.map_take]] at hR
  obtain ⟨z, hz⟩ : ∃ z, z = z0.take N := ⟨_, rfl⟩
  rw [← hz] at hR
  have hzl2 : z.length = N := by rw [hz, List.length_take]; omega
  have HZ := hid hR
  clear hR hz
  go_wp2_with fail
  refine (locked_ok w _ (Upto w.heap.size) a0 N cap0 z a1 len1 cap1 z1 (below_nil (Below.refl _ w) C2.out) HZ.out hN1 W1.out).mono ?_
  rintro e w3 ⟨p, rfl, hI⟩
  obtain ⟨F, o, q, L, gF, bF⟩ := hI
  replace L := hid L
  replace gF := hid gF
  replace bF := hid bF
  have hI : GoInv w p N (prZ z) 272 w3 := ⟨F, o, q, L.out, gF.out, bF.out, by
    refine Nat.le_trans (sumN_le (c := 17) 16 (fun k hk => ?_)) (by omega)
    have := lrow_len w3 F p N (prZ z) o q k L.out hk
    show (q k).length + (if o k = 0 then 0 else 1) ≤ 17
    split <;> omega⟩
  replace hI := hid hI
  clear L gF bF
  go_wp2
  go_loopw [39] (fun s39 wr => ∃ i : Nat, i ≤ 272 ∧ s39 = .int .i64 i ∧ Hid (GoInv w p N (prZ z) (272 - i) wr)) (fun s39 _ => 512 - (intOf s39).toNat)
  case atStart => exact ⟨0, by omega, rfl, hI⟩
  case round =>
    clear hI
    obtain ⟨i, hi, rfl, hJ⟩ := hrel
    have hi512 : (i : Int) < 512 := by omega
    have hJ2 : Hid (GoIn w p N (prZ z) (272 - i) 0 false wr) := by
      obtain ⟨F, o, q, L, gF, bF, hw⟩ := hJ.out
      exact ⟨F, o, q, L, gF, bF, hw, (fun h => by cases h), (fun _ j hj => absurd hj (by omega))⟩
    clear hJ
    obtain ⟨wo, rfl⟩ : ∃ wo : World, wo = wr := ⟨_, rfl⟩
    go_wp2
    go_loopw [7, 41] (fun s7 s41 wr => ∃ (k : Nat) (b : Bool), k ≤ 16 ∧ s41 = .int .i64 k ∧ s7 = .bool b ∧ Hid (GoIn w p N (prZ z) (272 - i) k b wr)) (fun _ s41 _ => 16 - (intOf s41).toNat)
    case atStart => exact ⟨0, false, by omega, rfl, rfl, hJ2⟩
    case round =>
      clear hJ2
      obtain ⟨k, b, hk, rfl, rfl, hJ⟩ := hrel
      obtain ⟨F, o, q, L, gF, bF, hw, hwt, hwf⟩ := id hJ.out
      by_cases hk16 : k < 16
      · have hk2 : (k : Int) < 16 := by omega
        have hob := L.s.own k hk16
        have HO := lowner_ok wr F p N (prZ z) o q k L hk16
        by_cases h0 : o k = 0
        · rw [h0] at HO
          have hnew : GoIn w p N (prZ z) (272 - i) (k + 1) b wr := ⟨F, o, q, L, gF, bF, hw, hwt, fun hb j hj => by
            by_cases e : j = k
            · subst e; exact .inl h0
            · exact hwf hb j (by omega)⟩
          replace hnew := hid hnew
          replace HO := hid HO
          clear L gF bF hw hwt hwf h0 hob hJ
          go_wp2_with (go_at_call 15; refine HO.out.mono ?_; rintro e w' ⟨rfl, rfl⟩)
          go_roundw
          case rel => exact ⟨k + 1, b, by omega, by go_num, rfl, hnew⟩
          case measure => simp [intOf]; omega
        · have hoz : (o k == 0) = false := by rw [beq_eq_false_iff_ne]; exact h0
          have ho1 : 1 ≤ o k := by omega
          cases hwk : waitK q (o k) with
          | some j =>
            have hnew : GoIn w p N (prZ z) (272 - i) (k + 1) b wr := ⟨F, o, q, L, gF, bF, hw, hwt, fun hb j hj => by
              by_cases e : j = k
              · subst e; exact .inr (by rw [hwk]; rfl)
              · exact hwf hb j (by omega)⟩
            have HF := hid (lfor_some wr F p N (prZ z) o q (o k) j L ho1 hob.2 hwk)
            replace hnew := hid hnew
            replace HO := hid HO
            clear L gF bF hw hwt hwf h0 hwk hJ
            go_wp2_with (first | (go_at_call 15; refine HO.out.mono ?_; rintro e w' ⟨rfl, rfl⟩) | (go_at_call 14; refine HF.out.mono ?_; rintro e w' ⟨rfl, rfl⟩))
            go_roundw
            case rel => exact ⟨k + 1, b, by omega, by go_num, rfl, hnew⟩
            case measure => simp [intOf]; omega
          | none =>
            have HF := hid (lfor_none wr F p N (prZ z) o q (o k) L ho1 hob.2 hwk)
            have HFR := hid (lfree_ok wr F p N (prZ z) o q (o k) k L hk16 ho1 hob.2 rfl hwk)
            have HROW := hid (L.s.row k hk16)
            replace HO := hid HO
            replace gF := hid gF
            replace bF := hid bF
            replace hw := hid hw
            have H0 := hid h0
            clear L hwt hwf h0 hwk hJ
            go_wp2_with (first | (go_at_call 15; refine HO.out.mono ?_; rintro e w' ⟨rfl, rfl⟩) | (go_at_call 14; refine HF.out.mono ?_; rintro e w' ⟨rfl, rfl⟩) | (go_at_call 19; refine HFR.out.mono ?_; rintro e wb (⟨hr, rfl, y1, y2⟩ | ⟨bb, hb, hr, rfl, F', y1, y2, y3⟩); replace hr := hid hr))
            · go_roundw
              case rel =>
                have hwk := work_leave (q := q) hk16 H0.out
                have := hw.out
                exact ⟨k + 1, true, by omega, by go_num, rfl, F, _, _, y1, gF.out, below_chg bF.out y2 gF.out, by omega, (fun _ => by omega), (fun h => by cases h)⟩
              case measure => simp [intOf]; omega
            · go_roundw
              case rel =>
                have hxb := HROW.out _ (List.getElem_mem hb)
                have hcl := cutI_len (q k) bb hb
                have hwk := work_hand (q := q) hk16 H0.out (t := (q k)[bb]) (l := cutI (q k) bb) (by omega) (by omega)
                have := hw.out
                exact ⟨k + 1, true, by omega, by go_num, rfl, F', _, _, y1, grew_ge y3 gF.out bF.out.size, below_chg bF.out y2 gF.out, by omega, (fun _ => by omega), (fun h => by cases h)⟩
              case measure => simp [intOf]; omega
      · have hk3 : (16 : Int) ≤ (k : Int) := by omega
        have hk4 : 16 ≤ k := by omega
        cases b with
        | true =>
          have hpos := hwt rfl
          have hnew : GoInv w p N (prZ z) (272 - (i + 1)) wr := ⟨F, o, q, L, gF, bF, by omega⟩
          replace hnew := hid hnew
          have hi2 : i + 1 ≤ 272 := by omega
          clear L gF bF hw hwt hwf hJ hpos
          go_wp2
          go_roundw
          case rel => exact ⟨i + 1, by omega, by go_num, hnew⟩
          case measure => simp [intOf]; omega
        | false =>
          have hfree := hid (all_free L.s (fun j hj => hwf rfl j (by omega)))
          have hrows := hid (fun k (hk : k < 16) => L.s.free k hk (hfree.out k hk))
          have L1 := hid L
          have b1 := hid bF
          clear L gF bF hw hwt hwf hJ
          obtain ⟨ws, hws⟩ : ∃ ws : World, ws = wr := ⟨_, rfl⟩
          have L2 : Hid (LkAt ws F p N (prZ z) o q) := hid (by rw [hws]; exact L1.out)
          have b2 : Hid (Below w.heap.size w ws) := hid (by rw [hws]; exact b1.out)
          go_wp2
          rw [← hws]
          clear hws L1 b1
          obtain ⟨wv, rfl⟩ : ∃ wv : World, wv = wr := ⟨_, rfl⟩
          go_loopw [85] (fun s85 wr => ∃ k : Nat, k ≤ 16 ∧ s85 = .int .i64 k ∧ Hid (Chg Nil ws wr)) (fun s85 _ => 16 - (intOf s85).toNat)
          case atStart => exact ⟨0, by omega, rfl, Chg.refl _ _⟩
          case round =>
            obtain ⟨k, hk, rfl, hC⟩ := hrel
            by_cases hk16 : k < 16
            · have hk2 : (k : Int) < 16 := by omega
              have HO := lowner_ok wr F p N (prZ z) o q k (L2.out.nil hC.out) hk16
              have HRW := lrow_ok wr F p N (prZ z) o q k (L2.out.nil hC.out) hk16
              rw [hfree.out k hk16] at HO
              rw [hrows.out k hk16] at HRW
              simp only [List.length_nil] at HRW
              replace HO := hid HO
              replace HRW := hid HRW
              go_wp2_with (first | (go_at_call 15; refine HO.out.mono ?_; rintro e w' ⟨rfl, rfl⟩) | (go_at_call 17; refine HRW.out.mono ?_; rintro e wb ⟨a, c, G, rfl, y1, y2, y3⟩; replace y1 := hid y1; replace y2 := hid y2; replace y3 := hid y3))
              go_roundw
              case rel => exact ⟨k + 1, by omega, by go_num, hC.out.trans y2.out (fun _ _ h => h)⟩
              case measure => simp [intOf]; omega
            · have L3 := hid (L2.out.nil hC.out)
              have b3 := hid (below_nil b2.out hC.out)
              obtain ⟨gf, hg⟩ := L3.out.s.eff (prZ z)
              have HE := hid (fun t (a : 1 ≤ t) (b : t ≤ (N : Int)) => leff_ok wr F p N (prZ z) o q L3.out gf hg t a b)
              have HV := hid (fun t (a : 1 ≤ t) (b : t ≤ (N : Int)) => eff_free hg hfree.out a b)
              clear hg
              obtain ⟨wu, hwu⟩ : ∃ wu : World, wu = wr := ⟨_, rfl⟩
              have HZ2 := hid (HZ.out.chg (Chg.of_below b3.out Nil) (fun _ _ _ h => h))
              go_wp2
              go_loop [118] (fun s118 => ∃ j : Nat, j ≤ N ∧ s118 = .int .i64 j) (fun s118 => N - (intOf s118).toNat)
              case atStart => exact ⟨0, by omega, rfl⟩
              case round =>
                obtain ⟨j, hj, rfl⟩ := hrel
                by_cases hjl : j < N
                · have hjz : j < z.length := by omega
                  obtain ⟨g, off, rfl, _, _, hc⟩ := HZ2.out.at hjz
                  have hcj := hc j hjz
                  have HE2 := HE.out ((j : Int) + 1) (by omega) (by omega)
                  rw [HV.out ((j : Int) + 1) (by omega) (by omega)] at HE2
                  have hpr : prZ z ((j : Int) + 1) = rest z[j] 8 := by unfold prZ; rw [show ((j : Int) + 1 - 1).toNat = j by omega, List.getD_eq_getElem?_getD, List.getElem?_eq_getElem hjz]; rfl
                  rw [hpr] at HE2
                  have HRS := rest_any z[j] 8 wr (by omega) (by omega)
                  generalize rest z[j] 8 = v at HE2 HRS
                  replace HE2 := hid HE2
                  replace HRS := hid HRS
                  clear hc hpr
                  go_wp2_with (first | (go_at_call 18; refine HE2.out.mono ?_; rintro e w' ⟨rfl, rfl⟩) | (go_at_call 16; refine HRS.out.mono ?_; rintro e w' ⟨rfl, rfl⟩))
                  go_round
                  case rel => exact ⟨j + 1, by omega, by go_num⟩
                  case measure => simp [intOf]; omega
                · go_wp2
                  go_ret
                  exact ⟨rfl, b3.out⟩
end Go.Proofs.Ythbkmjigplolgaa
