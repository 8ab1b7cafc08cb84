/- The walk of the law SpanWalks: it returns true and changes nothing that was there. No condition. -/
import Derived.Test.YtnibhkeleogjcaaTree18
import Derived.Deep.DeepCutAuto
namespace Go.Proofs.Ytnibhkeleogjcaa
open Go.ChangeShapes Go.WideShapes Go.ChangeAt Go.RowKit
set_option linter.unusedVariables false
/-- What is told of a thing, or of none. -/
def tK : Option TE → Int
  | none => 0
  | some e => e.key
def tI : Option TE → Int
  | none => 0
  | some e => e.id
def tW : Option TE → Int
  | none => 0
  | some e => e.w
def tE : Option TE → Int
  | none => 4
  | some e => 0
theorem tup_eq (o : Option TE) : tup o = .tuple #[.int .i64 (tK o), .int .i64 (tI o), .int .i64 (tW o), .int .i64 (tE o)] := by cases o <;> rfl
theorem sumW_take {L : List TE} {i : Nat} (h : i < L.length) : sumW (L.take (i + 1)) = sumW (L.take i) + L[i].w := by
  rw [List.take_succ_eq_append_getElem h, sumW_append, sumW_cons]
  simp [sumW]
/-- The tree of things, and nothing else has changed. -/
def TrB (w0 : World) (l : List TE) (p : Nat) (w : World) : Prop := ∃ F, SpAt w F p l ∧ Below w0.heap.size w0 w ∧ ∀ x, F x → w0.heap.size ≤ x
theorem TrIn.trB {w0 w w' : World} {l : List Int} {p k : Nat} (h : TrIn w l p k w') (hb : Below w0.heap.size w0 w) : TrB w0 (trK l k) p w' := by
  obtain ⟨F, h1, h2, h3⟩ := h
  exact ⟨F, h1, below_nil hb h2, fun x hx => Nat.le_trans hb.size (h3 x hx)⟩
theorem TrB.drewN {w0 w : World} {l : List TE} {p : Nat} (h : TrB w0 l p w) (q : Nat) : TrB w0 l p (w.drewN q) := by
  obtain ⟨F, h1, h2, h3⟩ := h
  exact ⟨F, h1.chg (H := Nil) ((Chg.refl _ _).drewN q) (fun _ _ h => h), below_nil h2 ((Chg.refl _ _).drewN q), h3⟩
theorem rd_rest {w0 w : World} {a : Option Addr} {n c : Nat} {l : List Int} (h : Rd w0 (Upto w0.heap.size) 1 a n c (ints .i64 l)) (hb : Below w0.heap.size w0 w) : Rd w (Upto w0.heap.size) 1 a n c (ints .i64 l) :=
  h.chg (F := Nil) (Chg.of_below hb _) (fun _ _ _ h => h)
theorem rd_take {w : World} {R : Nat → Prop} {a : Option Addr} {n c k : Nat} {l : List Int} (h : Rd w R 1 a n c (ints .i64 l)) (hk : k ≤ n) : Rd w R 1 a k c (ints .i64 (l.take k)) := by
  have h1 := h.take_n hk
  rwa [Nat.mul_one, show (ints .i64 l).take k = ints .i64 (l.take k) from (List.map_take ..).symm] at h1
set_option maxRecDepth 100000 in
set_option maxHeartbeats 1000000 in
theorem spanWalks_walk (a0 : Option Addr) (len0 cap0 : Nat) (z0 : List Int) (w : World) (w0 : IsRow .i64 w a0 len0 cap0 z0) :
    Calls Try.prog 4 #[.slice a0 len0 cap0] w fun e w' => e = .returned (.bool true) ∧ Below w.heap.size w w' := by
  have hl1 := w0.1.1
  have hl2 := w0.1.2.1
  unfold maxLen at hl2
  have W0 := hid w0.1
  clear w0
  have HR := hid (Rd.of_blk (n := 2) (s := 1) (Blk.new w 3 (ints .i64 [5, 3])) rfl (by decide))
  have B0 := hid ((Below.refl w.heap.size w).alloc (Nat.le_refl _) (.cells (ints .i64 [5, 3]).toArray 3))
  go_enter Try.func4, Try.ntmps4
  go_wp2_with fail
  refine (tree_ok _ _ 2 2 [5, 3] _ HR.out (by omega)).mono ?_
  rintro e w1 ⟨p, rfl, h1⟩
  have T1 := hid (TrIn.trB h1 B0.out)
  clear h1 HR B0
  have LEN : Hid (Calls Try.prog 13 #[.pointer (some ⟨p, 0, none⟩)] w1 fun v w' => v = .returned (.int .i64 2) ∧ w' = w1) := by
    obtain ⟨F, h1, _, _⟩ := T1.out
    exact len_ok w1 F p _ h1
  go_wp2_with fail
  refine LEN.out.mono ?_
  rintro e w2 ⟨rfl, hw⟩
  subst hw
  clear LEN
  go_upto_region 4 with fail
  go_cut [0] (fun s0 wx => wx = w2 ∧ ∃ N : Nat, N ≤ 200 ∧ N ≤ len0 ∧ s0 = .slice a0 N cap0)
  case first =>
    go_wp2
    · go_meet
      exact ⟨rfl, 200, by omega, by omega, rfl⟩
    · go_meet
      exact ⟨rfl, len0, by omega, by omega, by simp⟩
  case rest =>
    obtain ⟨rfl, N, hN1, hN2, rfl⟩ := hcut
    obtain ⟨Z, hZ⟩ : ∃ Z, Z = z0.take N := ⟨_, rfl⟩
    have RZ : Hid (Rd w (Upto w.heap.size) 1 a0 N cap0 (ints .i64 Z)) := hid (by rw [hZ]; exact rd_take W0.out hN2)
    have hzl : Z.length = N := RZ.out.ilen
    clear hZ W0
    have B1 : Hid (Below w.heap.size w wc) := hid (by obtain ⟨F, _, h2, _⟩ := T1.out; exact h2)
    have RZ1 := hid (rd_rest RZ.out B1.out)
    clear T1
    go_wp2_with fail
    refine (tree_ok _ _ N _ Z _ RZ1.out hN1).mono ?_
    rintro e w2 ⟨p, rfl, h1⟩
    have T2 := hid (TrIn.trB h1 B1.out)
    rw [hzl] at T2
    have HZ := hid hzl
    obtain ⟨L, hL⟩ : ∃ L, L = trK Z N := ⟨_, rfl⟩
    have LL : Hid (L.length = N) := hid (by rw [hL, trK_len])
    have LM : Hid (∀ x ∈ L, ∃ j, j < N ∧ x = itE Z j) := hid (fun x hx => by rw [hL] at hx; exact (trK_mem Z N x).1 hx)
    have LS : Hid (Sm L) := hid (by rw [hL]; exact trK_sm Z N hN1)
    rw [← hL] at T2
    clear h1 hL B1 RZ1 hzl
    have LST : Hid (Calls Try.prog 16 #[.pointer (some ⟨p, 0, none⟩)] w2 fun v w' => v = .returned (.tuple #[.int .i64 (tK L[0]?), .int .i64 (tI L[0]?), .int .i64 (tW L[0]?), .int .i64 (tE L[0]?)]) ∧ ∃ q, w' = w2.drewN q) := hid (by
      obtain ⟨F, h1, _, _⟩ := T2.out
      refine (tleast_ok w2 F p _ h1).mono ?_
      rintro v w' ⟨rfl, hq⟩
      rw [tup_eq, List.head?_eq_getElem?]
      exact ⟨rfl, hq⟩)
    go_wp2_with fail
    refine LST.out.mono ?_
    rintro e w3 ⟨rfl, q, rfl⟩
    have T3 := hid (T2.out.drewN q)
    clear T2 LST
    go_wp2
    go_loopw [7, 8, 9, 10, 11, 48] (fun s7 s8 s9 s10 s11 s48 wr => ∃ k : Nat, k ≤ N ∧ s48 = .int .i64 k ∧ s7 = .int .i64 (sumW (L.take k)) ∧ s8 = .int .i64 (tK L[k]?) ∧ s9 = .int .i64 (tI L[k]?) ∧ s10 = .int .i64 (tW L[k]?) ∧ s11 = .int .i64 (tE L[k]?) ∧ Hid (TrB w L p wr)) (fun _ _ _ _ _ s48 _ => N - (intOf s48).toNat)
    case atStart => exact ⟨0, by omega, rfl, rfl, rfl, rfl, rfl, rfl, T3⟩
    case round =>
      obtain ⟨k, hk, rfl, rfl, rfl, rfl, rfl, rfl, hJ⟩ := hrel
      clear T3
      by_cases hlt : k < N
      · have hkL : k < L.length := by rw [LL.out]; exact hlt
        obtain ⟨j, hj, hjx⟩ := LM.out L[k] (List.getElem_mem hkL)
        have hjz : j < Z.length := by rw [HZ.out]; exact hj
        obtain ⟨F, y1, y2, y3⟩ := id hJ.out
        obtain ⟨g, off, hg, _, _, hc⟩ := (rd_rest RZ.out y2).at hjz
        have hc1 := hc j hjz
        clear hc
        obtain ⟨v, hv⟩ : ∃ v, v = Z[j] := ⟨_, rfl⟩
        rw [← hv] at hc1
        have hx : itE Z j = ⟨rest v 20, j, rest v 100⟩ := by unfold itE; rw [List.getD_eq_getElem?_getD, List.getElem?_eq_getElem hjz, hv]; rfl
        rw [hx] at hjx
        have hsw := sumW_take hkL
        have hah := ahead_at y1.srt hkL
        have hne := next_at y1.srt hkL
        rw [hjx] at hsw hah hne
        have hbd := sumW_bd (l := L.take k) (fun x hx => LS.out.2 x (List.mem_of_mem_take hx))
        have hln : (L.take k).length ≤ 200 := by rw [List.length_take]; omega
        obtain ⟨S, hS⟩ : ∃ S, S = sumW (L.take k) := ⟨_, rfl⟩
        have hS0 : 0 ≤ S := by rw [hS]; exact hbd.1
        have hS1 : S ≤ 200000000 := by rw [hS]; have := hbd.2; omega
        have AH := hid (ahead_ok wr F p L y1 LS.out (rest v 20) j)
        have NX : Hid (∀ q, Calls Try.prog 18 #[.pointer (some ⟨p, 0, none⟩), .int .i64 (rest v 20), .int .i64 j] (wr.drewN q) fun v w' => v = .returned (.tuple #[.int .i64 (tK L[k + 1]?), .int .i64 (tI L[k + 1]?), .int .i64 (tW L[k + 1]?), .int .i64 (tE L[k + 1]?)]) ∧ ∃ q, w' = wr.drewN q) := hid (fun q => by
          have y1' := y1.chg (H := Nil) ((Chg.refl _ wr).drewN q) (fun _ _ h => h)
          refine (tnext_ok _ F p _ y1' _ _).mono ?_
          rintro v w' ⟨rfl, q2, rfl⟩
          rw [tup_eq, hne]
          exact ⟨rfl, _, World.drewN_drewN _ _ _⟩)
        rw [hah] at AH
        rw [← hS] at AH ⊢
        have e1 : L[k]? = some ⟨rest v 20, j, rest v 100⟩ := by rw [List.getElem?_eq_getElem hkL, hjx]
        rw [e1]
        have t1 : tK (some ⟨rest v 20, j, rest v 100⟩) = rest v 20 := rfl
        have t2 : tI (some ⟨rest v 20, j, rest v 100⟩) = j := rfl
        have t3 : tW (some ⟨rest v 20, j, rest v 100⟩) = rest v 100 := rfl
        have t4 : tE (some ⟨rest v 20, j, rest v 100⟩) = 0 := rfl
        rw [t1, t2, t3, t4]
        have HS : Hid (sumW (L.take (k + 1)) = S + rest v 100) := hid (by rw [hsw, hS])
        have r1 := rest_nonneg v 20 (by omega)
        have r2 := rest_lt v 20 (by omega)
        have r3 := rest_nonneg v 100 (by omega)
        have r4 := rest_lt v 100 (by omega)
        have ORD : Hid (∀ h : k + 1 < L.length, rest v 20 < L[k + 1].key ∨ (rest v 20 = L[k + 1].key ∧ (j : Int) < L[k + 1].id)) := hid (fun h => by
          have := srt_get y1.srt h
          rw [hjx] at this
          exact this)
        obtain ⟨a, ha⟩ : ∃ a, a = rest v 20 := ⟨_, rfl⟩
        obtain ⟨b, hb⟩ : ∃ b, b = rest v 100 := ⟨_, rfl⟩
        have R1 := hid (rest_any v 20)
        have R2 := hid (rest_any v 100)
        rw [← ha] at AH NX r1 r2 ORD R1 ⊢
        rw [← hb] at HS r3 r4 R2 ⊢
        have HA := hid hg
        clear ha hb y1 y2 y3 hv hx hjx hsw hah hne hbd hln hS e1 t1 t2 t3 t4
        subst hg
        go_wp2_with fail
        refine (R1.out _ (by omega) (by omega)).mono ?_
        rintro e w4 ⟨rfl, rfl⟩
        go_wp2_with fail
        refine (R2.out _ (by omega) (by omega)).mono ?_
        rintro e w4 ⟨rfl, rfl⟩
        go_wp2_with fail
        refine AH.out.mono ?_
        rintro e w4 ⟨rfl, q1, rfl⟩
        go_wp2_with fail
        refine (NX.out _).mono ?_
        rintro e w4 ⟨rfl, q2, rfl⟩
        have T4 := hid (hJ.out.drewN q2)
        clear AH NX R1 R2 hJ
        by_cases hlast : k + 1 < N
        · have hl1 : k + 1 < L.length := by rw [LL.out]; exact hlast
          have ORD2 := ORD.out hl1
          have e1 := List.getElem?_eq_getElem hl1
          obtain ⟨y, hy⟩ : ∃ y, y = L[k + 1] := ⟨_, rfl⟩
          rw [← hy] at ORD2 e1
          have E1 := hid e1
          rw [e1]
          have t1 : tK (some y) = y.key := rfl
          have t2 : tI (some y) = y.id := rfl
          have t3 : tW (some y) = y.w := rfl
          have t4 : tE (some y) = 0 := rfl
          rw [t1, t2, t3, t4]
          clear t1 t2 t3 t4 e1 hy ORD
          obtain ⟨yk, yi, yw⟩ := y
          replace ORD2 : a < yk ∨ (a = yk ∧ (j : Int) < yi) := ORD2
          have n1 : (k : Int) < (N : Int) - 1 := by omega
          rcases ORD2 with h | ⟨h, h'⟩
          · have n2 : ¬ yk < a := by omega
            have n3 : (yk == a) = false := by rw [beq_eq_false_iff_ne]; omega
            clear h
            go_wp2
            go_roundw
            case rel => exact ⟨k + 1, by omega, by go_num, by rw [HS.out], by rw [E1.out]; rfl, by rw [E1.out]; rfl, by rw [E1.out]; rfl, by rw [E1.out]; rfl, T4⟩
            case measure => simp [intOf]; omega
          · obtain rfl := h
            have n2 : ¬ yi ≤ (j : Int) := by omega
            go_wp2
            go_roundw
            case rel => exact ⟨k + 1, by omega, by go_num, by rw [HS.out], by rw [E1.out]; rfl, by rw [E1.out]; rfl, by rw [E1.out]; rfl, by rw [E1.out]; rfl, T4⟩
            case measure => simp [intOf]; omega
        · have n1 : ¬ (k : Int) < (N : Int) - 1 := by omega
          have n2 : k + 1 = N := by omega
          replace n2 := hid n2
          clear ORD
          go_wp2
          go_roundw
          case rel => exact ⟨k + 1, by omega, by go_num, by rw [HS.out], rfl, rfl, rfl, rfl, T4⟩
          case measure => simp [intOf]; omega
      · have e1 : L[k]? = none := List.getElem?_eq_none (by rw [LL.out]; omega)
        have e2 : L.take k = L := List.take_of_length_le (by rw [LL.out]; omega)
        rw [e1, e2]
        have t1 : tK none = 0 := rfl
        have t2 : tI none = 0 := rfl
        have t3 : tW none = 0 := rfl
        have t4 : tE none = 4 := rfl
        rw [t1, t2, t3, t4]
        obtain ⟨F, y1, y2, y3⟩ := id hJ.out
        have SUM := hid (tsum_ok wr F p L y1)
        have LEN := hid (len_ok wr F p L y1)
        rw [LL.out] at LEN
        have HB := hid y2
        obtain ⟨S, hS⟩ : ∃ S, S = sumW L := ⟨_, rfl⟩
        rw [← hS] at SUM ⊢
        clear e1 e2 t1 t2 t3 t4 y1 y2 y3 hJ hS
        go_wp2_with fail
        refine SUM.out.mono ?_
        rintro e w4 ⟨rfl, hw⟩
        subst hw
        go_wp2_with fail
        refine LEN.out.mono ?_
        rintro e w5 ⟨rfl, hw⟩
        subst hw
        go_wp2
        go_ret
        exact ⟨by simp, HB.out⟩
end Go.Proofs.Ytnibhkeleogjcaa
