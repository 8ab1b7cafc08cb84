/- Contracts of what the laws on uses begin with: admitBegun, and the sets of uses that fit one processor. No condition. -/
import Derived.Test.YthcgeigijnbpkaaAdmitF
import Derived.Deep.DeepCutAuto
import Derived.Deep.RegionLaw
import Derived.Deep.RegionHeld3
namespace Go.Proofs.Ythcgeigijnbpkaa
open Go.ChangeShapes Go.WideShapes Go.ChangeAt Go.RowKit
set_option linter.unusedVariables false
theorem rest_natS (k n : Int) (w : World) (h1 : 1 ≤ n) (h2 : n ≤ 9223372036854775807) :
    Calls Try.prog 12 #[.int .i64 k, .int .i64 n] w fun e w' => ∃ q : Nat, (q : Int) < n ∧ e = .returned (.int .i64 q) ∧ w = w' := by
  refine (rest_any k n w h1 h2).mono ?_
  rintro e w' ⟨rfl, rfl⟩
  have hb1 := rest_nonneg k n h1
  have hb2 := rest_lt k n h1
  obtain ⟨q, hq⟩ := Int.eq_ofNat_of_zero_le hb1
  exact ⟨q, by omega, by rw [hq], rfl⟩
theorem fits_n (R : Nat → Prop) (a : Option Addr) (n c : Nat) (l : List Use) (m : Int) (w : World) (hn : n = l.length) (h : Rd w R 2 a n c (l.flatMap useCells)) (hl : l.length ≤ 16) (hok : ∀ u ∈ l, u.ok) (hm : 1 ≤ m) (hm4 : m ≤ 4) (b : Bool) (hb : decide (fit l m.toNat) = b) :
    Calls Try.prog 46 #[.slice a n c, .int .i64 m] w (PF b 0 w) := by
  subst hn
  subst hb
  obtain ⟨k, rfl⟩ := Int.eq_ofNat_of_zero_le (show 0 ≤ m by omega)
  exact fits_ok R a c l k w h hl hok (by omega) (by omega)
/-- Ahead of an append onto a clone: the clone, and what is appended, in a world that has changed nothing of W's. -/
structure PreApp (W V : World) (a : Option Addr) (n c : Nat) (G : Option Nat) (b : Option Addr) (xs us : List Value) : Prop where
  x1 : Sl V 55 2 a n c xs G
  n1 : Rd V (fun _ => True) 2 b 1 1 us
  cv : Chg Nil W V
  g3 : ∀ g, G = some g → W.heap.size ≤ g
theorem preapp_a {W w2 : World} {a : Option Addr} {n c : Nat} {G : Option Nat} {xs us : List Value} (x1 : Sl w2 55 2 a n c xs G) (x2 : Chg Nil W.drew w2) (x3 : ∀ g, G = some g → W.drew.heap.size ≤ g) (hu : us.length = 2) :
    PreApp W (w2.alloc (.cells us.toArray 55)) a n c G (some ⟨w2.heap.size, 0, none⟩) xs us :=
  ⟨x1.alloc _, (Rd.of_blk (n := 1) (s := 2) (Blk.new w2 55 us) (by omega) (by decide)).mono (fun _ _ => trivial), (((Chg.refl Nil W).drew).trans x2 (fun _ _ h => h)).alloc _, x3⟩
theorem preapp_b {W w2 : World} {a : Option Addr} {n c : Nat} {G : Option Nat} {xs us : List Value} (x1 : Sl w2 55 2 a n c xs G) (x2 : Chg Nil (W.drew.alloc (.cells us.toArray 55)) w2) (x3 : ∀ g, G = some g → (W.drew.alloc (.cells us.toArray 55)).heap.size ≤ g) (hu : us.length = 2) :
    PreApp W w2 a n c G (some ⟨W.heap.size, 0, none⟩) xs us :=
  ⟨x1, ((Rd.of_blk (n := 1) (s := 2) (Blk.new W.drew 55 us) (by omega) (by decide)).chg x2 (fun _ _ _ h => h)).mono (fun _ _ => trivial), (((Chg.refl Nil W).drew).alloc _).trans x2 (fun _ _ h => h), fun g hg => by have := x3 g hg; simp at this; omega⟩
theorem PreApp.fin {W V w3 : World} {a b : Option Addr} {n c : Nat} {G : Option Nat} {xs us : List Value} (h : PreApp W V a n c G b xs us) (y2 : Chg (Opt G) V w3) : Chg Nil W w3 :=
  h.cv.trans y2 (fun i hi hG => by have := h.g3 i hG; omega)
theorem flat_snoc (l : List Use) (u : Use) : (l ++ [u]).flatMap useCells = l.flatMap useCells ++ useCells u := by simp
theorem begun_ok (w : World) : Calls Try.prog 30 #[] w fun e w' => e = .returned (.bool true) ∧ Chg Nil w w' := by
  have HR := hid (Rd.of_blk (n := 2) (s := 2) (Blk.new w 55 (([⟨1, 2⟩, ⟨1, 2⟩] : List Use).flatMap useCells)) rfl (by decide))
  have HO : Hid (∀ u ∈ ([⟨1, 2⟩, ⟨1, 2⟩] : List Use), u.ok) := by
    intro u hu
    simp only [List.mem_cons, List.not_mem_nil, or_false, or_self] at hu
    subst hu
    exact ⟨by decide, by decide, by decide⟩
  go_enter Try.func30, Try.ntmps30
  go_wp2_with fail
  refine (fits_ok _ _ _ [⟨1, 2⟩, ⟨1, 2⟩] 1 _ HR.out (by decide) HO.out (by omega) (by omega)).mono ?_
  rw [show decide (fit [⟨1, 2⟩, ⟨1, 2⟩] 1) = true by decide +kernel]
  rintro e w1 ⟨rfl, c1⟩
  go_wp2
  go_ret
  exact ⟨rfl, push_chg c1⟩
/-- Uses that the sets hold. -/
def Good (l : List Use) : Prop := (∀ u ∈ l, u.ok ∧ u.p ∣ 120) ∧ fit l 1
theorem Good.ok {l : List Use} (h : Good l) : ∀ u ∈ l, u.ok := fun u hu => (h.1 u hu).1
def SetsInv (w0 : World) (k : Nat) (a : Option Addr) (n c : Nat) (w : World) : Prop :=
  ∃ (out : List Use) (G : Option Nat), n = out.length ∧ out.length ≤ k ∧ Good out ∧ Sl w 55 2 a n c (out.flatMap useCells) G ∧ Chg Nil w0 w ∧ ∀ g, G = some g → w0.heap.size ≤ g
/-- The periods. -/
def perCells : List Value := [.int .i64 2, .int .i64 3, .int .i64 4, .int .i64 5, .int .i64 6, .int .i64 8, .int .i64 10, .int .i64 12]
theorem per_ok (q : Nat) (h : q < 8) : ∃ p : Nat, perCells[q]? = some (.int .i64 p) ∧ 1 ≤ p ∧ p ≤ 30 ∧ p ∣ 120 := by
  rcases q with _ | _ | _ | _ | _ | _ | _ | _ | q
  · exact ⟨2, rfl, by decide⟩
  · exact ⟨3, rfl, by decide⟩
  · exact ⟨4, rfl, by decide⟩
  · exact ⟨5, rfl, by decide⟩
  · exact ⟨6, rfl, by decide⟩
  · exact ⟨8, rfl, by decide⟩
  · exact ⟨10, rfl, by decide⟩
  · exact ⟨12, rfl, by decide⟩
  · omega
set_option maxRecDepth 100000 in
set_option maxHeartbeats 1000000 in
theorem sets_ok (R : Nat → Prop) (a : Option Addr) (len cap : Nat) (zs : List Int) (w : World) (h : Rd w R 1 a len cap (ints .i64 zs)) :
    Calls Try.prog 31 #[.slice a len cap] w fun e w' => ∃ a' n c, e = .returned (.slice a' n c) ∧ SetsInv w 8 a' n c w' := by
  have hl1 := h.1
  have hl2 := h.2.1
  unfold maxLen at hl2
  have hz1 := h.ilen
  have H := hid h
  have Z1 := hid hz1
  clear h hz1
  have hI : SetsInv w 0 none 0 0 w := ⟨[], none, rfl, by simp, ⟨by simp, fit_nil 1 (by omega)⟩, Sl.empty _ _ _ _, Chg.refl _ _, fun g h => by cases h⟩
  replace hI := hid hI
  go_enter Try.func31, Try.ntmps31
  go_upto_region 2 with fail
  go_cut [14, 15, 16] (fun s14 s15 s16 wx => wx = w ∧ ∃ N : Nat, N ≤ 8 ∧ N ≤ len ∧ s14 = .slice a N cap ∧ s15 = .int .i64 N ∧ s16 = .int .i64 0)
  case first =>
    go_wp2
    · go_meet
      exact ⟨rfl, 8, by omega, by omega, rfl, rfl, rfl⟩
    · go_meet
      exact ⟨rfl, len, by omega, by omega, by simp, by simp, rfl⟩
  case rest =>
    obtain ⟨rfl, N, hN1, hN2, rfl, rfl, rfl⟩ := hcut
    go_wp2
    go_loopw [3, 16] (fun s3 s16 wr => ∃ (k n : Nat) (a : Option Addr) (c : Nat), k ≤ N ∧ s16 = .int .i64 k ∧ s3 = .slice a n c ∧ Hid (SetsInv wc k a n c wr)) (fun _ s16 _ => N - (intOf s16).toNat)
    case atStart => exact ⟨0, 0, none, 0, by omega, rfl, rfl, hI⟩
    case round =>
      obtain ⟨k, n, a2, c, hk, rfl, rfl, hJ⟩ := hrel
      clear hI
      obtain ⟨out, G, rfl, i2, i3, i4, i5, i6⟩ := id hJ.out
      by_cases hlt : k < N
      · have hz : k < zs.length := by have := Z1.out; omega
        obtain ⟨g, off, rfl, _, _, hc⟩ := (H.out.chg i5 (fun _ _ _ h => h)).at hz
        have hc1 := hc k hz
        clear hc
        obtain ⟨z, hzz⟩ : ∃ z, z = zs[k] := ⟨_, rfl⟩
        rw [← hzz] at hc1
        replace hzz := hid hzz
        have hB := hid (Blk.new wr 3 perCells)
        replace i3 := hid i3
        replace i4 := hid i4
        replace i5 := hid i5
        replace i6 := hid i6
        go_wp2_with fail
        refine (rest_natS _ 8 _ (by omega) (by omega)).mono ?_
        rintro e w1 ⟨q, hq, rfl, rfl⟩
        obtain ⟨p, hp, p1, p2, p3⟩ := per_ok q (by omega)
        have hcp := hB.out.cell q
        rw [hp] at hcp
        unfold perCells at hcp
        replace hp := hid hp
        replace p3 := hid p3
        go_wp2_with fail
        refine (rest_natS _ (p : Int) _ (by omega) (by omega)).mono ?_
        rintro e w1 ⟨q', hq', rfl, rfl⟩
        obtain ⟨m, hm⟩ : ∃ m : Nat, 1 + (q' : Int) = (m : Int) := ⟨q' + 1, by omega⟩
        go_wp2
        have hm1 : 1 ≤ m := by omega
        have hm2 : m ≤ p := by omega
        replace hm := hid hm
        have huo : (Use.mk m p).ok := ⟨hm1, hm2, p2⟩
        have hblk := (Blk.new (wr.alloc (.cells perCells.toArray 3)) 55 (useCells ⟨m, p⟩))
        have hWc : Chg Nil wr ((wr.alloc (.cells perCells.toArray 3)).alloc (.cells (useCells ⟨m, p⟩).toArray 55)) := ((Chg.refl _ _).alloc _).alloc _
        have hU : (wr.alloc (.cells perCells.toArray 3)).heap.size = wr.heap.size + 1 := by simp
        rw [hU] at hblk
        generalize hW : (wr.alloc (.cells #[.int .i64 2, .int .i64 3, .int .i64 4, .int .i64 5, .int .i64 6, .int .i64 8, .int .i64 10, .int .i64 12] 3)).alloc (.cells #[.int .i64 m, .int .i64 p] 55) = W
        have hW' : (wr.alloc (.cells perCells.toArray 3)).alloc (.cells (useCells ⟨m, p⟩).toArray 55) = W := hW
        rw [hW'] at hblk hWc
        clear hW hW' hU hcp hc1 hB
        have s1 := i4.out.chg hWc (fun _ _ h => h)
        have k1 := hblk.cell 0
        have k2 := hblk.cell 1
        simp only [useCells, List.getElem?_cons_succ, List.getElem?_cons_zero] at k1 k2
        have HB := hid hblk
        have S1 := hid s1
        replace huo := hid huo
        replace hWc := hid hWc
        clear hblk s1
        have HA : Hid (∀ u ∈ out.flatMap useCells, u.oneCell' = true) := flat_one useCells use_one out
        have HA1 : Hid (∀ u ∈ useCells ⟨m, p⟩, u.oneCell' = true) := use_one _
        have ho8 : out.length ≤ 4294967296 := by omega
        have ho9 : out.length + 1 ≤ 4294967296 := by omega
        have h16 : (16 : Nat) ≤ 4096 := by omega
        have hl16 : (out ++ [Use.mk m p]).length ≤ 16 := by simp; omega
        have hln : out.length + 1 = (out ++ [Use.mk m p]).length := by simp
        have HLN := hid hln
        clear hln
        have HOK : Hid (∀ u ∈ out ++ [Use.mk m p], u.ok) := fun u hu => by
          rcases List.mem_append.1 hu with h | h
          · exact i3.out.ok u h
          · rw [List.mem_singleton.1 h]; exact huo.out
        have hone4 : (1 : Int) ≤ 1 := by omega
        have hone5 : (1 : Int) ≤ 4 := by omega
        have hsU : wr.heap.size + 1 < W.heap.size := HB.out.lt
        have HSN := hid (flat_snoc out ⟨m, p⟩)
        have CWW := hid (i5.out.trans hWc.out (fun _ _ h => h))
        cases hf : decide (fit (out ++ [Use.mk m p]) 1) with
        | false =>
          replace hf := hid hf
          go_region_held3 (fun w' => w'.cell? ⟨wr.heap.size + 1, 0, none⟩ = some (.int .i64 m) ∧ w'.cell? ⟨wr.heap.size + 1, 1, none⟩ = some (.int .i64 p)) (first | exact ⟨k1, k2⟩ | exact ⟨k3, k4⟩ | exact ⟨k5, k6⟩ | exact ⟨k7, k8⟩ | go_keep)
            (first | (go_at_call 47; refine (clone_use _ _ _ _ _ _ (S1.out.rd.drewN 1) HA.out ho8).mono ?_; rintro e w2 ⟨a3, c3, G3, rfl, x1, x2, x3⟩; have PA := preapp_a (us := useCells ⟨m, p⟩) x1 x2 x3 rfl; have k3 := (x2.cell (a := ⟨wr.heap.size + 1, 0, none⟩) HB.out.lt (fun h => h)).trans k1; have k4 := (x2.cell (a := ⟨wr.heap.size + 1, 1, none⟩) HB.out.lt (fun h => h)).trans k2; replace PA := hid PA; clear x1 x2 x3) | (go_at_call 47; refine (clone_use _ _ _ _ _ _ ((S1.out.rd.drewN 1).alloc (.cells (useCells ⟨m, p⟩).toArray 55)) HA.out ho8).mono ?_; rintro e w2 ⟨a3, c3, G3, rfl, x1, x2, x3⟩; have PA := preapp_b (us := useCells ⟨m, p⟩) x1 x2 x3 rfl; have k3 := (PA.cv.cell (a := ⟨wr.heap.size + 1, 0, none⟩) HB.out.lt (fun h => h)).trans k1; have k4 := (PA.cv.cell (a := ⟨wr.heap.size + 1, 1, none⟩) HB.out.lt (fun h => h)).trans k2; replace PA := hid PA; clear x1 x2 x3) | (refine step_append_sl rfl (.tmp 34) (.tmp 36) eUse rfl rfl rfl PA.out.x1 PA.out.n1 HA1.out ho9 h16 ?_; intro a4 c4 w3 G4 y1 y2 y3; have CW3 := PA.out.fin y2; have k5 := (CW3.cell (a := ⟨wr.heap.size + 1, 0, none⟩) HB.out.lt (fun h => h)).trans k1; have k6 := (CW3.cell (a := ⟨wr.heap.size + 1, 1, none⟩) HB.out.lt (fun h => h)).trans k2; replace CW3 := hid CW3; rw [← HSN.out] at y1; replace y1 := hid y1; replace y2 := hid y2; replace y3 := hid y3) | (go_at_call 46; refine (fits_n _ _ _ _ (out ++ [Use.mk m p]) _ _ HLN.out y1.out.rd hl16 HOK.out hone4 hone5 _ hf.out).mono ?_; rintro e w4 ⟨rfl, v1⟩; have CW4 := CW3.out.trans v1 (fun _ _ h => h); have k7 := (CW4.cell (a := ⟨wr.heap.size + 1, 0, none⟩) HB.out.lt (fun h => h)).trans k1; have k8 := (CW4.cell (a := ⟨wr.heap.size + 1, 1, none⟩) HB.out.lt (fun h => h)).trans k2; clear v1; replace CW4 := hid CW4))
          all_goals
            go_wp2
            go_roundw
            case rel => exact ⟨k + 1, out.length, a2, c, by omega, by go_num, rfl, out, G, rfl, by omega, i3.out, S1.out.chg CW4.out (fun _ _ h => h), CWW.out.trans CW4.out (fun _ _ h => h), i6.out⟩
            case measure => simp [intOf]; omega
        | true =>
          replace hf := hid hf
          go_region_held3 (fun w' => w'.cell? ⟨wr.heap.size + 1, 0, none⟩ = some (.int .i64 m) ∧ w'.cell? ⟨wr.heap.size + 1, 1, none⟩ = some (.int .i64 p)) (first | exact ⟨k1, k2⟩ | exact ⟨k3, k4⟩ | exact ⟨k5, k6⟩ | exact ⟨k7, k8⟩ | go_keep)
            (first | (go_at_call 47; refine (clone_use _ _ _ _ _ _ (S1.out.rd.drewN 1) HA.out ho8).mono ?_; rintro e w2 ⟨a3, c3, G3, rfl, x1, x2, x3⟩; have PA := preapp_a (us := useCells ⟨m, p⟩) x1 x2 x3 rfl; have k3 := (x2.cell (a := ⟨wr.heap.size + 1, 0, none⟩) HB.out.lt (fun h => h)).trans k1; have k4 := (x2.cell (a := ⟨wr.heap.size + 1, 1, none⟩) HB.out.lt (fun h => h)).trans k2; replace PA := hid PA; clear x1 x2 x3) | (go_at_call 47; refine (clone_use _ _ _ _ _ _ ((S1.out.rd.drewN 1).alloc (.cells (useCells ⟨m, p⟩).toArray 55)) HA.out ho8).mono ?_; rintro e w2 ⟨a3, c3, G3, rfl, x1, x2, x3⟩; have PA := preapp_b (us := useCells ⟨m, p⟩) x1 x2 x3 rfl; have k3 := (PA.cv.cell (a := ⟨wr.heap.size + 1, 0, none⟩) HB.out.lt (fun h => h)).trans k1; have k4 := (PA.cv.cell (a := ⟨wr.heap.size + 1, 1, none⟩) HB.out.lt (fun h => h)).trans k2; replace PA := hid PA; clear x1 x2 x3) | (refine step_append_sl rfl (.tmp 34) (.tmp 36) eUse rfl rfl rfl PA.out.x1 PA.out.n1 HA1.out ho9 h16 ?_; intro a4 c4 w3 G4 y1 y2 y3; have CW3 := PA.out.fin y2; have k5 := (CW3.cell (a := ⟨wr.heap.size + 1, 0, none⟩) HB.out.lt (fun h => h)).trans k1; have k6 := (CW3.cell (a := ⟨wr.heap.size + 1, 1, none⟩) HB.out.lt (fun h => h)).trans k2; replace CW3 := hid CW3; rw [← HSN.out] at y1; replace y1 := hid y1; replace y2 := hid y2; replace y3 := hid y3) | (go_at_call 46; refine (fits_n _ _ _ _ (out ++ [Use.mk m p]) _ _ HLN.out y1.out.rd hl16 HOK.out hone4 hone5 _ hf.out).mono ?_; rintro e w4 ⟨rfl, v1⟩; have CW4 := CW3.out.trans v1 (fun _ _ h => h); have k7 := (CW4.cell (a := ⟨wr.heap.size + 1, 0, none⟩) HB.out.lt (fun h => h)).trans k1; have k8 := (CW4.cell (a := ⟨wr.heap.size + 1, 1, none⟩) HB.out.lt (fun h => h)).trans k2; clear v1; replace CW4 := hid CW4))
          all_goals
            have HS2 := hid ((S1.out.chg CW4.out (fun _ _ h => h)).alloc (.cells (useCells ⟨m, p⟩).toArray 55))
            have HN2 := hid (Rd.of_blk (n := 1) (s := 2) (Blk.new w4 55 (useCells ⟨m, p⟩)) rfl (by decide))
            go_wp2_with (at_builtin; refine wpList_append_sl rfl (.tmp 46) (.tmp 48) eUse rfl rfl rfl HS2.out HN2.out HA1.out ho9 h16 ?_; intro a5 c5 w5 G5 t1 t2 t3; rw [← HSN.out] at t1; replace t1 := hid t1; replace t2 := hid t2; replace t3 := hid t3)
            go_roundw
            case rel =>
              refine ⟨k + 1, out.length + 1, a5, c5, by omega, by go_num, rfl, out ++ [⟨m, p⟩], G5, HLN.out, by rw [← HLN.out]; omega, ⟨fun u hu => ⟨HOK.out u hu, ?_⟩, of_decide_eq_true hf.out⟩, t1.out, ?_, ?_⟩
              · rcases List.mem_append.1 hu with h | h
                · exact (i3.out.1 u h).2
                · rw [List.mem_singleton.1 h]; exact p3.out
              · exact (CWW.out.trans CW4.out (fun _ _ h => h)).trans (push_chg t2.out) (fun i hi hG => by have := i6.out i hG; omega)
              · intro g hg
                rcases push_grew t3.out g hg with h | h
                · exact i6.out g h
                · have := (CWW.out.trans CW4.out (fun _ _ h => h)).size; omega
            case measure => simp [intOf]; omega
      · go_wp2
        go_ret
        exact ⟨a2, out.length, c, rfl, out, G, rfl, by omega, i3, i4, i5, i6⟩
end Go.Proofs.Ythcgeigijnbpkaa
