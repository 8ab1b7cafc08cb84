/- The last contracts of package wait that a lost wake-up needs: Wake where all are woken, Look, Sleep. Conditions: at most 1000 wait; marks are few. -/
import Derived.Test.YtaffkdoiooablaaWait2
namespace Go.Proofs.Ytaffkdoiooablaa
open Go.ChangeShapes Go.WideShapes Go.ChangeAt Go.RowKit
set_option linter.unusedVariables false
/-- How many want to be woken alone. -/
def alone (l : List WT) : Nat := (l.filter WT.al).length
theorem alone_take (l : List WT) (k : Nat) (h : k < l.length) : alone (l.take (k + 1)) = alone (l.take k) + if l[k].al then 1 else 0 := by
  unfold alone
  rw [List.take_succ_eq_append_getElem h, List.filter_append, List.length_append]
  cases hh : l[k].al <;> simp [hh]
theorem alone_le (l : List WT) (k : Nat) : alone (l.take k) ≤ alone l := by
  have h : alone l = alone (l.take k) + alone (l.drop k) := by
    unfold alone
    rw [← List.length_append, ← List.filter_append, List.take_append_drop]
  omega
def PWakeQ (F : Nat → Prop) (p : Nat) (l : List WT) (n : Int) (nm : Nat) (f : Int → Option Value) (w : World) (e : Ending) (w' : World) : Prop := ∃ a c G, e = .returned (.tuple #[.slice a l.length c, .int .i64 0]) ∧ Sl w' 3 1 a l.length c (ints .i64 (l.map WT.t)) G ∧ QAt w' F p [] (n + 1) nm f ∧ Chg F w w' ∧ ∀ g, G = some g → w.heap.size ≤ g
def WJ (w0 : World) (F : Nat → Prop) (p : Nat) (l : List WT) (a : Option Addr) (c : Nat) (k : Nat) (w : World) : Prop := ∃ G, Sl w 3 1 a k c (ints .i64 ((l.take k).map WT.t)) G ∧ Chg Nil w0 w ∧ ∀ g, G = some g → w0.heap.size ≤ g
set_option maxHeartbeats 2000000 in
theorem qwake_all (w : World) (F : Nat → Prop) (p : Nat) (l : List WT) (n : Int) (nm : Nat) (f : Int → Option Value) (m : Nat) (h : QAt w F p l n nm f) (hl : l.length ≤ 1000) (hm : alone l ≤ m) (hm2 : m ≤ 1000000) (hn0 : 0 ≤ n) (hn1 : n ≤ 1000000) :
    Calls Try.prog 28 #[.pointer (some ⟨p, 0, none⟩), .int .i64 (m : Int)] w (PWakeQ F p l n nm f w) := by
  obtain ⟨a, c, G, mb, h⟩ := h
  have d2 := h.c2
  have f2 : w.frozen? ⟨p, 2, none⟩ = false := h.blk.frozen 2
  have hb1 : Blk (w.setCell ⟨p, 2, none⟩ (.int .i64 (n + 1))) p 76 [.slice a l.length c, .map (some mb), .int .i64 (n + 1)] := h.blk.set 2 _
  have hC1 : Chg F w (w.setCell ⟨p, 2, none⟩ (.int .i64 (n + 1))) := (Chg.refl F w).setCell (p := ⟨p, 2, none⟩) (.inl h.fp) _
  have hsl1 := h.sl.set_far (p := ⟨p, 2, none⟩) h.ne (.int .i64 (n + 1))
  have hmp1 := h.mp.chg ((Chg.refl (One p) w).setCell (p := ⟨p, 2, none⟩) (.inl (show One p p from rfl)) (.int .i64 (n + 1))) (fun hh => h.pm hh)
  have d0 := hb1.cell 0
  simp only [List.getElem?_cons_zero] at d0
  have H := hid h
  have HB := hid hb1
  have HC := hid hC1
  have HS := hid hsl1
  have HM := hid hmp1
  clear h hb1 hC1 hsl1 hmp1
  go_enter Try.func28, Try.ntmps28
  go_wp2
  obtain ⟨wa, hwa⟩ : ∃ wa, wa = w.setCell ⟨p, 2, none⟩ (.int .i64 (n + 1)) := ⟨_, rfl⟩
  rw [← hwa] at HB HC HS HM d0 ⊢
  have hsz : wa.heap.size = w.heap.size := by rw [hwa]; simp [World.setCell]
  replace hwa := hid hwa
  have HSZ := hid hsz
  clear hsz
  go_loopw [1, 6, 7, 24] (fun s1 s6 s7 s24 wr => ∃ (k : Nat) (a2 : Option Addr) (c2 : Nat), k ≤ l.length ∧ s7 = .slice none 0 0 ∧ s24 = .int .i64 k ∧ s6 = .slice a2 k c2 ∧ s1 = .int .i64 ((m - alone (l.take k) : Nat) : Int) ∧ Hid (WJ wa F p l a2 c2 k wr)) (fun _ _ _ s24 _ => l.length - (intOf s24).toNat)
  case atStart => exact ⟨0, none, 0, by omega, rfl, rfl, rfl, rfl, none, Sl.empty _ _ _ _, Chg.refl _ _, fun g h => by cases h⟩
  case round =>
    obtain ⟨k, a2, c2, hk, rfl, rfl, rfl, rfl, hJ⟩ := hrel
    obtain ⟨G2, j1, j2, j3⟩ := id hJ.out
    by_cases hlt : k < l.length
    · obtain ⟨g, off, rfl, hg1, hg2, hc⟩ := ((HS.out.chg j2 (fun _ _ h => h)).rd).elem wt_len rfl (by omega)
      have e0 := hc k hlt 0 (by omega)
      have e1 := hc k hlt 1 (by omega)
      clear hc
      simp only [wtCells, List.getElem?_cons_succ, List.getElem?_cons_zero, Nat.add_zero] at e0 e1
      have HTK := hid (show (l.take (k + 1)).map WT.t = (l.take k).map WT.t ++ [l[k].t] by rw [List.take_succ_eq_append_getElem hlt, List.map_append]; rfl)
      have hal := alone_take l k hlt
      have hle := alone_le l (k + 1)
      generalize l[k] = x at *
      have C0 : Chg Nil wr (wr.alloc (.cells #[.int .i64 x.t, .bool x.al] 78)) := (Chg.refl _ _).alloc _
      have S2 := hid ((j1.chg C0 (fun _ _ h => h)).alloc (.cells #[.int .i64 x.t] 3))
      have N2 := Rd.of_blk (n := 1) (s := 1) (Blk.new (wr.alloc (.cells #[.int .i64 x.t, .bool x.al] 78)) 3 (ints .i64 [x.t])) rfl (by decide)
      rw [show (wr.alloc (.cells #[.int .i64 x.t, .bool x.al] 78)).heap.size = wr.heap.size + 1 by simp] at N2
      replace N2 := hid N2
      have FIN : ∀ (a' : Option Addr) (c' : Nat) (w2 : World) (G' : Option Nat), Sl w2 3 1 a' (k + 1) c' (ints .i64 ((l.take k).map WT.t) ++ ints .i64 [x.t]) G' → Chg (Opt G2) ((wr.alloc (.cells #[.int .i64 x.t, .bool x.al] 78)).alloc (.cells #[.int .i64 x.t] 3)) w2 → (G' = G2 ∨ G' = some ((wr.alloc (.cells #[.int .i64 x.t, .bool x.al] 78)).alloc (.cells #[.int .i64 x.t] 3)).heap.size) → WJ wa F p l a' c' (k + 1) w2 := by
        intro a' c' w2 G' y1 y2 y3
        refine ⟨G', ?_, ?_, ?_⟩
        · rw [ints_append, ← HTK.out] at y1; exact y1
        · exact (j2.trans C0 (fun _ _ h => h)).trans (push_chg y2) (fun i hi hG => by have := j3 i hG; omega)
        · intro g' hg
          rcases push_grew y3 g' hg with h | h
          · exact j3 g' h
          · have := j2.size; simp at h; omega
      replace FIN := hid FIN
      clear j1 j2 j3 C0
      cases hxa : x.al with
      | false =>
        rw [hxa] at e1 hal S2 N2 FIN
        simp only [Bool.false_eq_true, if_false, Nat.add_zero] at hal
        have HAL := hid hal
        clear hal
        replace hxa := hid hxa
        go_wp2_with (at_builtin; refine wpList_append_sl rfl _ _ eInt rfl rfl rfl S2.out N2.out (ints_one _ _) (by omega) (by omega) ?_; intro a' c' w2 G' y1 y2 y3; replace y1 := hid y1; replace y2 := hid y2; replace y3 := hid y3)
        go_roundw
        case rel => exact ⟨k + 1, a', c', by omega, rfl, by go_num, rfl, by rw [HAL.out], FIN.out a' c' _ G' y1.out y2.out y3.out⟩
        case measure => simp [intOf]; omega
      | true =>
        rw [hxa] at e1 hal S2 N2 FIN
        simp only [if_true] at hal
        have hpos : 0 < ((m - alone (l.take k) : Nat) : Int) := by omega
        have HAL := hid hal
        have hnx : ((m - alone (l.take k) : Nat) : Int) - 1 = ((m - alone (l.take (k + 1)) : Nat) : Int) := by omega
        have HNX := hid hnx
        clear hal hnx
        have hmm : m - alone (l.take k) ≤ 1000000 := by omega
        generalize (m - alone (l.take k) : Nat) = mm at *
        replace hxa := hid hxa
        go_wp2_with (at_builtin; refine wpList_append_sl rfl _ _ eInt rfl rfl rfl S2.out N2.out (ints_one _ _) (by omega) (by omega) ?_; intro a' c' w2 G' y1 y2 y3; replace y1 := hid y1; replace y2 := hid y2; replace y3 := hid y3)
        go_roundw
        case rel => exact ⟨k + 1, a', c', by omega, rfl, by go_num, rfl, by rw [HNX.out], FIN.out a' c' _ G' y1.out y2.out y3.out⟩
        case measure => simp [intOf]; omega
    · obtain rfl : k = l.length := by omega
      rw [List.take_length] at j1
      have hb2 := HB.out.chg j2 (fun h => h)
      have e0 := hb2.cell 0
      have g0 := hb2.frozen 0
      simp only [List.getElem?_cons_zero] at e0
      have HB2 := hid hb2
      have J1 := hid j1
      have J2 := hid j2
      have J3 := hid j3
      clear hb2 j1 j2 j3
      go_wp2
      go_ret2
      refine ⟨a2, c2, G2, rfl, J1.out.set_far (p := ⟨p, 0, none⟩) (J1.out.ne_blk HB2.out (by decide)) _, ⟨none, 0, none, mb, HB2.out.set 0 _, Sl.empty _ _ _ _, ?_, H.out.fp, H.out.fm, (fun g h => by cases h), (by simp), H.out.pm, ?_⟩, ?_, ?_⟩
      · exact (HM.out.chg J2.out (fun h => h)).chg ((Chg.refl (One p) _).setCell (p := ⟨p, 0, none⟩) (.inl (show One p p from rfl)) _) (fun hh => H.out.pm hh)
      · intro k hk
        have h1 := H.out.lt k hk
        have h2 := J2.out.size
        have h3 := HSZ.out
        simp [World.setCell]
        omega
      · exact (HC.out.trans J2.out (fun _ _ h => h.elim)).setCell (p := ⟨p, 0, none⟩) (.inl H.out.fp) _
      · intro g hg
        have := J3.out g hg
        rw [HSZ.out] at this
        exact this
set_option maxHeartbeats 1000000 in
theorem qlook_ok (w : World) (F : Nat → Prop) (p : Nat) (l : List WT) (n : Int) (nm : Nat) (f : Int → Option Value) (t : Int) (h : QAt w F p l n nm f) (hl : l.length ≤ 1000) (t1 : 1 ≤ t) (t2 : t ≤ 16) (ht : waits l t = false) (hn0 : 0 ≤ n) (hn1 : n ≤ 1000000) (hnm : nm ≤ 1000000) :
    Calls Try.prog 27 #[.pointer (some ⟨p, 0, none⟩), .int .i64 t] w fun e w' => e = .returned (.int .i64 0) ∧ QAt w' F p l n (nm + 1) (updM f t (some (.int .i64 (n + 1)))) ∧ Chg F w w' := by
  obtain ⟨a, c, G, mb, h⟩ := h
  have HH := hid (has_any w F p l n nm f a c G mb t h hl)
  rw [ht] at HH
  have H := hid h
  clear h ht
  have hw1 := IntWalk.i64_in (n + 1) (by omega)
  replace hw1 := hid hw1
  go_enter Try.func27, Try.ntmps27
  go_wp2_with fail
  refine HH.out.mono ?_
  rintro e w1 ⟨rfl, c1⟩
  have H1 := H.out.nil c1
  have d1 := H1.c1
  have d2 := H1.c2
  have hmd : MpAt w1.drew Try.prog 3 mb nm f := H1.mp
  obtain ⟨w2, hrun, r1, r2⟩ := hmd.store (t := 73) (e := 3) Try.underlying3 Try.underlying73 hnm t (wf_key (by omega) (by omega)) (.int .i64 (n + 1))
  have C1 := hid c1
  replace H1 := hid H1
  replace r1 := hid r1
  replace r2 := hid r2
  clear c1 hmd
  go_wp2
  have hw2 := hw1.out
  go_region
  clear hw2
  go_wp2
  go_ret
  have hne : ∀ k, One mb k → k ≠ p := fun k hk he => H1.out.pm ((show k = mb from hk) ▸ he)
  refine ⟨rfl, ⟨a, c, G, mb, ?_, ?_, r1.out, H1.out.fp, H1.out.fm, H1.out.fg, H1.out.nmb, H1.out.pm, ?_⟩, ?_⟩
  · exact H1.out.blk.drew.chg r2.out (fun hh => H1.out.pm ((show p = mb from hh).symm))
  · exact (show Sl w1.drew _ _ _ _ _ _ _ from H1.out.sl).chg r2.out (fun g hg hh => H1.out.nmb (by rw [hg, show g = mb from hh]))
  · intro k hk; exact Nat.lt_of_lt_of_le (H1.out.lt k hk) r2.out.size
  · exact ((C1.out.mono (G := F) (fun _ _ h => h.elim)).drew).trans r2.out (fun i _ hh => by rw [show i = mb from hh]; exact H1.out.fm)
theorem qsleep_state (w : World) (F : Nat → Prop) (p : Nat) (l : List WT) (n : Int) (nm : Nat) (f : Int → Option Value) (t : Int) (al : Bool) (h : QAt w F p l n nm f) (t1 : 1 ≤ t) (t2 : t ≤ 16) (hf : f t = none) :
    Calls Try.prog 29 #[.pointer (some ⟨p, 0, none⟩), .int .i64 t, .bool al] w fun e w' => e = .returned (.tuple #[.bool false, .int .i64 8]) ∧ w = w' := by
  obtain ⟨a, c, G, mb, h⟩ := h
  have d1 := h.c1
  have hlk := h.mp.look (t := 73) (e := 3) Try.underlying3 Try.underlying73 (zeroInt w) t (wf_key (by omega) (by omega))
  rw [hf] at hlk
  simp only [Option.getD_none] at hlk
  clear h hf
  go_enter Try.func29, Try.ntmps29
  go_wp2
  go_ret2
  exact ⟨rfl, rfl⟩
set_option maxHeartbeats 2000000 in
theorem qsleep_no (w : World) (F : Nat → Prop) (p : Nat) (l : List WT) (n : Int) (nm : Nat) (f : Int → Option Value) (t m : Int) (al : Bool) (h : QAt w F p l n nm f) (hl : l.length ≤ 1000) (t1 : 1 ≤ t) (t2 : t ≤ 16) (hn0 : 0 ≤ n) (hn1 : n ≤ 1000000) (hm : 1 ≤ m) (hf : f t = some (.int .i64 m)) (ht : waits l t = false) (hmn : m ≠ n + 1) :
    Calls Try.prog 29 #[.pointer (some ⟨p, 0, none⟩), .int .i64 t, .bool al] w fun e w' => e = .returned (.tuple #[.bool false, .int .i64 0]) ∧ QAt w' F p l n nm (updM f t none) ∧ Chg F w w' := by
  obtain ⟨a, c, G, mb, h⟩ := h
  have d1 := h.c1
  have hlk := h.mp.look (t := 73) (e := 3) Try.underlying3 Try.underlying73 (zeroInt w) t (wf_key (by omega) (by omega))
  rw [hf] at hlk
  simp only [Option.getD_some] at hlk
  have hm0 : (m == 0) = false := by rw [beq_eq_false_iff_ne]; omega
  have hmn' : (m != n + 1) = true := by rw [bne_iff_ne]; exact hmn
  have HH := hid (has_any w F p l n nm f a c G mb t h hl)
  rw [ht] at HH
  have H := hid h
  have hwf := wf_key (i := t) (by omega) (by omega)
  clear h hf ht hmn
  go_enter Try.func29, Try.ntmps29
  go_wp2_with fail
  refine HH.out.mono ?_
  rintro e w1 ⟨rfl, c1⟩
  have H1 := H.out.nil c1
  have e1 := H1.c1
  have C1 := hid c1
  replace H1 := hid H1
  clear c1
  go_wp2_with (at_delete; refine wpList_drop _ rfl _ _ 73 3 rfl (e := 3) Try.underlying3 Try.underlying73 mb nm f rfl H1.out.mp _ rfl hwf ?_; intro w2 r1 r2; have k2 : w2.cell? ⟨p, 2, none⟩ = some (.int .i64 n) := (r2.cell (a := ⟨p, 2, none⟩) H1.out.blk.lt (fun hh => H1.out.pm ((show p = mb from hh).symm))).trans H1.out.c2; replace r1 := hid r1; replace r2 := hid r2)
  go_ret2
  refine ⟨rfl, ⟨a, c, G, mb, ?_, ?_, r1.out, H1.out.fp, H1.out.fm, H1.out.fg, H1.out.nmb, H1.out.pm, ?_⟩, ?_⟩
  · exact H1.out.blk.chg r2.out (fun hh => H1.out.pm ((show p = mb from hh).symm))
  · exact H1.out.sl.chg r2.out (fun g hg hh => H1.out.nmb (by rw [hg, show g = mb from hh]))
  · intro k hk; exact Nat.lt_of_lt_of_le (H1.out.lt k hk) r2.out.size
  · exact (C1.out.mono (G := F) (fun _ _ h => h.elim)).trans r2.out (fun i _ hh => by rw [show i = mb from hh]; exact H1.out.fm)
end Go.Proofs.Ytaffkdoiooablaa
