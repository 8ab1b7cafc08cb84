/- The last contracts of package wait that a lost wake-up needs: Wake where all are woken, Look, Sleep. Conditions: at most 1000 wait; marks are few. -/
import Derived.Test.YtdelelpfombfbaaWait2
namespace Go.Proofs.Ytdelelpfombfbaa
open Go.ChangeShapes Go.WideShapes Go.ChangeAt Go.RowKit
set_option linter.unusedVariables false
/-- How many want to be woken alone. -/
def alone (l : List WT) : Nat := (l.filter WT.al).length
theorem alone_take (l : List WT) (k : Nat) (h : k < l.length) : alone (l.take (k + 1)) = alone (l.take k) + if l[k].al then 1 else 0 := by
  unfold alone
  rw [List.take_succ_eq_append_getElem h, List.filter_append, List.length_append]
  cases hh : l[k].al <;> simp [hh]
theorem alone_le (l : List WT) (k : Nat) : alone (l.take k) ≤ alone l := by
  have h : alone l = alone (l.take k) + alone (l.drop k) := by
    unfold alone
    rw [← List.length_append, ← List.filter_append, List.take_append_drop]
  omega
def PWakeQ (F : Nat → Prop) (p : Nat) (l : List WT) (n : Int) (nm : Nat) (f : Int → Option Value) (w : World) (e : Ending) (w' : World) : Prop := ∃ a c G, e = .returned (.tuple #[.slice a l.length c, .int .i64 0]) ∧ Sl w' 3 1 a l.length c (ints .i64 (l.map WT.t)) G ∧ QAt w' F p [] (n + 1) nm f ∧ Chg F w w' ∧ ∀ g, G = some g → w.heap.size ≤ g
def WJ (w0 : World) (F : Nat → Prop) (p : Nat) (l : List WT) (a : Option Addr) (c : Nat) (k : Nat) (w : World) : Prop := ∃ G, Sl w 3 1 a k c (ints .i64 ((l.take k).map WT.t)) G ∧ Chg Nil w0 w ∧ ∀ g, G = some g → w0.heap.size ≤ g
set_option maxHeartbeats 2000000 in
theorem qwake_all (w : World) (F : Nat → Prop) (p : Nat) (l : List WT) (n : Int) (nm : Nat) (f : Int → Option Value) (m : Nat) (h : QAt w F p l n nm f) (hl : l.length ≤ 1000) (hm : alone l ≤ m) (hm2 : m ≤ 1000000) (hn0 : 0 ≤ n) (hn1 : n ≤ 1000000) :
    Calls Try.prog 36 #[.pointer (some ⟨p, 0, none⟩), .int .i64 (m : Int)] w (PWakeQ F p l n nm f w) := by
  obtain ⟨a, c, G, mb, h⟩ := h
  have d2 := h.c2
  have f2 : w.frozen? ⟨p, 2, none⟩ = false := h.blk.frozen 2
  have hb1 : Blk (w.setCell ⟨p, 2, none⟩ (.int .i64 (n + 1))) p 71 [.slice a l.length c, .map (some mb), .int .i64 (n + 1)] := h.blk.set 2 _
  have hC1 : Chg F w (w.setCell ⟨p, 2, none⟩ (.int .i64 (n + 1))) := (Chg.refl F w).setCell (p := ⟨p, 2, none⟩) (.inl h.fp) _
  have hsl1 := h.sl.set_far (p := ⟨p, 2, none⟩) h.ne (.int .i64 (n + 1))
  have hmp1 := h.mp.chg ((Chg.refl (One p) w).setCell (p := ⟨p, 2, none⟩) (.inl (show One p p from rfl)) (.int .i64 (n + 1))) (fun hh => h.pm hh)
  have d0 := hb1.cell 0
  simp only [List.getElem?_cons_zero] at d0
  have H := hid h
  have HB := hid hb1
  have HC := hid hC1
  have HS := hid hsl1
  have HM := hid hmp1
  clear h hb1 hC1 hsl1 hmp1
  go_enter Try.func36, Try.ntmps36
  go_wp2
  obtain ⟨wa, hwa⟩ : ∃ wa, wa = w.setCell ⟨p, 2, none⟩ (.int .i64 (n + 1)) := ⟨_, rfl⟩
  rw [← hwa] at HB HC HS HM d0 ⊢
  have hsz : wa.heap.size = w.heap.size := by rw [hwa]; simp [World.setCell]
  replace hwa := hid hwa
  have HSZ := hid hsz
  clear hsz
  go_loopw [1, 6, 7, 24] (fun s1 s6 s7 s24 wr => ∃ (k : Nat) (a2 : Option Addr) (c2 : Nat), k ≤ l.length ∧ s7 = .slice none 0 0 ∧ s24 = .int .i64 k ∧ s6 = .slice a2 k c2 ∧ s1 = .int .i64 ((m - alone (l.take k) : Nat) : Int) ∧ Hid (WJ wa F p l a2 c2 k wr)) (fun _ _ _ s24 _ => l.length - (intOf s24).toNat)
  case atStart => exact ⟨0, none, 0, by omega, rfl, rfl, rfl, rfl, none, Sl.empty _ _ _ _, Chg.refl _ _, fun g h => by cases h⟩
  case round =>
    obtain ⟨k, a2, c2, hk, rfl, rfl, rfl, rfl, hJ⟩ := hrel
    obtain ⟨G2, j1, j2, j3⟩ := id hJ.out
    by_cases hlt : k < l.length
    · obtain ⟨g, off, rfl, hg1, hg2, hc⟩ := ((HS.out.chg j2 (fun _ _ h => h)).rd).elem wt_len rfl (by omega)
      have e0 := hc k hlt 0 (by omega)
      have e1 := hc k hlt 1 (by omega)
      clear hc
      simp only [wtCells, List.getElem?_cons_succ, List.getElem?_cons_zero, Nat.add_zero] at e0 e1
      have HTK := hid (show (l.take (k + 1)).map WT.t = (l.take k).map WT.t ++ [l[k].t] by rw [List.take_succ_eq_append_getElem hlt, List.map_append]; rfl)
      have hal := alone_take l k hlt
      have hle := alone_le l (k + 1)
      generalize l[k] = x at *
      have C0 : Chg Nil wr (wr.alloc (.cells #[.int .i64 x.t, .bool x.al] 95)) := (Chg.refl _ _).alloc _
      have S2 := hid ((j1.chg C0 (fun _ _ h => h)).alloc (.cells #[.int .i64 x.t] 3))
      have N2 := Rd.of_blk (n := 1) (s := 1) (Blk.new (wr.alloc (.cells #[.int .i64 x.t, .bool x.al] 95)) 3 (ints .i64 [x.t])) rfl (by decide)
      rw [show (wr.alloc (.cells #[.int .i64 x.t, .bool x.al] 95)).heap.size = wr.heap.size + 1 by simp] at N2
      replace N2 := hid N2
      have FIN : ∀ (a' : Option Addr) (c' : Nat) (w2 : World) (G' : Option Nat), Sl w2 3 1 a' (k + 1) c' (ints .i64 ((l.take k).map WT.t) ++ ints .i64 [x.t]) G' → Chg (Opt G2) ((wr.alloc (.cells #[.int .i64 x.t, .bool x.al] 95)).alloc (.cells #[.int .i64 x.t] 3)) w2 → (G' = G2 ∨ G' = some ((wr.alloc (.cells #[.int .i64 x.t, .bool x.al] 95)).alloc (.cells #[.int .i64 x.t] 3)).heap.size) → WJ wa F p l a' c' (k + 1) w2 := by
        intro a' c' w2 G' y1 y2 y3
        refine ⟨G', ?_, ?_, ?_⟩
        · rw [ints_append, ← HTK.out] at y1; exact y1
        · exact (j2.trans C0 (fun _ _ h => h)).trans (push_chg y2) (fun i hi hG => by have := j3 i hG; omega)
        · intro g' hg
          rcases push_grew y3 g' hg with h | h
          · exact j3 g' h
          · have := j2.size; simp at h; omega
      replace FIN := hid FIN
      clear j1 j2 j3 C0
      cases hxa : x.al with
      | false =>
        rw [hxa] at e1 hal S2 N2 FIN
        simp only [Bool.false_eq_true, if_false, Nat.add_zero] at hal
        have HAL := hid hal
        clear hal
        replace hxa := hid hxa
        go_wp2_with (at_builtin; refine wpList_append_sl rfl _ _ eInt rfl rfl rfl S2.out N2.out (ints_one _ _) (by omega) (by omega) ?_; intro a' c' w2 G' y1 y2 y3; replace y1 := hid y1; replace y2 := hid y2; replace y3 := hid y3)
        go_roundw
        case rel => exact ⟨k + 1, a', c', by omega, rfl, by go_num, rfl, by rw [HAL.out], FIN.out a' c' _ G' y1.out y2.out y3.out⟩
        case measure => simp [intOf]; omega
      | true =>
        rw [hxa] at e1 hal S2 N2 FIN
        simp only [if_true] at hal
        have hpos : 0 < ((m - alone (l.take k) : Nat) : Int) := by omega
        have HAL := hid hal
        have hnx : ((m - alone (l.take k) : Nat) : Int) - 1 = ((m - alone (l.take (k + 1)) : Nat) : Int) := by omega
        have HNX := hid hnx
        clear hal hnx
        have hmm : m - alone (l.take k) ≤ 1000000 := by omega
        generalize (m - alone (l.take k) : Nat) = mm at *
        replace hxa := hid hxa
        go_wp2_with (at_builtin; refine wpList_append_sl rfl _ _ eInt rfl rfl rfl S2.out N2.out (ints_one _ _) (by omega) (by omega) ?_; intro a' c' w2 G' y1 y2 y3; replace y1 := hid y1; replace y2 := hid y2; replace y3 := hid y3)
        go_roundw
        case rel => exact ⟨k + 1, a', c', by omega, rfl, by go_num, rfl, by rw [HNX.out], FIN.out a' c' _ G' y1.out y2.out y3.out⟩
        case measure => simp [intOf]; omega
    · obtain rfl : k = l.length := by omega
      rw [List.take_length] at j1
      have hb2 := HB.out.chg j2 (fun h => h)
      have e0 := hb2.cell 0
      have g0 := hb2.frozen 0
      simp only [List.getElem?_cons_zero] at e0
      have HB2 := hid hb2
      have J1 := hid j1
      have J2 := hid j2
      have J3 := hid j3
      clear hb2 j1 j2 j3
      go_wp2
      go_ret2
      refine ⟨a2, c2, G2, rfl, J1.out.set_far (p := ⟨p, 0, none⟩) (J1.out.ne_blk HB2.out (by decide)) _, ⟨none, 0, none, mb, HB2.out.set 0 _, Sl.empty _ _ _ _, ?_, H.out.fp, H.out.fm, (fun g h => by cases h), (by simp), H.out.pm, ?_⟩, ?_, ?_⟩
      · exact (HM.out.chg J2.out (fun h => h)).chg ((Chg.refl (One p) _).setCell (p := ⟨p, 0, none⟩) (.inl (show One p p from rfl)) _) (fun hh => H.out.pm hh)
      · intro k hk
        have h1 := H.out.lt k hk
        have h2 := J2.out.size
        have h3 := HSZ.out
        simp [World.setCell]
        omega
      · exact (HC.out.trans J2.out (fun _ _ h => h.elim)).setCell (p := ⟨p, 0, none⟩) (.inl H.out.fp) _
      · intro g hg
        have := J3.out g hg
        rw [HSZ.out] at this
        exact this
end Go.Proofs.Ytdelelpfombfbaa
