/- Contracts of package spread: Tasks. Conditions: a run as it may be. -/
import Derived.Test.YtdelelpfombfbaaSprM
namespace Go.Proofs.Ytdelelpfombfbaa
open Go.ChangeShapes Go.WideShapes Go.ChangeAt Go.RowKit
set_option linter.unusedVariables false
/-- Whose numbers, of the first k, are there. -/
def tasK (s : SR) (k : Nat) : List Int := ((List.range k).filter (fun (i : Nat) => (fndI s.ts ((i : Int) + 1)).isSome)).map (fun (i : Nat) => (i : Int) + 1)
theorem tasK_yes {s : SR} {k i : Nat} (h : fndI s.ts ((k : Int) + 1) = some i) : tasK s (k + 1) = tasK s k ++ [(k : Int) + 1] := by
  unfold tasK
  rw [List.range_succ, List.filter_append, List.map_append]
  simp [h]
theorem tasK_no {s : SR} {k : Nat} (h : fndI s.ts ((k : Int) + 1) = none) : tasK s (k + 1) = tasK s k := by
  unfold tasK
  rw [List.range_succ, List.filter_append, List.map_append]
  simp [h]
theorem tasK_len (s : SR) (k : Nat) : (tasK s k).length ≤ k := by
  unfold tasK
  rw [List.length_map]
  exact Nat.le_trans (List.length_filter_le _ _) (by rw [List.length_range]; exact Nat.le_refl _)
/-- The row on the way. -/
def TasM (w0 : World) (s : SR) (k : Nat) (a : Option Addr) (n c : Nat) (w : World) : Prop := ∃ G, n = (tasK s k).length ∧ Sl w 3 1 a n c (ints .i64 (tasK s k)) G ∧ Chg Nil w0 w ∧ ∀ g, G = some g → w0.heap.size ≤ g
def PTas (s : SR) (w : World) (e : Ending) (w' : World) : Prop := ∃ a n c, e = .returned (.slice a n c) ∧ TasM w s 16 a n c w'
set_option maxHeartbeats 1000000 in
theorem stasks_ok (w : World) (F : Nat → Prop) (p : Nat) (s : SR) (h : RunAt w F p s) (M : Int) (hok : SOk M s) :
    Calls Try.prog 31 #[.pointer (some ⟨p, 0, none⟩)] w (PTas s w) := by
  obtain ⟨g, off, a, c, G, h⟩ := h
  have hl := hok.len
  have H := hid h
  clear h hok
  have I0 : Hid (TasM w s 0 none 0 0 w) := hid ⟨none, rfl, Sl.empty _ _ _ _, Chg.refl _ _, fun g hg => by cases hg⟩
  go_enter Try.func31, Try.ntmps31
  go_wp2
  go_loopw [3, 4] (fun s3 s4 wr => ∃ (k n : Nat) (a' : Option Addr) (c' : Nat), k ≤ 16 ∧ s4 = .int .i64 ((k : Int) + 1) ∧ s3 = .slice a' n c' ∧ Hid (TasM w s k a' n c' wr)) (fun _ s4 _ => 17 - (intOf s4).toNat)
  case atStart => exact ⟨0, 0, none, 0, by omega, rfl, rfl, I0⟩
  case round =>
    obtain ⟨k, n, a', c', hk, rfl, rfl, hJ⟩ := hrel
    clear I0
    obtain ⟨G', j1, j2, j3, j4⟩ := id hJ.out
    have ul := tasK_len s k
    by_cases hlt : k < 16
    · have FN := hid (sfind_ok wr F p s g off a c G (H.out.nil j3) hl ((k : Int) + 1))
      have i1 : (k : Int) + 1 ≤ 16 := by omega
      cases hf : fndI s.ts ((k : Int) + 1) with
      | none =>
        rw [hf] at FN
        have e := tasK_no hf
        have HZ : Hid (TasM w s (k + 1) a' n c' wr) := hid ⟨G', by rw [e]; exact j1, by rw [e]; exact j2, j3, j4⟩
        unfold elV at FN
        clear hf e j1 j2 j3 j4 hJ
        go_wp2_with fail
        refine FN.out.mono ?_
        rintro e w1 ⟨rfl, hw⟩
        subst hw
        go_wp2
        go_roundw
        case rel => exact ⟨k + 1, n, a', c', by omega, by go_num, rfl, HZ⟩
        case measure => simp [intOf]; omega
      | some i =>
        rw [hf] at FN
        have e := hid (tasK_yes hf)
        have HS := hid (j2.alloc (.cells #[.int .i64 ((k : Int) + 1)] 3))
        have HN := hid (Rd.of_blk (n := 1) (s := 1) (Blk.new wr 3 (ints .i64 [(k : Int) + 1])) rfl (by decide))
        have CW := hid ((Chg.refl Nil wr).alloc (.cells #[.int .i64 ((k : Int) + 1)] 3))
        have J1 := hid j1
        have J3 := hid j3
        have J4 := hid j4
        have hn1 : n + 1 ≤ 4294967296 := by omega
        have h8 : 8 ≤ 4096 := by omega
        unfold elV at FN
        clear hf j1 j2 j3 j4 hJ
        go_wp2_with fail
        refine FN.out.mono ?_
        rintro e w1 ⟨rfl, hw⟩
        subst hw
        go_wp2_with (at_builtin; refine wpList_append_sl rfl _ _ eInt rfl rfl rfl HS.out HN.out (ints_one _ _) hn1 h8 ?_; intro a2 c2 w2 G2 q1 q2 q3; replace q1 := hid q1; replace q2 := hid q2; replace q3 := hid q3)
        go_roundw
        case rel =>
          refine ⟨k + 1, n + 1, a2, c2, by omega, by go_num, rfl, G2, ?_, ?_, ?_, ?_⟩
          · rw [e.out, List.length_append, ← J1.out]; rfl
          · have h1 := q1.out
            rw [ints_append] at h1
            rw [e.out]
            exact h1
          · refine (J3.out.trans CW.out (fun _ _ h => h)).trans q2.out (fun i hi hG => ?_)
            have := J4.out i hG
            omega
          · intro g2 hg2
            rcases q3.out with h | h
            · rw [h] at hg2; exact J4.out g2 hg2
            · rw [h] at hg2
              injection hg2 with hg2
              have h1 := J3.out.size
              have h2 := CW.out.size
              omega
        case measure => simp [intOf]; omega
    · obtain rfl : k = 16 := by omega
      go_wp2
      go_ret
      exact ⟨a', n, c', rfl, hJ.out⟩
theorem rx_tasks {w0 w : World} {gs : List Nat} {p : Nat} {s : SR} {M : Int} (h : RunX w0 gs p s w) (hok : SOk M s) :
    Calls Try.prog 31 #[.pointer (some ⟨p, 0, none⟩)] w (PTas s w) := by
  obtain ⟨F, h1, _⟩ := h
  exact stasks_ok w F p s h1 M hok
end Go.Proofs.Ytdelelpfombfbaa
