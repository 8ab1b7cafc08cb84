/- Contracts of package span: find. Conditions: a tree in memory. -/
import Derived.Test.YtnibhkeleogjcaaTree6
import Derived.Deep.LoopGhost
namespace Go.Proofs.Ytnibhkeleogjcaa
open Go.ChangeShapes Go.WideShapes Go.ChangeAt Go.RowKit
set_option linter.unusedVariables false
/-- The thing at a place, and its block: as find goes. -/
def Tr.look (k i : Int) : Tr → Option (Nat × TE)
  | .nil => none
  | .node b x l r => if x.at k i then some (b, x) else if x.behind k i then l.look k i else r.look k i
def lookP : Option (Nat × TE) → Value
  | none => .pointer none
  | some (b, _) => .pointer (some ⟨b, 0, none⟩)
theorem Tr.look_none {k i : Int} {t : Tr} (ho : Srt t.els) (h : t.look k i = none) : ∀ z ∈ t.els, ¬ z.at k i := by
  induction t with
  | nil => intro z hz; cases hz
  | node b x l r ihl ihr =>
    obtain ⟨o1, o2, o3, o4⟩ := ho.mid
    unfold Tr.look at h
    split at h
    · cases h
    · rename_i h1
      split at h
      · rename_i h2
        intro z hz hz2
        simp only [Tr.els, List.mem_append, List.mem_cons] at hz
        rcases hz with hz | rfl | hz
        · exact ihl o1 h z hz hz2
        · exact h1 hz2
        · have := o4 z hz
          unfold TE.before TE.behind TE.at at *
          omega
      · rename_i h2
        intro z hz hz2
        simp only [Tr.els, List.mem_append, List.mem_cons] at hz
        rcases hz with hz | rfl | hz
        · have := o3 z hz
          unfold TE.before TE.behind TE.at at *
          omega
        · exact h1 hz2
        · exact ihr o2 h z hz hz2
theorem Tr.look_some {k i : Int} {w : World} {t : Tr} {b : Nat} {x : TE} (hm : TrAt w t) (h : t.look k i = some (b, x)) : x ∈ t.els ∧ x.at k i ∧ ∃ pl pr d n s, Blk w b 49 (nodeC x pl pr d n s) := by
  induction t with
  | nil => cases h
  | node c y l r ihl ihr =>
    obtain ⟨h1, h2, h3⟩ := hm
    unfold Tr.look at h
    split at h
    · rename_i ha
      cases h
      exact ⟨by simp [Tr.els], ha, _, _, _, _, _, h1⟩
    · split at h
      · obtain ⟨a1, a2, a3⟩ := ihl h2 h
        exact ⟨by simp [Tr.els, a1], a2, a3⟩
      · obtain ⟨a1, a2, a3⟩ := ihr h3 h
        exact ⟨by simp [Tr.els, a1], a2, a3⟩
theorem find_ok (w : World) (p : Nat) (t : Tr) (k i : Int) (hp : Blk w p 43 [t.ptr]) (ht : TrAt w t) :
    Calls Try.prog 20 #[.pointer (some ⟨p, 0, none⟩), .int .i64 k, .int .i64 i] w fun v w' => v = .returned (lookP (t.look k i)) ∧ w' = w := by
  have c0 := hp.cell 0
  simp only [List.getElem?_cons_zero] at c0
  have T := hid ht
  obtain ⟨q0, hq0⟩ := t.ptr_is
  rw [hq0] at c0
  have Q0 := hid hq0
  clear hp ht hq0
  go_enter Try.func20, Try.ntmps20
  go_wp2
  go_loopg [7] t.deep (fun g s7 wr => wr = w ∧ ∃ s : Tr, s7 = s.ptr ∧ g = s.deep ∧ Hid (TrAt w s) ∧ Hid (s.look k i = t.look k i))
  case atStart => exact ⟨rfl, t, Q0.out.symm, rfl, T, rfl⟩
  case round =>
    obtain ⟨rfl, s, rfl, rfl, S, HL⟩ := hrel
    cases s with
    | nil =>
      have hs : (Tr.nil).ptr = .pointer none := rfl
      rw [hs]
      clear hs
      go_wp2
      go_ret
      have := HL.out
      rw [← this]
      exact ⟨rfl, rfl⟩
    | node b x l r =>
      obtain ⟨hb, hl, hr⟩ := S.out
      have hs : (Tr.node b x l r).ptr = .pointer (some ⟨b, 0, none⟩) := rfl
      rw [hs]
      have SIDE := hid (side_ok wr b x l.ptr r.ptr _ _ _ hb k i)
      have c3 := hb.cell 3
      have c4 := hb.cell 4
      simp only [nodeC, List.getElem?_cons_succ, List.getElem?_cons_zero] at c3 c4
      replace hl := hid hl
      replace hr := hid hr
      clear hb hs S
      rcases x.three k i with hbe | hbe | hbe
      · have hside : 0 < sideI k i x := sideI_pos.2 hbe
        obtain ⟨c, hc⟩ : ∃ c, c = sideI k i x := ⟨_, rfl⟩
        rw [← hc] at SIDE hside
        have hside2 : ¬ c < 0 := by omega
        have hside3 : (c == 0) = false := by rw [beq_eq_false_iff_ne]; omega
        have hn : r.look k i = t.look k i := by
          rw [← HL.out]
          conv => rhs; unfold Tr.look
          rw [if_neg (fun h => by have := sideI_zero.2 h; omega), if_neg (fun h => by have := sideI_neg.2 h; omega)]
        replace hn := hid hn
        obtain ⟨q, hq⟩ := r.ptr_is
        rw [hq] at c4
        replace hq := hid hq
        clear hbe HL hc
        go_wp2_with (go_at_call 27; refine SIDE.out.mono ?_; rintro v w1 ⟨rfl, rfl⟩)
        go_roundg r.deep
        case measure => simp only [Tr.deep]; omega
        case rel => exact ⟨rfl, r, hq.out.symm, rfl, hr, hn⟩
      · have hside : sideI k i x = 0 := sideI_zero.2 hbe
        rw [hside] at SIDE
        have hn : t.look k i = some (b, x) := by
          rw [← HL.out]
          unfold Tr.look
          rw [if_pos hbe]
        replace hn := hid hn
        clear hbe HL hside
        go_wp2_with (go_at_call 27; refine SIDE.out.mono ?_; rintro v w1 ⟨rfl, rfl⟩)
        go_ret
        rw [hn.out]
        exact ⟨rfl, rfl⟩
      · have hside : sideI k i x < 0 := sideI_neg.2 hbe
        obtain ⟨c, hc⟩ : ∃ c, c = sideI k i x := ⟨_, rfl⟩
        rw [← hc] at SIDE hside
        have hside3 : (c == 0) = false := by rw [beq_eq_false_iff_ne]; omega
        have hn : l.look k i = t.look k i := by
          rw [← HL.out]
          conv => rhs; unfold Tr.look
          rw [if_neg (fun h => by have := sideI_zero.2 h; omega), if_pos hbe]
        replace hn := hid hn
        obtain ⟨q, hq⟩ := l.ptr_is
        rw [hq] at c3
        replace hq := hid hq
        clear hbe HL hc
        go_wp2_with (go_at_call 27; refine SIDE.out.mono ?_; rintro v w1 ⟨rfl, rfl⟩)
        go_roundg l.deep
        case measure => simp only [Tr.deep]; omega
        case rel => exact ⟨rfl, l, hq.out.symm, rfl, hl, hn⟩
end Go.Proofs.Ytnibhkeleogjcaa
