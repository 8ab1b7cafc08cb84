/- Contracts of package span: told, Least. Conditions: a tree in memory. -/
import Derived.Test.YtnibhkeleogjcaaTree9
import Derived.Deep.LoopGhost
namespace Go.Proofs.Ytnibhkeleogjcaa
open Go.ChangeShapes Go.WideShapes Go.ChangeAt Go.RowKit
set_option linter.unusedVariables false
/-- A return of four results. -/
theorem ret_four {fn : Func} {t u v x : Tmp} (h : fn.results = #[.tmp t, .tmp u, .tmp v, .tmp x]) (tmps : Array Value) (P : Program) (w : World) :
    (results fn tmps).run P w = .ok (.tuple #[tmps.getD t undef, tmps.getD u undef, tmps.getD v undef, tmps.getD x undef]) w := by
  simp [results, h]
theorem told_none (w : World) : Calls Try.prog 26 #[.pointer none] w fun v w' => v = .returned (.tuple #[.int .i64 0, .int .i64 0, .int .i64 0, .int .i64 4]) ∧ w' = w := by
  go_enter Try.func26, Try.ntmps26
  go_wp2
  try simp only [Exit.inBlock, Exit.then]
  refine bodyPost_ret (ret_four rfl _ _ _) rfl ?_
  exact ⟨rfl, rfl⟩
theorem told_ok (w : World) (b : Nat) (e : TE) (pl pr : Value) (d n s : Int) (hb : Blk w b 49 (nodeC e pl pr d n s)) :
    Calls Try.prog 26 #[.pointer (some ⟨b, 0, none⟩)] w fun v w' => v = .returned (.tuple #[.int .i64 e.key, .int .i64 e.id, .int .i64 e.w, .int .i64 0]) ∧ ∃ q, w' = w.drewN q := by
  have c0 := hb.cell 0
  have c1 := hb.cell 1
  have c2 := hb.cell 2
  simp only [nodeC, List.getElem?_cons_succ, List.getElem?_cons_zero] at c0 c1 c2
  clear hb
  go_enter Try.func26, Try.ntmps26
  go_wp2
  go_quiet (fail)
  go_wp2
  try simp only [Exit.inBlock, Exit.then]
  refine bodyPost_ret (ret_four rfl _ _ _) rfl ?_
  exact ⟨rfl, _, rfl⟩
/-- What is told of a thing. -/
def tup : Option TE → Value
  | none => .tuple #[.int .i64 0, .int .i64 0, .int .i64 0, .int .i64 4]
  | some e => .tuple #[.int .i64 e.key, .int .i64 e.id, .int .i64 e.w, .int .i64 0]
theorem Tr.head_left {b : Nat} {x : TE} {l r : Tr} (h : l ≠ .nil) : (Tr.node b x l r).els.head? = l.els.head? := by
  cases l with
  | nil => exact absurd rfl h
  | node c y ll lr =>
    show ((Tr.node c y ll lr).els ++ x :: r.els).head? = _
    rw [List.head?_append]
    have : (Tr.node c y ll lr).els.head? ≠ none := by simp [Tr.els]
    cases hh : (Tr.node c y ll lr).els.head? with
    | none => exact absurd hh this
    | some z => rfl
theorem tleast_ok (w : World) (F : Nat → Prop) (p : Nat) (l : List TE) (h : SpAt w F p l) :
    Calls Try.prog 16 #[.pointer (some ⟨p, 0, none⟩)] w fun v w' => v = .returned (tup l.head?) ∧ ∃ q, w' = w.drewN q := by
  obtain ⟨t, h, rfl⟩ := h
  have c0 := h.blk.cell 0
  simp only [List.getElem?_cons_zero] at c0
  have T := hid h.tr
  obtain ⟨q0, hq0⟩ := t.ptr_is
  rw [hq0] at c0
  have Q0 := hid hq0
  clear h hq0
  go_enter Try.func16, Try.ntmps16
  go_wp2
  go_loopg [6] t.deep (fun g s6 wr => wr = w ∧ ∃ s : Tr, s6 = s.ptr ∧ g = s.deep ∧ Hid (TrAt w s) ∧ Hid (s.els.head? = t.els.head?))
  case atStart => exact ⟨rfl, t, Q0.out.symm, rfl, T, rfl⟩
  case round =>
    obtain ⟨rfl, s, rfl, rfl, S, HL⟩ := hrel
    cases s with
    | nil =>
      have hs : (Tr.nil).ptr = .pointer none := rfl
      rw [hs]
      clear hs
      go_wp2_with (go_at_call 26; refine (told_none _).mono ?_; rintro v w1 ⟨rfl, rfl⟩)
      try simp only [Exit.inBlock, Exit.then]
      refine bodyPost_ret (ret_four rfl _ _ _) rfl ?_
      rw [← HL.out]
      exact ⟨rfl, 0, rfl⟩
    | node b x l r =>
      have hs : (Tr.node b x l r).ptr = .pointer (some ⟨b, 0, none⟩) := rfl
      rw [hs]
      have c3 := S.out.1.cell 3
      simp only [nodeC, List.getElem?_cons_succ, List.getElem?_cons_zero] at c3
      cases l with
      | nil =>
        replace c3 : wr.cell? ⟨b, 3, none⟩ = some (.pointer none) := c3
        have TOLD := hid (told_ok wr b x _ _ _ _ _ S.out.1)
        clear hs
        go_wp2_with (go_at_call 26; refine TOLD.out.mono ?_; rintro v w1 ⟨rfl, q, rfl⟩)
        try simp only [Exit.inBlock, Exit.then]
        refine bodyPost_ret (ret_four rfl _ _ _) rfl ?_
        rw [← HL.out]
        exact ⟨rfl, q, rfl⟩
      | node bl xl ll lr =>
        have hl := S.out.2.1
        have hd : (Tr.node bl xl ll lr).deep < (Tr.node b x (Tr.node bl xl ll lr) r).deep := by simp only [Tr.deep]; omega
        replace c3 : wr.cell? ⟨b, 3, none⟩ = some (.pointer (some ⟨bl, 0, none⟩)) := c3
        have hn : (Tr.node bl xl ll lr).els.head? = t.els.head? := (Tr.head_left (b := b) (x := x) (r := r) (l := .node bl xl ll lr) (fun h => by cases h)).symm.trans HL.out
        replace hl := hid hl
        replace hd := hid hd
        replace hn := hid hn
        clear hs S HL
        go_wp2
        go_roundg (Tr.node bl xl ll lr).deep
        case measure => exact hd.out
        case rel => exact ⟨rfl, .node bl xl ll lr, rfl, rfl, hl, hn⟩
end Go.Proofs.Ytnibhkeleogjcaa
