/- Contracts of a heap's Peek, Key, Turn and Len. Conditions: at most 1000 ids. -/
import Derived.Test.YtnehdpjaioljcaaHeapFix
namespace Go.Proofs.Ytnehdpjaioljcaa
open Go.ChangeShapes Go.WideShapes Go.ChangeAt Go.RowKit
set_option linter.unusedVariables false
theorem zeroIntO (w : World) : (zeroValue 3).run Try.prog w = .ok (.int .i64 0) w := by kernel_rfl
theorem hlen_ok (w : World) (F : Nat → Prop) (p : Nat) (l : List HE) (h : HpAt w F p l) :
    Calls Try.prog 12 #[.pointer (some ⟨p, 0, none⟩)] w fun e w' => e = .returned (.int .i64 l.length) ∧ w = w' := by
  obtain ⟨a, c, d0⟩ := h.ids
  clear h
  go_enter Try.func12, Try.ntmps12
  go_wp2
  go_ret
  exact ⟨rfl, rfl⟩
theorem peek_none (w : World) (F : Nat → Prop) (p : Nat) (h : HpAt w F p []) :
    Calls Try.prog 14 #[.pointer (some ⟨p, 0, none⟩)] w fun e w' => e = .returned (.tuple #[.int .i64 0, .int .i64 0, .int .i64 4]) ∧ w = w' := by
  obtain ⟨a, c, d0⟩ := h.ids
  clear h
  simp only [List.length_nil] at d0
  go_enter Try.func14, Try.ntmps14
  go_wp2
  go_ret3
  exact ⟨rfl, rfl⟩
theorem peek_ok (w : World) (F : Nat → Prop) (p : Nat) (l : List HE) (h : HpAt w F p l) (hl : 0 < l.length) :
    Calls Try.prog 14 #[.pointer (some ⟨p, 0, none⟩)] w fun e w' => e = .returned (.tuple #[.int .i64 l[0].id, .int .i64 l[0].key, .int .i64 0]) ∧ ∃ n, w' = w.drewN n := by
  obtain ⟨a1, c1, G1, a2, c2, G2, m, h⟩ := h
  have d0 := h.e0
  have d1 := h.e1
  obtain ⟨g1, o1, rfl, _, _, q1⟩ := h.si.rd.at (i := 0) (by simpa using hl)
  obtain ⟨g2, o2, rfl, _, _, q2⟩ := h.sk.rd.at (i := 0) (by simpa using hl)
  have x1 := q1 0 (by simpa using hl)
  have x2 := q2 0 (by simpa using hl)
  simp only [List.getElem_map, Nat.add_zero] at x1 x2
  have hb : ((l.length : Int) == 0) = false := by rw [beq_eq_false_iff_ne]; omega
  have hl2 : (0 : Int) < l.length := by omega
  clear h q1 q2
  go_enter Try.func14, Try.ntmps14
  go_wp2
  go_quiet (fail)
  go_wp2
  go_ret3
  exact ⟨rfl, _, rfl⟩
theorem key_none (w : World) (F : Nat → Prop) (p : Nat) (l : List HE) (t : Int) (h : HpAt w F p l) (ht : t ∉ l.map HE.id) (w1 : -9223372036854775808 ≤ t) (w2 : t ≤ 9223372036854775807) :
    Calls Try.prog 21 #[.pointer (some ⟨p, 0, none⟩), .int .i64 t] w fun e w' => e = .returned (.tuple #[.int .i64 0, .int .i64 4]) ∧ w = w' := by
  obtain ⟨a1, c1, G1, a2, c2, G2, m, h⟩ := h
  have d2 := h.e2
  have lk := h.mp.look_ok Try.underlying3 Try.underlying34 (zeroIntO _) t (wf_key w1 w2)
  rw [posF_none ht] at lk
  simp only [Option.getD_none, Option.isSome_none] at lk
  clear h ht
  go_enter Try.func21, Try.ntmps21
  go_wp2
  go_ret2
  exact ⟨rfl, rfl⟩
theorem key_ok (w : World) (F : Nat → Prop) (p : Nat) (l : List HE) (i : Nat) (t : Int) (h : HpAt w F p l) (hi : i < l.length) (ht : l[i].id = t) :
    Calls Try.prog 21 #[.pointer (some ⟨p, 0, none⟩), .int .i64 t] w fun e w' => e = .returned (.tuple #[.int .i64 l[i].key, .int .i64 0]) ∧ w = w' := by
  obtain ⟨a1, c1, G1, a2, c2, G2, m, h⟩ := h
  have d1 := h.e1
  have d2 := h.e2
  have hwf := h.wf _ (List.getElem_mem hi)
  rw [ht] at hwf
  have lk := h.mp.look_ok Try.underlying3 Try.underlying34 (zeroIntO _) t (wf_key hwf.1 hwf.2)
  have hp := posF_at h.nd hi
  rw [ht] at hp
  rw [hp] at lk
  simp only [Option.getD_some, Option.isSome_some] at lk
  obtain ⟨g2, o2, rfl, _, _, q2⟩ := h.sk.rd.at (i := i) (by simpa using hi)
  have x2 := q2 i (by simpa using hi)
  simp only [List.getElem_map] at x2
  have hi2 : (i : Int) < l.length := by omega
  clear h ht hp hwf q2
  go_enter Try.func21, Try.ntmps21
  go_wp2
  go_ret2
  exact ⟨rfl, rfl⟩
theorem posF_turn (l : List HE) (i : Nat) (k : Int) (x : HE) (hx : l[i]? = some x) : posF (l.set i ⟨x.id, k⟩) = posF l := by
  funext t
  unfold posF
  congr 1
  have : (l.set i ⟨x.id, k⟩).map HE.id = l.map HE.id := by
    rw [List.map_set]
    refine set_same _ _ _ ?_
    rw [List.getElem?_map, hx]; rfl
  have e1 : ∀ (m : List HE), m.findIdx? (fun x => x.id == t) = (m.map HE.id).findIdx? (fun y => y == t) := fun m => by rw [List.findIdx?_map]; rfl
  rw [e1, e1, this]
end Go.Proofs.Ytnehdpjaioljcaa
