/- Contracts of a heap's Peek, Key, Turn and Len. Conditions: at most 1000 ids. -/
import Derived.Test.YthbkmjigplolgaaHeapFix
namespace Go.Proofs.Ythbkmjigplolgaa
open Go.ChangeShapes Go.WideShapes Go.ChangeAt Go.RowKit
set_option linter.unusedVariables false
theorem zeroIntO (w : World) : (zeroValue 3).run Try.prog w = .ok (.int .i64 0) w := by kernel_rfl
theorem hlen_ok (w : World) (F : Nat → Prop) (p : Nat) (l : List HE) (h : HpAt w F p l) :
    Calls Try.prog 31 #[.pointer (some ⟨p, 0, none⟩)] w fun e w' => e = .returned (.int .i64 l.length) ∧ w = w' := by
  obtain ⟨a, c, d0⟩ := h.ids
  clear h
  go_enter Try.func31, Try.ntmps31
  go_wp2
  go_ret
  exact ⟨rfl, rfl⟩
theorem peek_none (w : World) (F : Nat → Prop) (p : Nat) (h : HpAt w F p []) :
    Calls Try.prog 28 #[.pointer (some ⟨p, 0, none⟩)] w fun e w' => e = .returned (.tuple #[.int .i64 0, .int .i64 0, .int .i64 4]) ∧ w = w' := by
  obtain ⟨a, c, d0⟩ := h.ids
  clear h
  simp only [List.length_nil] at d0
  go_enter Try.func28, Try.ntmps28
  go_wp2
  go_ret3
  exact ⟨rfl, rfl⟩
theorem peek_ok (w : World) (F : Nat → Prop) (p : Nat) (l : List HE) (h : HpAt w F p l) (hl : 0 < l.length) :
    Calls Try.prog 28 #[.pointer (some ⟨p, 0, none⟩)] w fun e w' => e = .returned (.tuple #[.int .i64 l[0].id, .int .i64 l[0].key, .int .i64 0]) ∧ ∃ n, w' = w.drewN n := by
  obtain ⟨a1, c1, G1, a2, c2, G2, m, h⟩ := h
  have d0 := h.e0
  have d1 := h.e1
  obtain ⟨g1, o1, rfl, _, _, q1⟩ := h.si.rd.at (i := 0) (by simpa using hl)
  obtain ⟨g2, o2, rfl, _, _, q2⟩ := h.sk.rd.at (i := 0) (by simpa using hl)
  have x1 := q1 0 (by simpa using hl)
  have x2 := q2 0 (by simpa using hl)
  simp only [List.getElem_map, Nat.add_zero] at x1 x2
  have hb : ((l.length : Int) == 0) = false := by rw [beq_eq_false_iff_ne]; omega
  have hl2 : (0 : Int) < l.length := by omega
  clear h q1 q2
  go_enter Try.func28, Try.ntmps28
  go_wp2
  go_quiet (fail)
  go_wp2
  go_ret3
  exact ⟨rfl, _, rfl⟩
theorem key_none (w : World) (F : Nat → Prop) (p : Nat) (l : List HE) (t : Int) (h : HpAt w F p l) (ht : t ∉ l.map HE.id) (w1 : -9223372036854775808 ≤ t) (w2 : t ≤ 9223372036854775807) :
    Calls Try.prog 33 #[.pointer (some ⟨p, 0, none⟩), .int .i64 t] w fun e w' => e = .returned (.tuple #[.int .i64 0, .int .i64 4]) ∧ w = w' := by
  obtain ⟨a1, c1, G1, a2, c2, G2, m, h⟩ := h
  have d2 := h.e2
  have lk := h.mp.look_ok Try.underlying3 Try.underlying36 (zeroIntO _) t (wf_key w1 w2)
  rw [posF_none ht] at lk
  simp only [Option.getD_none, Option.isSome_none] at lk
  clear h ht
  go_enter Try.func33, Try.ntmps33
  go_wp2
  go_ret2
  exact ⟨rfl, rfl⟩
theorem key_ok (w : World) (F : Nat → Prop) (p : Nat) (l : List HE) (i : Nat) (t : Int) (h : HpAt w F p l) (hi : i < l.length) (ht : l[i].id = t) :
    Calls Try.prog 33 #[.pointer (some ⟨p, 0, none⟩), .int .i64 t] w fun e w' => e = .returned (.tuple #[.int .i64 l[i].key, .int .i64 0]) ∧ w = w' := by
  obtain ⟨a1, c1, G1, a2, c2, G2, m, h⟩ := h
  have d1 := h.e1
  have d2 := h.e2
  have hwf := h.wf _ (List.getElem_mem hi)
  rw [ht] at hwf
  have lk := h.mp.look_ok Try.underlying3 Try.underlying36 (zeroIntO _) t (wf_key hwf.1 hwf.2)
  have hp := posF_at h.nd hi
  rw [ht] at hp
  rw [hp] at lk
  simp only [Option.getD_some, Option.isSome_some] at lk
  obtain ⟨g2, o2, rfl, _, _, q2⟩ := h.sk.rd.at (i := i) (by simpa using hi)
  have x2 := q2 i (by simpa using hi)
  simp only [List.getElem_map] at x2
  have hi2 : (i : Int) < l.length := by omega
  clear h ht hp hwf q2
  go_enter Try.func33, Try.ntmps33
  go_wp2
  go_ret2
  exact ⟨rfl, rfl⟩
theorem turn_none (w : World) (F : Nat → Prop) (p : Nat) (l : List HE) (t k : Int) (h : HpAt w F p l) (ht : t ∉ l.map HE.id) (w1 : -9223372036854775808 ≤ t) (w2 : t ≤ 9223372036854775807) :
    Calls Try.prog 29 #[.pointer (some ⟨p, 0, none⟩), .int .i64 t, .int .i64 k] w fun e w' => e = .returned (.int .i64 4) ∧ w = w' := by
  obtain ⟨a1, c1, G1, a2, c2, G2, m, h⟩ := h
  have d2 := h.e2
  have lk := h.mp.look_ok Try.underlying3 Try.underlying36 (zeroIntO _) t (wf_key w1 w2)
  rw [posF_none ht] at lk
  simp only [Option.getD_none, Option.isSome_none] at lk
  clear h ht
  go_enter Try.func29, Try.ntmps29
  go_wp2
  go_ret
  exact ⟨rfl, rfl⟩
theorem posF_turn (l : List HE) (i : Nat) (k : Int) (x : HE) (hx : l[i]? = some x) : posF (l.set i ⟨x.id, k⟩) = posF l := by
  funext t
  unfold posF
  congr 1
  have : (l.set i ⟨x.id, k⟩).map HE.id = l.map HE.id := by
    rw [List.map_set]
    refine set_same _ _ _ ?_
    rw [List.getElem?_map, hx]; rfl
  have e1 : ∀ (m : List HE), m.findIdx? (fun x => x.id == t) = (m.map HE.id).findIdx? (fun y => y == t) := fun m => by rw [List.findIdx?_map]; rfl
  rw [e1, e1, this]
set_option maxRecDepth 100000 in
theorem turn_ok (w : World) (F : Nat → Prop) (p : Nat) (l : List HE) (i : Nat) (t k : Int) (h : HpAt w F p l) (hl : l.length ≤ 1000) (hI : HeapI l) (hi : i < l.length) (ht : l[i].id = t) :
    Calls Try.prog 29 #[.pointer (some ⟨p, 0, none⟩), .int .i64 t, .int .i64 k] w fun e w' => e = .returned (.int .i64 0) ∧ ∃ l', HpAt w' F p l' ∧ l'.Perm (l.set i ⟨t, k⟩) ∧ HeapI l' ∧ Chg F w w' := by
  obtain ⟨a1, c1, G1, a2, c2, G2, m, h⟩ := h
  have d1 := h.e1
  have d2 := h.e2
  have hwf := h.wf _ (List.getElem_mem hi)
  rw [ht] at hwf
  have lk := h.mp.look_ok Try.underlying3 Try.underlying36 (zeroIntO _) t (wf_key hwf.1 hwf.2)
  have hp := posF_at h.nd hi
  rw [ht] at hp
  rw [hp] at lk
  simp only [Option.getD_some, Option.isSome_some] at lk
  obtain ⟨g2, o2, rfl, rfl, _⟩ := h.sk.block (by omega)
  obtain ⟨_, _, e9, _, _, q2⟩ := h.sk.rd.at (i := i) (by simpa using hi)
  injection e9 with e9
  injection e9 with e9 e9'
  subst e9; subst e9'
  have x2 := q2 i (by simpa using hi)
  simp only [List.getElem_map] at x2
  have f2 := h.sk.unfrozen (i := i) (by omega)
  have hi2 : (i : Int) < l.length := by omega
  have hids : (l.set i ⟨t, k⟩).map HE.id = l.map HE.id := by
    rw [List.map_set]
    refine set_same _ _ _ ?_
    rw [List.getElem?_map, List.getElem?_eq_getElem hi, ← ht]; rfl
  have hset : Chg (One g2) w (w.setCell ⟨g2, o2 + i, none⟩ (.int .i64 k)) := (Chg.refl (One g2) w).setCell (p := ⟨g2, o2 + i, none⟩) (.inl (show One g2 g2 from rfl)) _
  have H2 : HpA (w.setCell ⟨g2, o2 + i, none⟩ (.int .i64 k)) F p (l.set i ⟨t, k⟩) a1 c1 G1 (some ⟨g2, o2, none⟩) c2 (some g2) m := by
    have hk := h.sk.put (i := i) (by omega) (.int .i64 k)
    rw [ints_put] at hk
    have hk2 : (l.map HE.key).set i k = (l.set i ⟨t, k⟩).map HE.key := by rw [List.map_set]
    rw [hk2] at hk
    have hlen : (l.set i ⟨t, k⟩).length = l.length := List.length_set
    have hpf : posF (l.set i ⟨t, k⟩) = posF l := by
      have := posF_turn l i k l[i] (List.getElem?_eq_getElem hi)
      rw [ht] at this
      exact this
    refine ⟨by rw [hlen]; exact h.blk.chg hset (fun hh => h.ne2 (by rw [show p = g2 from hh])), ?_, by rw [hlen]; exact hk, by rw [hlen, hpf]; exact h.mp.chg hset (fun hh => h.nkm (by rw [show m = g2 from hh])), h.fp, h.fm, h.fi, h.fk, h.nik, h.nim, h.nkm, h.pm, by rw [hids]; exact h.nd, fun z hz => ?_, fun k hk => Nat.lt_of_lt_of_le (h.lt k hk) hset.size⟩
    · rw [hlen, hids]
      exact h.si.chg hset (fun g hg hh => h.nik g hg (by rw [show g = g2 from hh]))
    · have : z.id ∈ (l.set i ⟨t, k⟩).map HE.id := List.mem_map.2 ⟨z, hz, rfl⟩
      rw [hids] at this
      obtain ⟨y, hy, he⟩ := List.mem_map.1 this
      rw [← he]; exact h.wf y hy
  have hF := h.fk g2 rfl
  have HFX := hid (fix_ok _ F p (l.set i ⟨t, k⟩) ⟨_, _, _, _, _, _, _, H2⟩ (by rw [List.length_set]; exact hl) i (by rw [List.length_set]; exact hi) (hI.turn i _))
  replace hset := hid hset
  clear h ht hp hwf q2 H2 hids hI
  go_enter Try.func29, Try.ntmps29
  go_wp2_with (go_at_call 57; refine HFX.out.mono ?_; rintro e w1 ⟨rfl, l', y1, y2, y3, y4⟩; replace y1 := hid y1; replace y2 := hid y2; replace y3 := hid y3; replace y4 := hid y4)
  go_ret
  exact ⟨rfl, l', y1.out, y2.out, y3.out, (hset.out.mono (G := F) (fun j _ hj => by rw [show j = g2 from hj]; exact hF)).trans y4.out (fun _ _ h => h)⟩
end Go.Proofs.Ythbkmjigplolgaa
