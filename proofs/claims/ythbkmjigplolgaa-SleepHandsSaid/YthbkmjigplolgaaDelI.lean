/- slices.Delete at []int: one goes out of a row. Condition: it is there. -/
import Derived.Test.YthbkmjigplolgaaSlices
import Derived.Test.YthbkmjigplolgaaMem2
import Derived.Test.YthbkmjigplolgaaDel
import Derived.Lib.SliceRun
import Derived.Deep.RegionLaw
namespace Go.Proofs.Ythbkmjigplolgaa
open Go.ChangeShapes Go.WideShapes Go.ChangeAt Go.RowKit
set_option linter.unusedVariables false
theorem setCells_chg (w : World) (g o : Nat) (vs : List Value) (F : Nat → Prop) (hF : F g) : Chg F w (w.setCells g o vs) :=
  ⟨World.os_setCells _ _ _ _, setCells_tape _ _ _ _, World.output_setCells _ _ _ _, by rw [setCells_size]; exact Nat.le_refl _, fun k hk hk2 => World.heap_setCells_other _ _ _ _ hk (fun hh => hk2 (by rw [hh]; exact hF))⟩
section
variable {P : Program}
theorem run_clear_s (w : World) (t e ty : TypeId) (z : Value) (ht : P.underlying t = some (.slice e)) (hv : ∀ w, (zeroValue e).run P w = .ok z w) (b o n c : Nat) (hn : 0 < n) (vs : List Value) (hvs : (Builtin.zeroCells z.cells n).toList = vs)
    (hc : ∀ j, j < vs.length → (w.cell? ⟨b, o + j, none⟩).isSome = true) (hf : ∀ j, j < vs.length → w.frozen? ⟨b, o + j, none⟩ = false) (h1 : ∀ v ∈ vs, v.oneCell' = true) :
    (Builtin.clear_ #[t] ty #[.slice (some ⟨b, o, none⟩) n c]).run P w = .ok (.tuple #[]) (w.setCells b o vs) := by
  have hst := run_storeCells_cells (P := P) b o vs 0 w (by simpa using hc) (by simpa using hf) h1
  simp only [Nat.add_zero] at hst
  obtain ⟨m, rfl⟩ : ∃ m, n = m + 1 := ⟨n - 1, by omega⟩
  simp [Builtin.clear_, run_underlying ht, hv, hvs, hst]
theorem step_append_run {ops : Array Oper} {o : Oper} {a : Act} {w : World} {K : Act → World → Prop} {Q : Exit → Act → World → Prop} {E : Prop}
    (hg : o.guard = none) (d x : Operand) (dT sT : TypeId) (hop : o.op = Op.call { callee := Callee.builtin Builtin.append, args := #[d, x], argTypes := #[dT, sT] })
    (v u : Value) (hd : a.eval d = v) (hx : a.eval x = u) {v' : Value} {w' : World} (hr : (Builtin.append_ #[dT, sT] o.type #[v, u]).run P w = .ok v' w') (hK : K (a.put o.dst v') w') :
    if Region.wanted o (yielded ops a.tmps) = true then Oper.wp P o a w K Q else E := by
  have hw : Region.wanted o (yielded ops a.tmps) = true := by simp [Region.wanted, hg]
  rw [if_pos hw]
  exact Lib.wp_append_run w d x dT sT hop v u hd hx v' w' hr hK
end
/-- append where there is room. -/
theorem run_append_in {P : Program} {w : World} {t ty e : TypeId} {s bytes n m c d g off : Nat} {b : Option Addr} {xs news : List Value} {G : Option Nat} {R : Nat → Prop} (T : ETy P t e s bytes) (h : Sl w e s (some ⟨g, off, Option.none⟩) n c xs G) (hG : G = some g) (hs : Rd w R s b m d news) (h1 : ∀ u ∈ news, u.oneCell' = true) (hroom : n + m ≤ c) :
    ∃ w', (Builtin.append_ #[t, t] ty #[.slice (some ⟨g, off, Option.none⟩) n c, .slice b m d]).run P w = .ok (.slice (some ⟨g, off, Option.none⟩) (n + m) c) w' ∧ Sl w' e s (some ⟨g, off, Option.none⟩) (n + m) c (xs ++ news) G ∧ Chg (Opt G) w w' := by
  obtain ⟨i, z, hi, hz, hsz, hby, hzs⟩ := T.info
  have hsrc : Src P i.size t (.slice b m d) m news w := by rw [hsz]; exact hs.src T.under h1
  subst hsz
  obtain ⟨q1, q2, q3, ⟨hc0, hbad⟩ | ⟨g', off', cur, r1, r2, hg, hfit, hcur⟩⟩ := h
  · rw [hG] at hbad; cases hbad
  injection r1 with r1
  injection r1 with r1 r1'
  subst r1; subst r1'
  have hnl : news.length = m * i.size := hs.len
  have hsum : (n + m) * i.size = n * i.size + m * i.size := Nat.add_mul _ _ _
  have hle : (n + m) * i.size ≤ c * i.size := Nat.mul_le_mul_right _ hroom
  have hcell : ∀ j, j < news.length → (w.cell? ⟨g, off + n * i.size + j, Option.none⟩).isSome = true := by
    intro j hj
    rw [cell_in w hg, Array.getElem?_eq_getElem (by omega)]
    rfl
  have hfr : ∀ j, j < news.length → w.frozen? ⟨g, off + n * i.size + j, Option.none⟩ = false := by
    intro j hj
    simp [World.frozen?, hg]
  have hr := run_append_room_src (P := P) w t t ty e i T.under hi g off n c (.slice b m d) m news hsrc hroom hcell hfr
  obtain ⟨cur', c1, c2, c3, c4⟩ := set_row w hg news (off + n * i.size) (by omega)
  refine ⟨_, hr, ⟨hroom, q2, by simp only [List.length_append, q3, hnl]; omega, .inr ⟨g, off, cur', rfl, r2, c1, by omega, fun j hj => ?_⟩⟩, setCells_chg _ _ _ _ _ r2⟩
  by_cases hjn : j < n * i.size
  · rw [c3 _ (by omega), hcur j hjn, List.getElem?_append_left (by rw [q3]; exact hjn)]
  · have := c4 (j - n * i.size) (by omega)
    rw [List.getElem?_append_right (by rw [q3]; omega), q3, ← this]
    congr 1; omega
/-- What lies in the spare room of a slice does not count. -/
theorem Sl.spare {w : World} {e : TypeId} {s n c g off : Nat} {xs : List Value} (h : Sl w e s (some ⟨g, off, Option.none⟩) n c xs (some g)) (vs : List Value) (hv : n * s + vs.length ≤ c * s) :
    (Sl (w.setCells g (off + n * s) vs) e s (some ⟨g, off, Option.none⟩) n c xs (some g) ∧ Chg (One g) w (w.setCells g (off + n * s) vs)) ∧ (∀ j, j < vs.length → (w.cell? ⟨g, off + n * s + j, Option.none⟩).isSome = true) ∧ ∀ j, w.frozen? ⟨g, j, Option.none⟩ = false := by
  obtain ⟨h1, h2, h3, ⟨_, hbad⟩ | ⟨g', off', cur, r1, r2, r3, r4, r5⟩⟩ := h
  · cases hbad
  injection r1 with r1
  injection r1 with r1 r1'
  subst r1; subst r1'
  obtain ⟨cur', c1, c2, c3, c4⟩ := set_row w r3 vs (off + n * s) (by omega)
  refine ⟨⟨⟨h1, h2, h3, .inr ⟨g, off, cur', rfl, rfl, c1, by omega, fun j hj => ?_⟩⟩, setCells_chg _ _ _ _ (One g) rfl⟩, fun j hj => ?_, fun j => by simp [World.frozen?, r3]⟩
  · rw [c3 _ (by omega), r5 j hj]
  · rw [cell_in w r3, Array.getElem?_eq_getElem (by omega)]; rfl
theorem eIntD : ETy Try.prog 22 3 1 8 := ⟨Try.underlying22, info_of (z := .int .i64 0) (by kernel_rfl) rfl, by decide⟩
theorem zeroIntD (w : World) : (zeroValue 3).run Try.prog w = .ok (.int .i64 0) w := by kernel_rfl
/-- One goes out of a list. -/
def cutI (l : List Int) (i : Nat) : List Int := l.take i ++ l.drop (i + 1)
theorem cutI_ints (l : List Int) (i : Nat) : ints .i64 (cutI l i) = (ints .i64 l).take (i * 1) ++ (ints .i64 l).drop ((i + 1) * 1) := by
  unfold ints cutI
  simp
theorem cutI_len (l : List Int) (i : Nat) (h : i < l.length) : (cutI l i).length = l.length - 1 := by simp [cutI]; omega
set_option maxHeartbeats 2000000 in
set_option maxRecDepth 100000 in
theorem idel (a : Option Addr) (c i : Nat) (l : List Int) (G : Option Nat) (w : World) (h : Sl w 3 1 a l.length c (ints .i64 l) G) (hn : l.length ≤ 4294967295) (hi : i < l.length) :
    Calls Try.prog 53 #[.slice a l.length c, .int .i64 (i : Int), .int .i64 ((i : Int) + 1)] w fun e w' => e = .returned (.slice a (l.length - 1) c) ∧ Sl w' 3 1 a (l.length - 1) c (ints .i64 (cutI l i)) G ∧ Chg (Opt G) w w' := by
  obtain ⟨g, off, rfl, rfl, hgl⟩ := h.block (by omega)
  have hlc : l.length ≤ c := h.1
  have hcm : c ≤ 9223372036854775807 := h.2.1
  have hsl := run_from eIntD (some ⟨g, off, none⟩) l.length c (i + 1) ((i : Int) + 1) (by omega) (by omega)
  have hsrc := h.rd.drop_n (k := i + 1) (by omega)
  obtain ⟨w1, e1, s1, c1⟩ := run_append_in (P := Try.prog) (ty := 22) eIntD ((h.drewN 1).init (m := i) (by omega)) rfl (hsrc.drewN 1) (fun u hu => ints_one .i64 l u (List.mem_of_mem_drop hu)) (by omega)
  rw [← cutI_ints] at s1
  have hln : i + (l.length - (i + 1)) = l.length - 1 := by omega
  rw [hln] at e1 s1
  obtain ⟨⟨s2, c2⟩, k1, k2⟩ := s1.spare [.int .i64 0] (by simp; omega)
  rw [Nat.mul_one] at s2 c2 k1
  have hcl : ∀ ty dc, (Builtin.clear_ #[22] ty #[.slice (some ⟨g, off + (l.length - 1), none⟩) (l.length - (l.length - 1)) dc]).run Try.prog w1 = .ok (.tuple #[]) (w1.setCells g (off + (l.length - 1)) [.int .i64 0]) := fun ty dc => by
    rw [show l.length - (l.length - 1) = 1 by omega]
    exact run_clear_s w1 _ _ ty _ eIntD.under zeroIntD g _ 1 dc (by omega) _ (by kernel_rfl) k1 (fun j _ => k2 _) (fun v hv => by simp at hv; subst hv; rfl)
  have HS := hid s2
  have HC := hid (((Chg.refl (Opt (some g)) w).drew.trans c1 (fun _ _ h => h)).trans c2 (fun k _ hk => by rw [show k = g from hk]; rfl))
  have hb1 : (i : Int) + 1 ≤ (l.length : Int) := by omega
  have hi0 : ((i : Int) == (i : Int) + 1) = false := by rw [beq_eq_false_iff_ne]; omega
  have hle : i ≤ l.length := by omega
  have hic : i ≤ c := by omega
  have hcl1 : ¬ (c = l.length - 1) := by omega
  have hp : ((l.length - 1 : Nat) : Int) = (l.length : Int) - 1 := by omega
  clear s1 s2 c1 c2 k1 k2 h hsrc
  go_enter Try.func53, Try.ntmps53
  go_wp2
  go_region_law (refine step_append_run rfl _ _ 22 22 rfl _ _ (by simp [Act.eval, Act.put]) (by simp [Act.eval, Act.put]) e1 ?_)
  all_goals
    go_wp2
    go_ret
    exact ⟨rfl, HS.out, HC.out⟩
end Go.Proofs.Ythbkmjigplolgaa
