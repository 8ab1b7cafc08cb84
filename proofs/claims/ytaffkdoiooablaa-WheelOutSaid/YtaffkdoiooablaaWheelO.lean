/- Contracts of package wheel: Out, and slices.Delete of one timer. Conditions: at most 1000 timers. -/
import Derived.Test.YtaffkdoiooablaaWheelM
namespace Go.Proofs.Ytaffkdoiooablaa
open Go.ChangeShapes Go.WideShapes Go.ChangeAt Go.RowKit
set_option linter.unusedVariables false
section
variable {P : Program}
theorem run_clear_s (w : World) (t e ty : TypeId) (z : Value) (ht : P.underlying t = some (.slice e)) (hv : ∀ w, (zeroValue e).run P w = .ok z w) (b o n c : Nat) (hn : 0 < n) (vs : List Value) (hvs : (Builtin.zeroCells z.cells n).toList = vs)
    (hc : ∀ j, j < vs.length → (w.cell? ⟨b, o + j, none⟩).isSome = true) (hf : ∀ j, j < vs.length → w.frozen? ⟨b, o + j, none⟩ = false) (h1 : ∀ v ∈ vs, v.oneCell' = true) :
    (Builtin.clear_ #[t] ty #[.slice (some ⟨b, o, none⟩) n c]).run P w = .ok (.tuple #[]) (w.setCells b o vs) := by
  have hst := run_storeCells_cells (P := P) b o vs 0 w (by simpa using hc) (by simpa using hf) h1
  simp only [Nat.add_zero] at hst
  obtain ⟨m, rfl⟩ : ∃ m, n = m + 1 := ⟨n - 1, by omega⟩
  simp [Builtin.clear_, run_underlying ht, hv, hvs, hst]
theorem step_append_run {ops : Array Oper} {o : Oper} {a : Act} {w : World} {K : Act → World → Prop} {Q : Exit → Act → World → Prop} {E : Prop}
    (hg : o.guard = none) (d x : Operand) (dT sT : TypeId) (hop : o.op = Op.call { callee := Callee.builtin Builtin.append, args := #[d, x], argTypes := #[dT, sT] })
    (v u : Value) (hd : a.eval d = v) (hx : a.eval x = u) {v' : Value} {w' : World} (hr : (Builtin.append_ #[dT, sT] o.type #[v, u]).run P w = .ok v' w') (hK : K (a.put o.dst v') w') :
    if Region.wanted o (yielded ops a.tmps) = true then Oper.wp P o a w K Q else E := by
  have hw : Region.wanted o (yielded ops a.tmps) = true := by simp [Region.wanted, hg]
  rw [if_pos hw]
  exact Lib.wp_append_run w d x dT sT hop v u hd hx v' w' hr hK
end
/-- append where there is room. -/
theorem run_append_in {P : Program} {w : World} {t ty e : TypeId} {s bytes n m c d g off : Nat} {b : Option Addr} {xs news : List Value} {G : Option Nat} {R : Nat → Prop} (T : ETy P t e s bytes) (h : Sl w e s (some ⟨g, off, Option.none⟩) n c xs G) (hG : G = some g) (hs : Rd w R s b m d news) (h1 : ∀ u ∈ news, u.oneCell' = true) (hroom : n + m ≤ c) :
    ∃ w', (Builtin.append_ #[t, t] ty #[.slice (some ⟨g, off, Option.none⟩) n c, .slice b m d]).run P w = .ok (.slice (some ⟨g, off, Option.none⟩) (n + m) c) w' ∧ Sl w' e s (some ⟨g, off, Option.none⟩) (n + m) c (xs ++ news) G ∧ Chg (Opt G) w w' := by
  obtain ⟨i, z, hi, hz, hsz, hby, hzs⟩ := T.info
  have hsrc : Src P i.size t (.slice b m d) m news w := by rw [hsz]; exact hs.src T.under h1
  subst hsz
  obtain ⟨q1, q2, q3, ⟨hc0, hbad⟩ | ⟨g', off', cur, r1, r2, hg, hfit, hcur⟩⟩ := h
  · rw [hG] at hbad; cases hbad
  injection r1 with r1
  injection r1 with r1 r1'
  subst r1; subst r1'
  have hnl : news.length = m * i.size := hs.len
  have hsum : (n + m) * i.size = n * i.size + m * i.size := Nat.add_mul _ _ _
  have hle : (n + m) * i.size ≤ c * i.size := Nat.mul_le_mul_right _ hroom
  have hcell : ∀ j, j < news.length → (w.cell? ⟨g, off + n * i.size + j, Option.none⟩).isSome = true := by
    intro j hj
    rw [cell_in w hg, Array.getElem?_eq_getElem (by omega)]
    rfl
  have hfr : ∀ j, j < news.length → w.frozen? ⟨g, off + n * i.size + j, Option.none⟩ = false := by
    intro j hj
    simp [World.frozen?, hg]
  have hr := run_append_room_src (P := P) w t t ty e i T.under hi g off n c (.slice b m d) m news hsrc hroom hcell hfr
  obtain ⟨cur', c1, c2, c3, c4⟩ := set_row w hg news (off + n * i.size) (by omega)
  refine ⟨_, hr, ⟨hroom, q2, by simp only [List.length_append, q3, hnl]; omega, .inr ⟨g, off, cur', rfl, r2, c1, by omega, fun j hj => ?_⟩⟩, setCells_chg _ _ _ _ _ r2⟩
  by_cases hjn : j < n * i.size
  · rw [c3 _ (by omega), hcur j hjn, List.getElem?_append_left (by rw [q3]; exact hjn)]
  · have := c4 (j - n * i.size) (by omega)
    rw [List.getElem?_append_right (by rw [q3]; omega), q3, ← this]
    congr 1; omega
/-- What lies in the spare room of a slice does not count. -/
theorem Sl.spare {w : World} {e : TypeId} {s n c g off : Nat} {xs : List Value} (h : Sl w e s (some ⟨g, off, Option.none⟩) n c xs (some g)) (vs : List Value) (hv : n * s + vs.length ≤ c * s) :
    (Sl (w.setCells g (off + n * s) vs) e s (some ⟨g, off, Option.none⟩) n c xs (some g) ∧ Chg (One g) w (w.setCells g (off + n * s) vs)) ∧ (∀ j, j < vs.length → (w.cell? ⟨g, off + n * s + j, Option.none⟩).isSome = true) ∧ ∀ j, w.frozen? ⟨g, j, Option.none⟩ = false := by
  obtain ⟨h1, h2, h3, ⟨_, hbad⟩ | ⟨g', off', cur, r1, r2, r3, r4, r5⟩⟩ := h
  · cases hbad
  injection r1 with r1
  injection r1 with r1 r1'
  subst r1; subst r1'
  obtain ⟨cur', c1, c2, c3, c4⟩ := set_row w r3 vs (off + n * s) (by omega)
  refine ⟨⟨⟨h1, h2, h3, .inr ⟨g, off, cur', rfl, rfl, c1, by omega, fun j hj => ?_⟩⟩, setCells_chg _ _ _ _ (One g) rfl⟩, fun j hj => ?_, fun j => by simp [World.frozen?, r3]⟩
  · rw [c3 _ (by omega), r5 j hj]
  · rw [cell_in w r3, Array.getElem?_eq_getElem (by omega)]; rfl
theorem zeroTm (w : World) : (zeroValue 85).run Try.prog w = .ok (.agg #[.int .u32 0, .int .i64 0]) w := by kernel_rfl
/-- One goes out of a list. -/
def cutAt {α : Type} (l : List α) (i : Nat) : List α := l.take i ++ l.drop (i + 1)
theorem cutAt_flat (l : List Tm) (i : Nat) : (cutAt l i).flatMap tm = (l.flatMap tm).take (i * 2) ++ (l.flatMap tm).drop ((i + 1) * 2) := by
  rw [flat_take tm 2 tm_len, flat_drop tm 2 tm_len, cutAt, List.flatMap_append]
theorem cutAt_len {α : Type} (l : List α) (i : Nat) (h : i < l.length) : (cutAt l i).length = l.length - 1 := by simp [cutAt]; omega
set_option maxHeartbeats 2000000 in
set_option maxRecDepth 100000 in
theorem tdel (a : Option Addr) (c i : Nat) (l : List Tm) (G : Option Nat) (w : World) (h : Sl w 85 2 a l.length c (l.flatMap tm) G) (hn : l.length ≤ 4294967295) (hi : i < l.length) :
    Calls Try.prog 54 #[.slice a l.length c, .int .i64 (i : Int), .int .i64 ((i : Int) + 1)] w fun e w' => e = .returned (.slice a (l.length - 1) c) ∧ Sl w' 85 2 a (l.length - 1) c ((cutAt l i).flatMap tm) G ∧ Chg (Opt G) w w' := by
  obtain ⟨g, off, rfl, rfl, hgl⟩ := h.block (by omega)
  have hlc : l.length ≤ c := h.1
  have hcm : c ≤ 9223372036854775807 := h.2.1
  have hsl := run_from eTimer (some ⟨g, off, none⟩) l.length c (i + 1) ((i : Int) + 1) (by omega) (by omega)
  have hsrc := h.rd.drop_n (k := i + 1) (by omega)
  obtain ⟨w1, e1, s1, c1⟩ := run_append_in (P := Try.prog) (ty := 81) eTimer ((h.drewN 1).init (m := i) (by omega)) rfl (hsrc.drewN 1) (fun u hu => tm_one l u (List.mem_of_mem_drop hu)) (by omega)
  rw [← cutAt_flat] at s1
  have hln : i + (l.length - (i + 1)) = l.length - 1 := by omega
  rw [hln] at e1 s1
  obtain ⟨⟨s2, c2⟩, k1, k2⟩ := s1.spare [.int .u32 0, .int .i64 0] (by simp; omega)
  have hcl : ∀ ty dc, (Builtin.clear_ #[81] ty #[.slice (some ⟨g, off + (l.length - 1) * 2, none⟩) (l.length - (l.length - 1)) dc]).run Try.prog w1 = .ok (.tuple #[]) (w1.setCells g (off + (l.length - 1) * 2) [.int .u32 0, .int .i64 0]) := fun ty dc => by
    rw [show l.length - (l.length - 1) = 1 by omega]
    exact run_clear_s w1 _ _ ty _ eTimer.under zeroTm g _ 1 dc (by omega) _ (by kernel_rfl) k1 (fun j _ => k2 _) (fun v hv => by simp at hv; rcases hv with rfl | rfl <;> rfl)
  have HS := hid s2
  have HC := hid (((Chg.refl (Opt (some g)) w).drew.trans c1 (fun _ _ h => h)).trans c2 (fun k _ hk => by rw [show k = g from hk]; rfl))
  have hb1 : (i : Int) + 1 ≤ (l.length : Int) := by omega
  have hi0 : ((i : Int) == (i : Int) + 1) = false := by rw [beq_eq_false_iff_ne]; omega
  have hle : i ≤ l.length := by omega
  have hic : i ≤ c := by omega
  have hcl1 : ¬ (c = l.length - 1) := by omega
  have hp : ((l.length - 1 : Nat) : Int) = (l.length : Int) - 1 := by omega
  clear s1 s2 c1 c2 k1 k2 h hsrc
  go_enter Try.func54, Try.ntmps54
  go_wp2
  go_region_law (refine step_append_run rfl _ _ 81 81 rfl _ _ (by simp [Act.eval, Act.put]) (by simp [Act.eval, Act.put]) e1 ?_)
  all_goals
    go_wp2
    go_ret
    exact ⟨rfl, HS.out, HC.out⟩
theorem wout_none (w : World) (F : Nat → Prop) (p : Nat) (now : Int) (l : List Tm) (id : Int) (h : WhAt w F p now l) (hl : l.length ≤ 999) (hin : id ∉ idsT l) :
    Calls Try.prog 39 #[.pointer (some ⟨p, 0, none⟩), .int .i64 id] w fun e w' => e = .returned (.int .i64 4) ∧ Chg Nil w w' := by
  have hk : idxI (idsT l) id = -1 := idxI_none (fun j hj he => hin (by rw [← he]; exact List.getElem_mem hj))
  have HF := hid (wfind_ok w F p now l id h (by omega))
  rw [hk] at HF
  clear h hk hin
  go_enter Try.func39, Try.ntmps39
  go_wp2_with fail
  refine HF.out.mono ?_
  rintro e w1 ⟨rfl, c1⟩
  have C1 := hid c1
  clear c1
  go_wp2
  go_ret
  exact ⟨rfl, C1.out⟩
theorem wout_ok (w : World) (F : Nat → Prop) (p : Nat) (now : Int) (l : List Tm) (id : Int) (i : Nat) (h : WhAt w F p now l) (hl : l.length ≤ 999) (hi : i < l.length) (hix : idxI (idsT l) id = i) :
    Calls Try.prog 39 #[.pointer (some ⟨p, 0, none⟩), .int .i64 id] w (PWh F p now (cutAt l i) (.int .i64 0) w) := by
  have HF := hid (wfind_ok w F p now l id h (by omega))
  rw [hix] at HF
  obtain ⟨a, c, G, h⟩ := h
  have H := hid h
  clear h hix
  go_enter Try.func39, Try.ntmps39
  go_wp2_with fail
  refine HF.out.mono ?_
  rintro e w1 ⟨rfl, c1⟩
  have C1 := hid c1
  have HW := hid (H.out.nil c1)
  have hc1 := HW.out.c1
  have HD := hid (tdel a c i l G w1 HW.out.sl (by omega) hi)
  clear c1
  go_wp2_with fail
  refine HD.out.mono ?_
  rintro e w2 ⟨rfl, s2, c2⟩
  have hb := HW.out.blk.chg c2 HW.out.ne
  have k1 := hb.cell 1
  have k2 := hb.frozen 1
  simp only [List.getElem?_cons_succ, List.getElem?_cons_zero] at k1
  have s3 := s2
  rw [← cutAt_len l i hi] at s3
  have h6 := HW.out.lay c2 s3
  rw [cutAt_len l i hi] at h6
  have HP : Hid (PWh F p now (cutAt l i) (.int .i64 0) w (.returned (.int .i64 0)) (w2.setCell ⟨p, 1, none⟩ (.slice a (l.length - 1) c))) := hid ⟨_, rfl, ⟨_, _, _, h6⟩, (((C1.out.mono (G := F) (fun _ _ h => h.elim)).trans c2 (fun k _ hk => HW.out.fg k hk)).setCell (p := ⟨p, 1, none⟩) (.inl HW.out.fp) _), (by
    rintro k (hk | hk)
    · exact .inl hk
    · exact .inl (HW.out.fg k hk))⟩
  clear s2 s3 c2 h6 hb hc1
  go_wp2
  go_ret
  exact HP.out
/-- Of relative timers. -/
theorem rout_ok (w : World) (F : Nat → Prop) (p : Nat) (b : Int) (e : Nat) (l : List RT) (id : Int) (i : Nat) (h : WR w F p b e l) (hl : l.length ≤ 999) (hi : i < l.length) (hix : idxI (idsR l) id = i) :
    Calls Try.prog 39 #[.pointer (some ⟨p, 0, none⟩), .int .i64 id] w fun e' w' => ∃ F', e' = .returned (.int .i64 0) ∧ WR w' F' p b e (cutAt l i) ∧ Chg F w w' ∧ Grew w.heap.size F F' := by
  have := wout_ok w F p (nowOf b e) (rel b l) id i h (by rw [rel_len]; exact hl) (by rw [rel_len]; exact hi) (by rw [ids_rel]; exact hix)
  have e1 : cutAt (rel b l) i = rel b (cutAt l i) := by simp [cutAt, rel, List.map_take, List.map_drop]
  rw [e1] at this
  exact this
theorem rout_none (w : World) (F : Nat → Prop) (p : Nat) (b : Int) (e : Nat) (l : List RT) (id : Int) (h : WR w F p b e l) (hl : l.length ≤ 999) (hin : id ∉ idsR l) :
    Calls Try.prog 39 #[.pointer (some ⟨p, 0, none⟩), .int .i64 id] w fun e' w' => e' = .returned (.int .i64 4) ∧ Chg Nil w w' :=
  wout_none w F p _ (rel b l) id h (by rw [rel_len]; exact hl) (by rw [ids_rel]; exact hin)
theorem ids_ins (x : RT) (l : List RT) (h : (idsR l).Nodup) (hx : (x.id : Int) ∉ idsR l) : (idsR (insR x l)).Nodup := by
  have hp : (insR x l).Perm (x :: l) := by
    unfold insR
    rw [List.append_assoc, List.singleton_append]
    refine List.perm_middle.trans ?_
    rw [List.takeWhile_append_dropWhile]
  have hp2 : (idsR (insR x l)).Perm (idsR (x :: l)) := hp.map _
  rw [hp2.nodup_iff]
  exact List.nodup_cons.2 ⟨hx, h⟩
theorem bld_nodup (z : List Int) : ∀ n, (idsR (bld z n)).Nodup
  | 0 => List.nodup_nil
  | n + 1 => ids_ins _ _ (bld_nodup z n) (bld_new z n)
theorem keep_cut (l : List Int) (t : Int) (i : Nat) (hn : l.Nodup) (hi : i < l.length) (he : l[i] = t) : keepI t l = cutAt l i ∧ t ∉ cutAt l i := by
  have hs : l = l.take i ++ t :: l.drop (i + 1) := by
    conv => lhs; rw [← List.take_append_drop i l, List.drop_eq_getElem_cons hi, he]
  have hn2 := hn
  rw [hs] at hn2
  obtain ⟨n1, n2, n3⟩ := List.nodup_append.1 hn2
  have h1 : t ∉ l.take i := fun h => n3 t h t List.mem_cons_self rfl
  have h2 : t ∉ l.drop (i + 1) := (List.nodup_cons.1 n2).1
  refine ⟨?_, fun h => (List.mem_append.1 h).elim h1 h2⟩
  conv => lhs; rw [hs]
  show List.filter _ _ = _
  rw [List.filter_append, List.filter_cons_of_neg (by simp)]
  show keepI t (l.take i) ++ keepI t (l.drop (i + 1)) = _
  rw [keepI_all h1, keepI_all h2, cutAt]
theorem ids_cut (l : List RT) (i : Nat) : idsR (cutAt l i) = cutAt (idsR l) i := by simp [cutAt, idsR, List.map_take, List.map_drop]
end Go.Proofs.Ytaffkdoiooablaa
