/- Contract of a heap's Push. Conditions: fewer than 1000 ids. -/
import Derived.Test.YtnehdpjaioljcaaHeapFix
import Derived.Deep.CutBlock
namespace Go.Proofs.Ytnehdpjaioljcaa
open Go.ChangeShapes Go.WideShapes Go.ChangeAt Go.RowKit
set_option linter.unusedVariables false
theorem posF_push {l : List HE} (hn : (l.map HE.id).Nodup) {t k : Int} (ht : t ∉ l.map HE.id) : updM (posF l) t (some (.int .i64 (l.length : Int))) = posF (l ++ [⟨t, k⟩]) := by
  have hnd : ((l ++ [(⟨t, k⟩ : HE)]).map HE.id).Nodup := by
    rw [List.map_append]
    refine List.nodup_append.2 ⟨hn, by simp, fun x hx y hy => ?_⟩
    have : y = t := by simpa using hy
    rw [this]
    exact fun hh => ht (by rw [← hh]; exact hx)
  funext s
  unfold updM
  symm
  by_cases h : s = t
  · rw [if_pos h]
    exact (posF_some hnd).2 ⟨l.length, by simp, by simp [h], rfl⟩
  · rw [if_neg h]
    apply Option.ext
    intro v
    show posF (l ++ [⟨t, k⟩]) s = some v ↔ posF l s = some v
    rw [posF_some hnd, posF_some hn]
    constructor
    · rintro ⟨i, hi, h1, rfl⟩
      by_cases hil : i < l.length
      · rw [List.getElem_append_left hil] at h1
        exact ⟨i, hil, h1, rfl⟩
      · exfalso
        have : i = l.length := by simp at hi; omega
        subst this
        simp at h1
        exact h h1.symm
    · rintro ⟨i, hi, h1, rfl⟩
      exact ⟨i, by simp; omega, by rw [List.getElem_append_left hi]; exact h1, rfl⟩
theorem zeroIntH (w : World) : (zeroValue 3).run Try.prog w = .ok (.int .i64 0) w := by kernel_rfl
theorem eIntH : ETy Try.prog 22 3 1 8 := ⟨Try.underlying22, info_of (z := .int .i64 0) (by kernel_rfl) rfl, by decide⟩
/-- Behind both appends: one more id, one more key; the map as it was. -/
def PushMid (w : World) (F : Nat → Prop) (p : Nat) (l : List HE) (t k : Int) (m : Nat) (w' : World) : Prop :=
  ∃ a1 c1 G1 a2 c2 G2, Blk w' p 36 [.slice a1 (l.length + 1) c1, .slice a2 (l.length + 1) c2, .map (some m)] ∧ Sl w' 3 1 a1 (l.length + 1) c1 (ints .i64 (l.map HE.id ++ [t])) G1 ∧ Sl w' 3 1 a2 (l.length + 1) c2 (ints .i64 (l.map HE.key ++ [k])) G2 ∧
    MpAt w' Try.prog 3 m l.length (posF l) ∧ (∀ g, G1 = some g → F g ∨ w.heap.size ≤ g) ∧ (∀ g, G2 = some g → F g ∨ w.heap.size ≤ g) ∧ (∀ g, G1 = some g → G2 ≠ some g) ∧ G1 ≠ some m ∧ G2 ≠ some m ∧ Chg F w w'
theorem push_mid {w X w1 Y w2 : World} {F : Nat → Prop} {p : Nat} {l : List HE} {a1 : Option Addr} {c1 : Nat} {G1 : Option Nat} {a2 : Option Addr} {c2 : Nat} {G2 : Option Nat} {m : Nat} {t k : Int} {a1' a2' : Option Addr} {c1' c2' : Nat} {G1' G2' : Option Nat}
    (h : HpA w F p l a1 c1 G1 a2 c2 G2 m) (hX : Chg Nil w X) (q1 : Sl w1 3 1 a1' (l.length + 1) c1' (ints .i64 (l.map HE.id) ++ ints .i64 [t]) G1') (q2 : Chg (Opt G1) X w1) (q3 : G1' = G1 ∨ G1' = some X.heap.size)
    (hY : Chg Nil w1 Y) (r1 : Sl w2 3 1 a2' (l.length + 1) c2' (ints .i64 (l.map HE.key) ++ ints .i64 [k]) G2') (r2 : Chg (Opt G2) Y w2) (r3 : G2' = G2 ∨ G2' = some Y.heap.size) :
    PushMid w F p l t k m ((w2.setCell ⟨p, 0, none⟩ (.slice a1' (l.length + 1) c1')).setCell ⟨p, 1, none⟩ (.slice a2' (l.length + 1) c2')) := by
  have z1 := hX.size
  have z2 := q2.size
  have z3 := hY.size
  have z4 := r2.size
  have lt1 := q1.lt
  have o1 := h.si.lt
  have o2 := h.sk.lt
  have hm := h.mp.lt
  have hp := h.blk.lt
  have n12 : ∀ g, G1' = some g → G2' ≠ some g := by
    intro g hg hg2
    have := lt1 g hg
    rcases q3 with e | e <;> rcases r3 with f | f
    · rw [e] at hg; rw [f] at hg2; exact h.nik g hg hg2
    · rw [f] at hg2; injection hg2 with hg2; omega
    · rw [f] at hg2; have := o2 g hg2; rw [e] at hg; injection hg with hg; omega
    · rw [f] at hg2; injection hg2 with hg2; omega
  have b1 := (((h.blk.chg hX (fun h => h)).chg q2 (fun hh => h.ne1 hh)).chg hY (fun h => h)).chg r2 (fun hh => h.ne2 hh)
  have m1 := (((h.mp.chg hX (fun h => h)).chg q2 (fun hh => h.nim hh)).chg hY (fun h => h)).chg r2 (fun hh => h.nkm hh)
  have s1 := (q1.chg hY (fun _ _ h => h)).chg r2 (fun g hg hh => by
    have := lt1 g hg
    rcases q3 with e | e
    · rw [e] at hg; exact h.nik g hg hh
    · have := o2 g hh; rw [e] at hg; injection hg with hg; omega)
  have g1p : G1' ≠ some p := s1.ne_blk b1 (by decide)
  have g2p : G2' ≠ some p := r1.ne_blk b1 (by decide)
  have k1 : Chg (One p) w2 (w2.setCell ⟨p, 0, none⟩ (.slice a1' (l.length + 1) c1')) := (Chg.refl (One p) _).setCell (p := ⟨p, 0, none⟩) (.inl (show One p p from rfl)) _
  have k2 : Chg (One p) (w2.setCell ⟨p, 0, none⟩ (.slice a1' (l.length + 1) c1')) ((w2.setCell ⟨p, 0, none⟩ (.slice a1' (l.length + 1) c1')).setCell ⟨p, 1, none⟩ (.slice a2' (l.length + 1) c2')) := (Chg.refl (One p) _).setCell (p := ⟨p, 1, none⟩) (.inl (show One p p from rfl)) _
  have kk : Chg (One p) w2 _ := k1.trans k2 (fun _ _ h => h)
  have b2 := (b1.set 0 (.slice a1' (l.length + 1) c1')).set 1 (.slice a2' (l.length + 1) c2')
  refine ⟨a1', c1', G1', a2', c2', G2', b2, ?_, ?_, m1.chg kk (fun hh => h.pm hh), fun g hg => ?_, fun g hg => ?_, n12, fun hg => ?_, fun hg => ?_, ?_⟩
  · have := s1.chg kk (fun g hg hh => g1p (by rw [hg, show g = p from hh]))
    simpa [ints] using this
  · have := r1.chg kk (fun g hg hh => g2p (by rw [hg, show g = p from hh]))
    simpa [ints] using this
  · rcases q3 with e | e
    · rw [e] at hg; exact .inl (h.fi g hg)
    · rw [e] at hg; injection hg with hg; exact .inr (by omega)
  · rcases r3 with e | e
    · rw [e] at hg; exact .inl (h.fk g hg)
    · rw [e] at hg; injection hg with hg; exact .inr (by omega)
  · rcases q3 with e | e
    · rw [e] at hg; exact h.nim hg
    · rw [e] at hg; injection hg with hg; omega
  · rcases r3 with e | e
    · rw [e] at hg; exact h.nkm hg
    · rw [e] at hg; injection hg with hg; omega
  · refine ((((hX.mono (G := F) (fun _ _ h => h.elim)).trans q2 (fun i hi hh => h.fi i hh)).trans hY (fun _ _ h => h.elim)).trans r2 (fun i hi hh => h.fk i hh)).trans kk (fun i hi hh => ?_)
    rw [show i = p from hh]; exact h.fp
set_option maxRecDepth 100000 in
set_option maxHeartbeats 8000000 in
theorem push_ok (w : World) (F : Nat → Prop) (p : Nat) (l : List HE) (t k : Int) (h : HpAt w F p l) (hl : l.length < 1000) (hi : HeapI l) (ht : t ∉ l.map HE.id) (w1 : -9223372036854775808 ≤ t) (w2 : t ≤ 9223372036854775807) :
    Calls Try.prog 5 #[.pointer (some ⟨p, 0, none⟩), .int .i64 t, .int .i64 k] w fun e w' => e = .returned (.int .i64 0) ∧ ∃ F' l', HpAt w' F' p l' ∧ l'.Perm (l ++ [⟨t, k⟩]) ∧ HeapI l' ∧ Chg F w w' ∧ Grew w.heap.size F F' := by
  obtain ⟨a1, c1, G1, a2, c2, G2, m, h⟩ := h
  have d0 : w.drew.cell? ⟨p, 0, none⟩ = some (.slice a1 l.length c1) := h.e0
  have d1 : w.drew.cell? ⟨p, 1, none⟩ = some (.slice a2 l.length c2) := h.e1
  have d2 := h.e2
  have lk := h.mp.look_ok Try.underlying3 Try.underlying34 (zeroIntH _) t (wf_key w1 w2)
  rw [posF_none ht] at lk
  simp only [Option.getD_none, Option.isSome_none] at lk
  have H := hid h
  have HI := hid hi
  have HT := hid ht
  clear h hi ht
  have hl2 : l.length + 1 ≤ 4294967296 := by omega
  have h8 : 8 ≤ 4096 := by omega
  have HW : Hid (∀ X, Chg Nil w X → Sl X 3 1 a1 l.length c1 (ints .i64 (l.map HE.id)) G1 ∧ Sl X 3 1 a2 l.length c2 (ints .i64 (l.map HE.key)) G2 ∧ Blk X p 36 [.slice a1 l.length c1, .slice a2 l.length c2, .map (some m)]) :=
    hid (fun X hX => ⟨H.out.si.chg hX (fun _ _ h => h), H.out.sk.chg hX (fun _ _ h => h), H.out.blk.chg hX (fun h => h)⟩)
  have CX1 : Hid (Chg Nil w ((w.alloc (.cells #[.int .i64 t] 3)).alloc (.cells #[.int .i64 k] 3)).drew) := hid (((Chg.refl Nil w).alloc _).alloc _).drew
  have CX2 : Hid (Chg Nil w ((w.alloc (.cells #[.int .i64 k] 3)).alloc (.cells #[.int .i64 t] 3)).drew) := hid (((Chg.refl Nil w).alloc _).alloc _).drew
  have CX3 : Hid (Chg Nil w (w.alloc (.cells #[.int .i64 t] 3)).drew) := hid ((Chg.refl Nil w).alloc _).drew
  have NT1 := hid (((Rd.of_blk (n := 1) (s := 1) (Blk.new w 3 (ints .i64 [t])) rfl (by decide)).alloc (.cells #[.int .i64 k] 3)).drewN 1)
  have NT2 := (Rd.of_blk (n := 1) (s := 1) (Blk.new (w.alloc (.cells #[.int .i64 k] 3)) 3 (ints .i64 [t])) rfl (by decide)).drewN 1
  rw [show (w.alloc (.cells #[.int .i64 k] 3)).heap.size = w.heap.size + 1 by simp] at NT2
  replace NT2 := hid NT2
  have NT3 := hid ((Rd.of_blk (n := 1) (s := 1) (Blk.new w 3 (ints .i64 [t])) rfl (by decide)).drewN 1)
  have NK1 := (Rd.of_blk (n := 1) (s := 1) (Blk.new (w.alloc (.cells #[.int .i64 t] 3)) 3 (ints .i64 [k])) rfl (by decide)).drewN 1
  rw [show (w.alloc (.cells #[.int .i64 t] 3)).heap.size = w.heap.size + 1 by simp] at NK1
  replace NK1 := hid NK1
  have NK2 := hid (((Rd.of_blk (n := 1) (s := 1) (Blk.new w 3 (ints .i64 [k])) rfl (by decide)).alloc (.cells #[.int .i64 t] 3)).drewN 1)
  have BX := H.out.blk
  have dA : ∀ o, (w.alloc o).cell? ⟨p, 0, none⟩ = some (.slice a1 l.length c1) := fun o => (BX.alloc o).cell 0
  have dB : ∀ o, (w.alloc o).cell? ⟨p, 1, none⟩ = some (.slice a2 l.length c2) := fun o => (BX.alloc o).cell 1
  have dC : ∀ o o', ((w.alloc o).alloc o').cell? ⟨p, 0, none⟩ = some (.slice a1 l.length c1) := fun o o' => ((BX.alloc o).alloc o').cell 0
  have dD : ∀ o o', ((w.alloc o).alloc o').cell? ⟨p, 1, none⟩ = some (.slice a2 l.length c2) := fun o o' => ((BX.alloc o).alloc o').cell 1
  clear BX
  have NG : Hid (∀ B : Nat, w.heap.size ≤ B → ∀ X : Nat, ∀ g, g < X → One B g → ¬ Opt G1 g) := hid (fun B hB X g _ hg hh => by have := H.out.si.lt g hh; rw [show g = B from hg] at this; omega)
  go_enter Try.func5, Try.ntmps5
  go_upto_region 4 with fail
  go_cut [19] (fun _ wx => Hid (PushMid w F p l t k m wx))
  case first =>
    go_wp2
    go_region_law (first | (refine step_append_sl rfl _ _ eIntH rfl rfl rfl (HW.out _ CX1.out).1 NT1.out (ints_one _ _) hl2 h8 ?_; intro a1' c1' w3 G1' q1 q2 q3; have CX := CX1; replace q3 := hid q3; have BY := hid ((HW.out _ CX1.out).2.2.chg q2 (fun hh => H.out.ne1 hh)); have e1 : w3.cell? ⟨p, 1, none⟩ = some (.slice a2 l.length c2) := BY.out.cell 1; have SK := hid ((HW.out _ CX1.out).2.1.chg q2 (fun g hg hh => H.out.nik g hh hg)); have NK := hid (NK1.out.chg q2 (NG.out _ (by simp) _)); have CY := hid (Chg.refl Nil w3)) | (refine step_append_sl rfl _ _ eIntH rfl rfl rfl (HW.out _ CX2.out).1 NT2.out (ints_one _ _) hl2 h8 ?_; intro a1' c1' w3 G1' q1 q2 q3; have CX := CX2; replace q3 := hid q3; have BY := hid ((HW.out _ CX2.out).2.2.chg q2 (fun hh => H.out.ne1 hh)); have e1 : w3.cell? ⟨p, 1, none⟩ = some (.slice a2 l.length c2) := BY.out.cell 1; have SK := hid ((HW.out _ CX2.out).2.1.chg q2 (fun g hg hh => H.out.nik g hh hg)); have NK := hid (NK2.out.chg q2 (NG.out _ (by simp) _)); have CY := hid (Chg.refl Nil w3)) | (refine step_append_sl rfl _ _ eIntH rfl rfl rfl (HW.out _ CX3.out).1 NT3.out (ints_one _ _) hl2 h8 ?_; intro a1' c1' w3 G1' q1 q2 q3; have CX := CX3; replace q3 := hid q3; have BZ := (HW.out _ CX3.out).2.2.chg q2 (fun hh => H.out.ne1 hh); have e1 : w3.cell? ⟨p, 1, none⟩ = some (.slice a2 l.length c2) := BZ.cell 1; have e1' : (w3.alloc (.cells #[.int .i64 k] 3)).cell? ⟨p, 1, none⟩ = some (.slice a2 l.length c2) := (BZ.alloc _).cell 1; have BY := hid (BZ.alloc (.cells #[.int .i64 k] 3)); have SK := hid (((HW.out _ CX3.out).2.1.chg q2 (fun g hg hh => H.out.nik g hh hg)).alloc (.cells #[.int .i64 k] 3)); have NK := hid (Rd.of_blk (n := 1) (s := 1) (Blk.new w3 3 (ints .i64 [k])) rfl (by decide)); have CY := hid ((Chg.refl Nil w3).alloc (.cells #[.int .i64 k] 3))) | (refine step_append_sl rfl _ _ eIntH rfl rfl rfl SK.out NK.out (ints_one _ _) hl2 h8 ?_; intro a2' c2' w4 G2' r1 r2 r3; have B4 := BY.out.chg r2 (fun hh => H.out.ne2 hh); have e2 : w4.cell? ⟨p, 0, none⟩ = some (.slice a1 l.length c1) := B4.cell 0; have e3 : w4.cell? ⟨p, 1, none⟩ = some (.slice a2 l.length c2) := B4.cell 1; have e4 := B4.frozen 0; have e5 := B4.frozen 1; replace B4 := hid B4; replace r3 := hid r3))
    all_goals
      go_wp2
      go_meet
      exact push_mid H.out CX.out q1 q2 q3.out CY.out r1 r2 r3.out
  case rest =>
  obtain ⟨a1', c1', G1', a2', c2', G2', b1, s1, s2, m1, g1, g2, g12, g1m, g2m, ch⟩ := hcut.out
  clear lk d0 d1 d2 dA dB dC dD
  clear HW CX1 CX2 CX3 NT1 NT2 NT3 NK1 NK2 NG hcut
  have d0 : wc.cell? ⟨p, 0, none⟩ = some (.slice a1' (l.length + 1) c1') := b1.cell 0
  have d2 : wc.cell? ⟨p, 2, none⟩ = some (.map (some m)) := b1.cell 2
  obtain ⟨w5, hrun, m5, ch5⟩ := (m1.drewN 1).store (t := 34) Try.underlying3 Try.underlying34 (by omega) t (wf_key w1 w2) (.int .i64 (l.length : Int))
  have hrun2 : (Instr.mapUpdate 34 (.map (some m)) (.int .i64 t) (.int .i64 (l.length : Int))).run Try.prog wc.drew = .ok () w5 := hrun
  have hle : l.length ≤ 999 := by omega
  have H5 : HpAt w5 (Or2 F (Or2 (Opt G1') (Opt G2'))) p (l ++ [⟨t, k⟩]) := by
    have hlen : (l ++ [(⟨t, k⟩ : HE)]).length = l.length + 1 := by simp
    have hnd : ((l ++ [(⟨t, k⟩ : HE)]).map HE.id).Nodup := by
      rw [List.map_append]
      refine List.nodup_append.2 ⟨H.out.nd, by simp, fun x hx y hy => ?_⟩
      have : y = t := by simpa using hy
      rw [this]
      exact fun hh => HT.out (by rw [← hh]; exact hx)
    have hpf : updM (posF l) t (some (.int .i64 (l.length : Int))) = posF (l ++ [⟨t, k⟩]) := posF_push H.out.nd HT.out
    rw [hpf] at m5
    have m6 := m5.tight Try.underlying3 Try.underlying34 _ hnd (fun _ => posF_dom)
    rw [List.length_map] at m6
    have chw : Chg (One m) wc w5 := ((Chg.refl (One m) wc).drewN 1).trans ch5 (fun _ _ h => h)
    have hsz : w.heap.size ≤ w5.heap.size := Nat.le_trans ch.size chw.size
    refine ⟨a1', c1', G1', a2', c2', G2', m, by rw [hlen]; exact b1.chg chw (fun hh => H.out.pm (show p = m from hh).symm), ?_, ?_, m6, .inl H.out.fp, .inl H.out.fm, fun g hg => .inr (.inl hg), fun g hg => .inr (.inr hg), g12, g1m, g2m, H.out.pm, hnd, fun z hz => ?_, fun q hq => ?_⟩
    · have := s1.chg chw (fun g hg hh => g1m (by rw [hg, show g = m from hh]))
      rw [hlen]
      simpa using this
    · have := s2.chg chw (fun g hg hh => g2m (by rw [hg, show g = m from hh]))
      rw [hlen]
      simpa using this
    · rcases List.mem_append.1 hz with h1 | h1
      · exact H.out.wf z h1
      · have : z = ⟨t, k⟩ := by simpa using h1
        rw [this]; exact ⟨w1, w2⟩
    · rcases hq with h1 | h1 | h1
      · exact Nat.lt_of_lt_of_le (H.out.lt q h1) hsz
      · exact Nat.lt_of_lt_of_le (s1.lt q h1) chw.size
      · exact Nat.lt_of_lt_of_le (s2.lt q h1) chw.size
  have d5 : ∃ a c, w5.cell? ⟨p, 0, none⟩ = some (.slice a (l.length + 1) c) := by
    obtain ⟨a, c, hh⟩ := H5.ids
    rw [show (l ++ [(⟨t, k⟩ : HE)]).length = l.length + 1 by simp] at hh
    exact ⟨a, c, hh⟩
  obtain ⟨a9, c9, d9⟩ := d5
  have HF := hid (fix_ok w5 _ p _ H5 (by simp; omega) l.length (by simp) (HI.out.push ⟨t, k⟩))
  have HGR : Hid (Grew w.heap.size F (Or2 F (Or2 (Opt G1') (Opt G2')))) := hid (fun q hq => by
    rcases hq with h1 | h1 | h1
    · exact .inl h1
    · exact g1 q h1
    · exact g2 q h1)
  have HCH : Hid (Chg F w w5) := hid ((ch.drewN 1).trans ch5 (fun q _ hq => by rw [show q = m from hq]; exact H.out.fm))
  have HIF : Hid (∀ q, q < w.heap.size → Or2 F (Or2 (Opt G1') (Opt G2')) q → F q) := hid (fun q hq h => by
    rcases HGR.out q h with h1 | h1
    · exact h1
    · omega)
  clear m1 m5 ch5 hrun b1 s1 s2 g1 g2 g12 g1m g2m ch H5 HI HT H
  go_wp2
  go_region
  go_wp2_with (go_at_call 13; refine HF.out.mono ?_; rintro e w6 ⟨rfl, l', y1, y2, y3, y4⟩; replace y1 := hid y1; replace y2 := hid y2; replace y3 := hid y3; replace y4 := hid y4)
  go_ret
  exact ⟨rfl, _, l', y1.out, y2.out, y3.out, HCH.out.trans y4.out HIF.out, HGR.out⟩
theorem push_there (w : World) (F : Nat → Prop) (p : Nat) (l : List HE) (t k : Int) (h : HpAt w F p l) (ht : t ∈ l.map HE.id) (w1 : -9223372036854775808 ≤ t) (w2 : t ≤ 9223372036854775807) :
    Calls Try.prog 5 #[.pointer (some ⟨p, 0, none⟩), .int .i64 t, .int .i64 k] w fun e w' => e = .returned (.int .i64 5) ∧ w = w' := by
  obtain ⟨a1, c1, G1, a2, c2, G2, m, h⟩ := h
  have d2 := h.e2
  have lk := h.mp.look_ok Try.underlying3 Try.underlying34 (zeroIntH _) t (wf_key w1 w2)
  rw [posF_dom.1 ht] at lk
  clear h ht
  go_enter Try.func5, Try.ntmps5
  go_wp2
  go_ret
  exact ⟨rfl, rfl⟩
end Go.Proofs.Ytnehdpjaioljcaa
