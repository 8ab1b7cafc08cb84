/- boot.Make of a disk without files. Conditions: 64 to 256 sectors · Contracts of package space where no space has a page: Fork, Drop, Reclaim. Conditions: just that · Contracts of package open: Drop. Conditions: processes from 1 to 16. -/
import Derived.Test.YtjllklddjkkddaaGreatDoorZ17
import Derived.Test.YtjllklddjkkddaaGreatDoorZ13
import Derived.Test.YtjllklddjkkddaaGreatDoorZ20
import Derived.Test.YtjllklddjkkddaaGreatDoorZ05
namespace Go.Proofs.YtjllklddjkkddaaGreatDoor
open Go.ChangeShapes Go.WideShapes Go.ChangeAt Go.RowKit
set_option linter.unusedVariables false
set_option maxRecDepth 100000 in
set_option maxHeartbeats 1000000 in
theorem make_ok (w : World) (n : Nat) (h1 : 64 ≤ n) (h2 : n ≤ 256) :
    Calls Tryz.prog 11 #[.int .i64 (n : Int), .slice none 0 0] w fun e w' => ∃ F p zs, e = .returned (.tuple #[.pointer (some ⟨p, 0, none⟩), .int .i64 0]) ∧ DkAt w' F p n zs 0 ∧ NewZ n zs ∧ Chg Nil w w' ∧ Grew w.heap.size Nil F := by
  go_enter Tryz.func11, Tryz.ntmps11
  go_wp2_with fail
  refine (dknew_ok w n (by omega) h2).mono ?_
  rintro e w1 ⟨F1, p, rfl, d1, c1, g1⟩
  have HF := hid (format_ok w1 F1 p n 0 d1 h1 (by omega))
  replace c1 := hid c1
  replace g1 := hid g1
  clear d1
  go_wp2_with fail
  refine HF.out.mono ?_
  rintro e w2 ⟨rfl, F2, zs, d2, z2, c2, g2⟩
  have HM := hid (mount_ok w2 F2 p n zs 0 d2 h1 z2)
  have l2 := hid d2.lt
  have D2 := hid d2
  replace z2 := hid z2
  replace c2 := hid c2
  replace g2 := hid g2
  clear d2 HF
  go_wp2_with fail
  refine HM.out.mono ?_
  rintro e w3 ⟨f, q, a, c, G, bt, bh, rfl, n3, c3, hf, hq⟩
  have HS := hid (sync_0 w3 F2 f p q n zs 0 a c G bt bh (D2.out.nil c3) n3 (fun hh => by have := l2.out _ hh; omega) (fun hh => by have := l2.out _ hh; omega))
  replace c3 := hid c3
  replace hf := hid hf
  clear n3 HM D2 hq
  go_wp2
  go_loop [40] (fun i => i = .int .i64 0) (fun _ => 0)
  case atStart => rfl
  case round =>
    subst hrel
    go_wp2_with (go_at_call 26; refine HS.out.mono ?_; rintro e w4 ⟨rfl, d4, c4⟩; replace d4 := hid d4; replace c4 := hid c4)
    go_ret2
    have hF1 : ∀ k, F1 k → w.heap.size ≤ k := fun k hk => by
      rcases g1.out k hk with h | h
      · exact h.elim
      · exact h
    have hF2 : ∀ k, F2 k → w.heap.size ≤ k := fun k hk => by
      rcases g2.out k hk with h | h
      · exact hF1 k h
      · have := c1.out.size; omega
    refine ⟨F2, p, zs, rfl, d4.out, z2.out, ((c1.out.trans c2.out (fun k hk h => absurd (hF1 k h) (by omega))).trans c3.out (fun _ _ h => h)).trans c4.out (fun k hk h => ?_), fun k hk => .inr (hF2 k hk)⟩
    rcases h with h | h
    · exact absurd (hF2 k h) (by omega)
    · have h' : k = f := h
      have := hf.out
      have := c1.out.size
      have := c2.out.size
      omega
end Go.Proofs.YtjllklddjkkddaaGreatDoor
namespace Go.Proofs.YtjllklddjkkddaaGreatDoor
open Go.ChangeShapes Go.WideShapes Go.ChangeAt Go.RowKit
set_option linter.unusedVariables false
set_option maxRecDepth 100000 in
set_option maxHeartbeats 1000000 in
theorem spcfork_ok (w : World) (F : Nat → Prop) (p b n : Nat) (f : Int → Option Value) (h : SpA w F p b n f) (hn : n ≤ 1000) (s : Nat) (h1 : 1 ≤ s) (h2 : s ≤ 16) (hs : f (s : Int) = none) (hb : ∀ j : Nat, 1 ≤ j → j < s → f (j : Int) ≠ none) (o : Nat) (ho : o ≤ 16) (hf : f (o : Int) ≠ none) :
    Calls Tryz.prog 176 #[.pointer (some ⟨p, 0, none⟩), .int .i64 (o : Int)] w fun e w' => e = .returned (.tuple #[.int .i64 (s : Int), .int .i64 0]) ∧ ∃ g, SpA w' (Or2 F (One g)) p b (n + 1) (updM f (s : Int) (some (.map (some g)))) ∧ Chg F w w' ∧ w.heap.size ≤ g := by
  obtain ⟨v, hv⟩ := Option.ne_none_iff_exists'.1 hf
  obtain ⟨g0, rfl, hg0, hgb, hm0⟩ := h.inn _ _ hv
  have hne : (o : Int) ≠ (s : Int) := fun hh => by rw [hh, hs] at hv; cases hv
  have k4 := h.blk.cell 4
  simp only [List.getElem?_cons_succ, List.getElem?_cons_zero] at k4
  have L1 := h.map.look (t := 81) (z := .map none) u_int Tryz.underlying81 (by kernel_rfl) (o : Int) (wf_key (by omega) (by omega))
  rw [hv] at L1
  have L1' : (Instr.lookup 81 (.map (some b)) (.int .i64 (o : Int)) false).run Tryz.prog w = .ok (.map (some g0)) w := L1
  have HM := hid (spcmake_ok w F p b n f h hn s h1 h2 hs hb)
  have H := hid h
  have HV := hid hv
  have HG := hid hg0
  clear h L1 hf hs hb hgb hm0
  go_enter Tryz.func176, Tryz.ntmps176
  go_wp2_with (refine wpList_bin_run (map_eql (some g0) _ _ _) (by rfl) (by rfl) (by rfl) (by rfl) ?_)
  refine HM.out.mono ?_
  rintro e w2 ⟨rfl, g, A2, C2, hg⟩
  have k4' := A2.blk.cell 4
  simp only [List.getElem?_cons_succ, List.getElem?_cons_zero] at k4'
  have hu : updM f (s : Int) (some (.map (some g))) (o : Int) = some (.map (some g0)) := by
    unfold updM
    rw [if_neg hne, HV.out]
  obtain ⟨g0', r1, r2, r3, M2⟩ := A2.inn _ _ hu
  injection r1 with r1
  injection r1 with r1
  subst r1
  have L2 := A2.map.look (t := 81) (z := .map none) u_int Tryz.underlying81 (by kernel_rfl) (o : Int) (wf_key (by omega) (by omega))
  rw [hu] at L2
  have L2' : (Instr.lookup 81 (.map (some b)) (.int .i64 (o : Int)) false).run Tryz.prog w2 = .ok (.map (some g0)) w2 := L2
  replace M2 := hid M2
  replace A2 := hid A2
  replace C2 := hid C2
  replace hg := hid hg
  clear L2 hu r2 r3 L1' k4
  go_wp2_with (at_range; refine wpList_range_none _ rfl _ 185 rfl (k := 3) (e := 271) u_int Tryz.underlying185 g0 0 rfl M2.out ?_; intro w3 r1 r2; replace r1 := hid r1)
  go_frame
  go_loopw [8] (fun _ wr => wr = w3) (fun _ _ => 0)
  case atStart => rfl
  case round =>
    subst hrel
    go_wp2
    go_ret2
    exact ⟨rfl, g, A2.out.chg r1.out (fun _ _ h => h), C2.out.trans r1.out (fun _ _ h => h.elim), hg.out⟩
set_option maxRecDepth 100000 in
set_option maxHeartbeats 1000000 in
theorem spcdrop_ok (w : World) (F : Nat → Prop) (p b n : Nat) (f : Int → Option Value) (h : SpA w F p b n f) (o : Nat) (ho : o ≤ 16) (hf : f (o : Int) ≠ none) :
    Calls Tryz.prog 74 #[.pointer (some ⟨p, 0, none⟩), .int .i64 (o : Int)] w fun e w' => e = .returned (.int .i64 0) ∧ SpA w' F p b n (updM f (o : Int) none) ∧ Chg F w w' := by
  obtain ⟨v, hv⟩ := Option.ne_none_iff_exists'.1 hf
  obtain ⟨g0, rfl, hg0, hgb, hm0⟩ := h.inn _ _ hv
  have k4 := h.blk.cell 4
  simp only [List.getElem?_cons_succ, List.getElem?_cons_zero] at k4
  have L1 := h.map.look (t := 81) (z := .map none) u_int Tryz.underlying81 (by kernel_rfl) (o : Int) (wf_key (by omega) (by omega))
  rw [hv] at L1
  have L1' : (Instr.lookup 81 (.map (some b)) (.int .i64 (o : Int)) false).run Tryz.prog w = .ok (.map (some g0)) w := L1
  have H := hid h
  have HM := hid hm0
  clear h L1 hf hgb hm0
  go_enter Tryz.func74, Tryz.ntmps74
  go_wp2_with (first | (refine wpList_bin_run (map_eql (some g0) _ _ _) (by rfl) (by rfl) (by rfl) (by rfl) ?_) | (at_range; refine wpList_range_none _ rfl _ 185 rfl (k := 3) (e := 271) u_int Tryz.underlying185 g0 0 rfl HM.out ?_; intro w3 r1 r2; have k4' := (r1.cell (a := ⟨p, 4, none⟩) H.out.blk.lt (fun h => h)).trans k4; have M3 := hid (H.out.map.chg r1 (fun h => h)); replace r1 := hid r1))
  go_frame
  go_loopw [6] (fun _ wr => wr = w3) (fun _ _ => 0)
  case atStart => rfl
  case round =>
    subst hrel
    go_wp2_with (at_delete; refine wpList_drop _ rfl _ _ 81 3 rfl (e := 185) u_int Tryz.underlying81 b _ _ rfl M3.out (o : Int) rfl (wf_key (by omega) (by omega)) ?_; intro wd v1 v2; replace v1 := hid v1; replace v2 := hid v2)
    go_ret
    have A3 := H.out.chg r1.out (fun _ _ h => h)
    refine ⟨rfl, ⟨A3.blk.chg v2.out (fun hh => map_ne_blk A3.map A3.blk hh.symm), v1.out, fun i v hv => ?_, A3.fp, A3.fb, fun k hk => Nat.lt_of_lt_of_le (A3.lt k hk) v2.out.size⟩, ((r1.out.mono (fun _ _ h => h.elim)).trans v2.out (fun k _ hk => by rw [show k = b from hk]; exact H.out.fb))⟩
    unfold updM at hv
    split at hv
    · cases hv
    · obtain ⟨g, r1, r2, r3, r4⟩ := A3.inn i v hv
      exact ⟨g, r1, r2, r3, r4.chg v2.out (fun hh => r3 hh)⟩
theorem spchere_ok (w : World) (F : Nat → Prop) (p b n : Nat) (f : Int → Option Value) (h : SpA w F p b n f) :
    Calls Tryz.prog 19 #[.pointer (some ⟨p, 0, none⟩)] w fun e w' => e = .returned (.int .i64 0) ∧ w' = w := by
  have k3 := h.blk.cell 3
  simp only [List.getElem?_cons_succ, List.getElem?_cons_zero] at k3
  clear h
  go_enter Tryz.func19, Tryz.ntmps19
  go_wp2
  go_loop [3, 11] (fun s3 s11 => s3 = .int .i64 0 ∧ s11 = .int .i64 0) (fun _ _ => 0)
  case atStart => exact ⟨rfl, rfl⟩
  case round =>
    obtain ⟨rfl, rfl⟩ := hrel
    go_wp2
    go_ret
    exact ⟨rfl, rfl⟩
set_option maxRecDepth 100000 in
theorem spcreclaim_ok (w : World) (F : Nat → Prop) (p b n : Nat) (f : Int → Option Value) (h : SpA w F p b n f) (k : Int) :
    Calls Tryz.prog 7 #[.pointer (some ⟨p, 0, none⟩), .int .i64 k] w fun e w' => e = .returned (.int .i64 0) ∧ Chg Nil w w' := by
  have HH := hid (fun q => spchere_ok (w.drewN q) F p b n f (h.chg (H := Nil) ((Chg.refl Nil w).drewN q) (fun _ _ h => h)))
  have k3 := h.blk.cell 3
  have k1 := h.blk.cell 1
  simp only [List.getElem?_cons_succ, List.getElem?_cons_zero] at k3 k1
  clear h
  go_enter Tryz.func7, Tryz.ntmps7
  go_wp2
  go_loopw [5] (fun s5 wr => s5 = .int .i64 0 ∧ wr = w) (fun _ _ => 0)
  case atStart => exact ⟨rfl, rfl⟩
  case round =>
    obtain ⟨rfl, rfl⟩ := hrel
    by_cases hk : 0 < k
    · go_wp2
      go_quiet ((go_at_call 19; with_reducible exact Calls.quiet_of_same (HH.out _)))
      go_wp2
      go_ret
      exact ⟨rfl, (Chg.refl Nil wr).drewN nq⟩
    · have hk2 : (decide (0 < k)) = false := by simp; omega
      go_wp2
      go_quiet ((go_at_call 19; with_reducible exact Calls.quiet_of_same (HH.out _)))
      go_wp2
      go_ret
      exact ⟨rfl, (Chg.refl Nil wr).drewN nq⟩
end Go.Proofs.YtjllklddjkkddaaGreatDoor
namespace Go.Proofs.YtjllklddjkkddaaGreatDoor
open Go.ChangeShapes Go.WideShapes Go.ChangeAt Go.RowKit
set_option linter.unusedVariables false
theorem eTh : ETy Tryz.prog 195 169 5 40 := ⟨Tryz.underlying195, info_of (z := .agg (flL flZ).toArray) (by kernel_rfl) rfl, by decide⟩
theorem flL_len (x : Fl) : (flL x).length = 5 := rfl
set_option maxRecDepth 100000 in
set_option maxHeartbeats 1000000 in
theorem opfind_none (w : World) (p : Nat) (fl : Nat → Fl) (fd : Nat → Nat → Nat) (h : OpAt w p fl fd) (q : Nat) (hq1 : 1 ≤ q) (hq : q ≤ 16) (d : Nat) (hd : d < 8) (hf : fd q d = 0) :
    Calls Tryz.prog 157 #[.pointer (some ⟨p, 0, none⟩), .int .i64 (q : Int), .int .i64 (d : Int)] w fun e w' => e = .returned (.tuple #[.pointer none, .int .i64 4]) ∧ w = w' := by
  have k1 := h.fd (q := q) (d := d) (by omega) hd
  rw [hf] at k1
  have k2 : w.cell? ⟨p, 192 + q * 8 + d, none⟩ = some (.int .i64 0) := k1
  have HO := hid (fun w => owner_ok w q hq1 hq)
  have i1 : (d : Int) < 8 := by omega
  clear h k1 hf
  go_enter Tryz.func157, Tryz.ntmps157
  go_wp2_with (go_at_call 145; refine (HO.out _).mono ?_; rintro e w' ⟨rfl, rfl⟩)
  go_ret2
  exact ⟨rfl, rfl⟩
set_option maxRecDepth 100000 in
set_option maxHeartbeats 1000000 in
theorem opclose_none (w : World) (p : Nat) (fl : Nat → Fl) (fd : Nat → Nat → Nat) (h : OpAt w p fl fd) (q : Nat) (hq1 : 1 ≤ q) (hq : q ≤ 16) (d : Nat) (hd : d < 8) (hf : fd q d = 0) :
    Calls Tryz.prog 80 #[.pointer (some ⟨p, 0, none⟩), .int .i64 (q : Int), .int .i64 (d : Int)] w fun e w' => e = .returned (.tuple #[flA flZ, .bool false, .int .i64 4]) ∧ Chg Nil w w' := by
  have B0 := Blk.new w 169 (flL flZ)
  have C0 := hid ((Chg.refl Nil w).alloc (.cells (flL flZ).toArray 169))
  have HF := hid (opfind_none _ p fl fd (h.chg C0.out (fun h => h)) q hq1 hq d hd hf)
  obtain ⟨S1, S2, S3⟩ := store_part (P := Tryz.prog) (ty := 169) (lo := 0) (vs := flL flZ) B0 (by simp [flL]) (by kernel_rfl) (flL_one _)
  rw [over_whole (by simp [flL])] at S2
  have C2 := hid (C0.out.one (.inr (Nat.le_refl _)) S3)
  clear h B0 S3
  go_enter Tryz.func80, Tryz.ntmps80
  go_wp2_with (first | (go_at_call 157; refine HF.out.mono ?_; rintro e w' ⟨rfl, rfl⟩) | (refine wpList_store_run S1 (by rfl) (by rfl) (by rfl) (by rfl) ?_))
  refine bodyPost_ret (results_blk3 rfl S2 rfl Tryz.underlying169 rfl (by kernel_rfl)) rfl ?_
  exact ⟨rfl, C2.out⟩
/-- What is left when the first j descriptors have been closed, and what went with them. -/
def dropM (fl : Nat → Fl) (fd : Nat → Nat → Nat) (q : Nat) : Nat → (Nat → Fl) × (Nat → Nat → Nat) × List Fl
  | 0 => (fl, fd, [])
  | j + 1 =>
    if fd q j = 0 then dropM fl fd q j
    else (updF (dropM fl fd q j).1 (fd q j - 1) { (dropM fl fd q j).1 (fd q j - 1) with n := wrap64 (((dropM fl fd q j).1 (fd q j - 1)).n - 1) }, updD (dropM fl fd q j).2.1 q j 0, if wrap64 (((dropM fl fd q j).1 (fd q j - 1)).n - 1) = 0 then (dropM fl fd q j).2.2 ++ [(dropM fl fd q j).1 (fd q j - 1)] else (dropM fl fd q j).2.2)
theorem dropM_fd (fl : Nat → Fl) (fd : Nat → Nat → Nat) (q : Nat) : ∀ j i, j ≤ i → (dropM fl fd q j).2.1 q i = fd q i := by
  intro j
  induction j with
  | zero => intro i _; rfl
  | succ j ih =>
    intro i hi
    unfold dropM
    split
    · exact ih i (by omega)
    · show updD _ q j 0 q i = _
      unfold updD
      rw [if_neg (by omega)]
      exact ih i (by omega)
theorem dropM_len (fl : Nat → Fl) (fd : Nat → Nat → Nat) (q : Nat) : ∀ j, (dropM fl fd q j).2.2.length ≤ j := by
  intro j
  induction j with
  | zero => exact Nat.le_refl _
  | succ j ih =>
    unfold dropM
    split
    · omega
    · show (if _ then _ else _ : List Fl).length ≤ _
      split
      · rw [List.length_append]; simp; omega
      · omega
set_option maxRecDepth 100000 in
set_option maxHeartbeats 2000000 in
theorem opdrop_ok (w : World) (p : Nat) (fl : Nat → Fl) (fd : Nat → Nat → Nat) (h : OpAt w p fl fd) (q : Nat) (hq1 : 1 ≤ q) (hq : q ≤ 16) (hr : ∀ d, d < 8 → fd q d ≤ 32) :
    Calls Tryz.prog 72 #[.pointer (some ⟨p, 0, none⟩), .int .i64 (q : Int)] w fun e w' => ∃ a c G, e = .returned (.tuple #[.slice a (dropM fl fd q 8).2.2.length c, .int .i64 0]) ∧ OpAt w' p (dropM fl fd q 8).1 (dropM fl fd q 8).2.1 ∧ Sl w' 169 5 a (dropM fl fd q 8).2.2.length c ((dropM fl fd q 8).2.2.flatMap flL) G ∧ Chg (One p) w w' ∧ ∀ g, G = some g → w.heap.size ≤ g := by
  have HO := hid (fun w => owner_ok w q hq1 hq)
  have H := hid h
  have HR := hid hr
  have hlt := h.lt
  clear h hr
  go_enter Tryz.func72, Tryz.ntmps72
  go_wp2_with (go_at_call 145; refine (HO.out _).mono ?_; rintro e w' ⟨rfl, rfl⟩)
  go_loopw [6, 14] (fun s6 i wr => ∃ (j n : Nat) (a : Option Addr) (c : Nat) (G : Option Nat), j ≤ 8 ∧ n ≤ 8 ∧ s6 = .slice a n c ∧ i = .int .i64 j ∧ Hid (n = (dropM fl fd q j).2.2.length) ∧ Hid (OpAt wr p (dropM fl fd q j).1 (dropM fl fd q j).2.1) ∧ Hid (Sl wr 169 5 a n c ((dropM fl fd q j).2.2.flatMap flL) G) ∧ Hid (Chg (One p) w wr) ∧ Hid (∀ g, G = some g → w.heap.size ≤ g)) (fun _ i _ => 8 - (intOf i).toNat)
  case atStart => exact ⟨0, 0, none, 0, none, by omega, by omega, rfl, rfl, rfl, H.out, Sl.empty _ _ _ _, Chg.refl _ w, fun g hg => by cases hg⟩
  case round =>
    obtain ⟨j, n, a, c, G, hj, hn8, rfl, rfl, hn, hA, hS, hC, hG⟩ := hrel
    by_cases hlt2 : j < 8
    · have hfd := dropM_fd fl fd q j j (Nat.le_refl _)
      by_cases h0 : fd q j = 0
      · rw [h0] at hfd
        have HX := hid (opclose_none wr p _ _ hA.out q hq1 hq j hlt2 hfd)
        replace h0 := hid h0
        unfold flA at HX
        clear hfd
        go_wp2_with (go_at_call 80; refine HX.out.mono ?_; rintro e w2 ⟨rfl, c2⟩; replace c2 := hid c2)
        go_roundw
        case rel =>
          have e : dropM fl fd q (j + 1) = dropM fl fd q j := by
            conv => lhs; unfold dropM
            rw [if_pos h0.out]
          have cA := (c2.out.alloc (.cells (flL flZ).toArray 169)).mono (G := Nil) (fun _ _ h => h)
          refine ⟨j + 1, n, a, c, G, by omega, hn8, rfl, by go_num, by rw [e]; exact hn, by rw [e]; exact hA.out.chg cA (fun h => h), by rw [e]; exact hS.out.chg cA (fun _ _ h => h), hC.out.trans cA (fun _ _ h => h.elim), hG⟩
        case measure => simp [intOf]; omega
      · obtain ⟨k, hk⟩ : ∃ k, fd q j = k + 1 := ⟨fd q j - 1, by omega⟩
        have k32 : k < 32 := by have := HR.out j hlt2; omega
        have HX := hid (opclose_ok wr p _ _ hA.out q hq1 hq j hlt2 k k32 (by rw [hfd, hk]))
        obtain ⟨x, hx⟩ : ∃ x, x = (dropM fl fd q j).1 k := ⟨_, rfl⟩
        obtain ⟨m, hm⟩ : ∃ m, m = wrap64 (x.n - 1) := ⟨_, rfl⟩
        rw [← hx, ← hm] at HX
        unfold flA at HX
        have e : dropM fl fd q (j + 1) = (updF (dropM fl fd q j).1 k { x with n := m }, updD (dropM fl fd q j).2.1 q j 0, if m = 0 then (dropM fl fd q j).2.2 ++ [x] else (dropM fl fd q j).2.2) := by
          conv => lhs; unfold dropM
          rw [if_neg h0, hk, Nat.add_sub_cancel, ← hx, ← hm]
        have hpG : ∀ g, G = some g → g ≠ p := fun g hg hh => by have := hG.out g hg; omega
        replace e := hid e
        replace hpG := hid hpG
        replace hk := hid hk
        replace hx := hid hx
        replace hm := hid hm
        clear hfd h0
        by_cases hm0 : m = 0
        · subst hm0
          have e0 : dropM fl fd q (j + 1) = (updF (dropM fl fd q j).1 k { x with n := 0 }, updD (dropM fl fd q j).2.1 q j 0, (dropM fl fd q j).2.2 ++ [x]) := by rw [e.out, if_pos rfl]
          replace e0 := hid e0
          go_wp2_with (first | (go_at_call 80; refine HX.out.mono ?_; rintro e2 w2 ⟨rfl, a2, c2⟩; have c3 := hid ((c2.alloc (.cells (flL x).toArray 169)).alloc (.cells (flL x).toArray 169)); have A3 := hid (a2.chg (((Chg.refl Nil w2).alloc (.cells (flL x).toArray 169)).alloc (.cells (flL x).toArray 169)) (fun h => h)); have S1 := hid (hS.out.chg c3.out (fun g hg hh => hpG.out g hg hh)); have N1 := hid (Rd.of_blk (n := 1) (s := 5) (Blk.new (w2.alloc (.cells (flL x).toArray 169)) 169 (flL x)) rfl (by decide)); rw [alloc_size] at N1; have w2s := hid c2.size; clear a2 c2) | (at_builtin; refine wpList_append_sl rfl _ _ eTh rfl rfl rfl S1.out N1.out (flL_one _) (by omega) (by omega) ?_; intro a' c' w4 G' y1 y2 y3; replace y1 := hid y1; replace y2 := hid y2; replace y3 := hid y3))
          go_roundw
          case rel =>
            refine ⟨j + 1, n + 1, a', c', G', by omega, by have := dropM_len fl fd q j; have := hn.out; omega, rfl, by go_num, ?_, ?_, ?_, (hC.out.trans c3.out (fun _ _ h => h)).trans y2.out (fun i hi hh => absurd (hG.out i hh) (by omega)), ?_⟩
            · rw [e0.out]
              refine hid ?_
              show n + 1 = ((dropM fl fd q j).2.2 ++ [x]).length
              rw [List.length_append, ← hn.out]
              rfl
            · rw [e0.out]
              exact A3.out.chg y2.out (fun hh => hpG.out p hh rfl)
            · rw [e0.out]
              show Hid (Sl _ _ 5 a' (n + 1) c' (((dropM fl fd q j).2.2 ++ [x]).flatMap flL) G')
              rw [List.flatMap_append]
              refine hid ?_
              have := y1.out
              simpa using this
            · intro g hg
              rcases y3.out with h3 | h3
              · exact hG.out g (by rw [← h3]; exact hg)
              · rw [hg] at h3
                injection h3 with h3
                have := hC.out.size
                have := w2s.out
                simp only [alloc_size] at h3
                omega
          case measure => simp [intOf]; omega
        · have hmb : (m == 0) = false := by rw [beq_eq_false_iff_ne]; exact hm0
          have e0 : dropM fl fd q (j + 1) = (updF (dropM fl fd q j).1 k { x with n := m }, updD (dropM fl fd q j).2.1 q j 0, (dropM fl fd q j).2.2) := by rw [e.out, if_neg hm0]
          replace e0 := hid e0
          replace hm0 := hid hm0
          go_wp2_with (go_at_call 80; refine HX.out.mono ?_; rintro e2 w2 ⟨rfl, a2, c2⟩; have c3 := hid (c2.alloc (.cells (flL x).toArray 169)); have A3 := hid (a2.chg ((Chg.refl Nil w2).alloc (.cells (flL x).toArray 169)) (fun h => h)); clear a2 c2)
          go_roundw
          case rel =>
            refine ⟨j + 1, n, a, c, G, by omega, hn8, rfl, by go_num, ?_, ?_, ?_, hC.out.trans c3.out (fun _ _ h => h), hG⟩
            · rw [e0.out]; exact hn
            · rw [e0.out]; exact A3
            · rw [e0.out]; exact hS.out.chg c3.out (fun g hg hh => hpG.out g hg hh)
          case measure => simp [intOf]; omega
    · obtain rfl : j = 8 := by omega
      go_wp2
      go_ret2
      refine ⟨a, c, G, ?_, hA.out, ?_, hC.out, hG.out⟩
      · rw [← hn.out]; rfl
      · rw [← hn.out]; exact hS.out
end Go.Proofs.YtjllklddjkkddaaGreatDoor
