/- fs.Sync of a new file system. Conditions: just that · boot.Make of a disk without files. Conditions: 64 to 256 sectors · Contracts of package space where no space has a page: Fork, Drop, Reclaim. Conditions: just that · Contracts of package open: Drop. Conditions: processes from 1 to 16 · Contracts of package pipe where there is one pipe. Conditions: just that. -/
import Derived.Test.YtdcbagmgflcemaaGreatDoorZ12
import Derived.Test.YtdcbagmgflcemaaGreatDoorZ13
import Derived.Test.YtdcbagmgflcemaaGreatDoorZ17
import Derived.Test.YtdcbagmgflcemaaGreatDoorZ05
import Derived.Test.YtdcbagmgflcemaaGreatDoorZ08
import Derived.Test.YtdcbagmgflcemaaGreatDoorZ14
namespace Go.Proofs.YtdcbagmgflcemaaGreatDoor
open Go.ChangeShapes Go.WideShapes Go.ChangeAt Go.RowKit
set_option linter.unusedVariables false
set_option maxRecDepth 100000 in
theorem len64_0 (w : World) : Calls Tryz.prog 285 #[.int .u64 0] w fun e w' => e = .returned (.int .i64 0) ∧ w' = w := by
  go_enter Tryz.func285, Tryz.ntmps285
  go_wp2
  go_ret
  exact ⟨by kernel_rfl, rfl⟩
set_option maxRecDepth 100000 in
theorem len_0 (w : World) : Calls Tryz.prog 217 #[.int .u64 0] w fun e w' => e = .returned (.int .i64 0) ∧ w' = w := by
  go_enter Tryz.func217, Tryz.ntmps217
  go_wp2_with (go_at_call 285; refine (len64_0 _).mono ?_; rintro e w' ⟨rfl, rfl⟩)
  go_ret
  exact ⟨rfl, rfl⟩
theorem insert_0 (w : World) (f : Value) : Calls Tryz.prog 276 #[.slice none 0 0, .int .i64 0, .int .i64 0, f] w fun e w' => e = .returned (.tuple #[]) ∧ w' = w := by
  go_enter Tryz.func276, Tryz.ntmps276
  go_wp2
  go_loop [8] (fun i => i = .int .i64 1) (fun _ => 0)
  case atStart => rfl
  case round =>
    subst hrel
    go_wp2
    go_end0
    exact ⟨rfl, rfl⟩
theorem pdq_0 (w : World) (f : Value) : Calls Tryz.prog 216 #[.slice none 0 0, .int .i64 0, .int .i64 0, .int .i64 0, f] w fun e w' => e = .returned (.tuple #[]) ∧ w' = w := by
  go_enter Tryz.func216, Tryz.ntmps216
  go_wp2
  go_loop [1, 2] (fun a b => a = .int .i64 0 ∧ b = .int .i64 0) (fun _ _ => 0)
  case atStart => exact ⟨rfl, rfl⟩
  case round =>
    obtain ⟨rfl, rfl⟩ := hrel
    go_wp2_with (go_at_call 276; refine (insert_0 _ _).mono ?_; rintro e w' ⟨rfl, rfl⟩)
    first | go_end0 | refine bodyPost_ret (results_none rfl _ _ _) rfl ?_
    exact ⟨rfl, rfl⟩
theorem sort_0 (w : World) (f : Value) : Calls Tryz.prog 138 #[.slice none 0 0, f] w fun e w' => e = .returned (.tuple #[]) ∧ w' = w := by
  go_enter Tryz.func138, Tryz.ntmps138
  go_wp2_with (first | (go_at_call 217; refine (len_0 _).mono ?_; rintro e w' ⟨rfl, rfl⟩) | (go_at_call 216; refine (pdq_0 _ _).mono ?_; rintro e w' ⟨rfl, rfl⟩))
  go_end0
  exact ⟨rfl, rfl⟩
theorem writes_0 (w : World) (f p q : Nat) (a : Option Addr) (c : Nat) (G : Option Nat) (bt bh : Nat) (h : FsN w f p q a c G bt bh) :
    Calls Tryz.prog 65 #[.pointer (some ⟨f, 0, none⟩)] w fun e w' => e = .returned (.slice none 0 0) ∧ Chg Nil w w' := by
  have k5 : w.cell? ⟨f, 196, none⟩ = some (.map (some bt)) := by
    rw [h.blk.cell 196]
    unfold fsC
    rw [List.getElem?_append_right (by simp [foF_len])]
    simp [foF_len]
  have HM := hid h.todo
  clear h
  go_enter Tryz.func65, Tryz.ntmps65
  go_wp2_with (at_range; refine wpList_range_none _ rfl _ 134 rfl (k := 3) (e := 22) u_int Tryz.underlying134 bt 0 rfl HM.out ?_; intro w3 r1 r2; replace r1 := hid r1)
  go_frame
  go_loopw [3] (fun s3 wr => s3 = .slice none 0 0 ∧ wr = w3) (fun _ _ => 0)
  case atStart => exact ⟨rfl, rfl⟩
  case round =>
    obtain ⟨rfl, rfl⟩ := hrel
    go_wp2_with (go_at_call 138; refine (sort_0 _ _).mono ?_; rintro e w' ⟨rfl, rfl⟩)
    go_ret
    exact ⟨rfl, r1.out⟩
theorem jroom_ok (w : World) (p q : Nat) (h : Blk w q 231 (lgCells p)) :
    Calls Tryz.prog 202 #[.pointer (some ⟨q, 0, none⟩)] w fun e w' => e = .returned (.int .i64 30) ∧ w = w' := by
  have k2 := h.cell 2
  simp only [lgCells, List.getElem?_cons_succ, List.getElem?_cons_zero] at k2
  clear h
  go_enter Tryz.func202, Tryz.ntmps202
  go_wp2
  go_ret
  exact ⟨rfl, rfl⟩
theorem jright_0 (w : World) (p q : Nat) (h : Blk w q 231 (lgCells p)) :
    Calls Tryz.prog 134 #[.pointer (some ⟨q, 0, none⟩), .slice none 0 0] w fun e w' => e = .returned (.int .i64 0) ∧ Chg Nil w w' := by
  have HR := hid (jroom_ok w p q h)
  have hmm := @run_makeMap Tryz.prog
  clear h
  go_enter Tryz.func134, Tryz.ntmps134
  go_wp2_with (go_at_call 202; refine HR.out.mono ?_; rintro e w' ⟨rfl, rfl⟩)
  obtain ⟨W, hW⟩ : ∃ W, W = w.alloc (.map #[] 0) := ⟨_, rfl⟩
  rw [← hW]
  go_loopw [16] (fun i wr => i = .int .i64 0 ∧ wr = W) (fun _ _ => 0)
  case atStart => exact ⟨rfl, rfl⟩
  case round =>
    obtain ⟨rfl, rfl⟩ := hrel
    go_wp2
    go_ret
    exact ⟨rfl, (Chg.refl Nil w).alloc _⟩
set_option maxRecDepth 100000 in
theorem jcommit_0 (w : World) (F : Nat → Prop) (p q n : Nat) (zs : List Int) (m : Nat) (hD : DkAt w F p n zs m) (h : Blk w q 231 (lgCells p)) :
    Calls Tryz.prog 64 #[.pointer (some ⟨q, 0, none⟩), .slice none 0 0] w fun e w' => e = .returned (.int .i64 0) ∧ DkAt w' F p n zs 0 ∧ Chg F w w' := by
  have HR := hid (jright_0 w p q h)
  have k0 := h.cell 0
  simp only [lgCells, List.getElem?_cons_zero] at k0
  have hlt := h.lt
  have HF := hid (fun w' (hc : Chg Nil w w') => dkflush_ok w' F p n zs m (hD.nil hc))
  clear h hD
  go_enter Tryz.func64, Tryz.ntmps64
  go_wp2_with (go_at_call 134; refine HR.out.mono ?_; rintro e w1 ⟨rfl, c1⟩; have k0' := (c1.cell (a := ⟨q, 0, none⟩) hlt (fun h => h)).trans k0; have HG := hid (HF.out w1 c1); replace c1 := hid c1)
  refine HG.out.mono ?_
  rintro e w2 ⟨rfl, d2, c2⟩
  replace d2 := hid d2
  replace c2 := hid c2
  go_wp2
  go_ret
  exact ⟨rfl, d2.out, (c1.out.mono (fun _ _ h => h.elim)).trans c2.out (fun _ _ h => h)⟩
set_option maxRecDepth 100000 in
set_option maxHeartbeats 1000000 in
theorem sync_0 (w : World) (F : Nat → Prop) (f p q n : Nat) (zs : List Int) (m : Nat) (a : Option Addr) (c : Nat) (G : Option Nat) (bt bh : Nat) (hD : DkAt w F p n zs m) (h : FsN w f p q a c G bt bh) (hF : ¬ F f) (hq : ¬ F q) :
    Calls Tryz.prog 26 #[.pointer (some ⟨f, 0, none⟩)] w fun e w' => e = .returned (.int .i64 0) ∧ DkAt w' F p n zs 0 ∧ Chg (Or2 F (One f)) w w' := by
  have k1 : w.cell? ⟨f, 1, none⟩ = some (.pointer (some ⟨q, 0, none⟩)) := by
    rw [h.blk.cell 1]
    rfl
  have hmm := @run_makeMap Tryz.prog
  have hf := h.blk
  have HW := hid (fun w' (hc : Chg Nil w w') => writes_0 w' f p q a c G bt bh ⟨h.blk.chg hc (fun h => h), h.log.chg hc (fun h => h), h.nodes.chg hc (fun _ _ h => h), h.todo.chg hc (fun h => h), h.held.chg hc (fun h => h)⟩)
  have HC := hid (fun w' (hc : Chg Nil w w') => jcommit_0 w' F p q n zs m (hD.nil hc) (h.log.chg hc (fun h => h)))
  have hF' := hid hF
  have hlt := hf.lt
  have HB := hid hf
  clear h hD hf
  go_enter Tryz.func26, Tryz.ntmps26
  go_wp2
  go_region_law
    (first | (go_simp; go_at_call 65; refine (HW.out _ ((Chg.refl Nil w).drew)).mono ?_; rintro e w1 ⟨rfl, c1⟩; have C1 := hid ((Chg.refl Nil w).drew.trans c1 (fun _ _ h => h)); have k1' : w1.cell? ⟨f, 1, none⟩ = some (.pointer (some ⟨q, 0, none⟩)) := ((C1.out.cell (a := ⟨f, 1, none⟩) hlt (fun h => h)).trans k1); clear c1) | (go_simp; go_at_call 64; refine (HC.out _ C1.out).mono ?_; rintro e w2 ⟨rfl, d2, c2⟩; replace d2 := hid d2; replace c2 := hid c2))
  all_goals
    have B2 := (Blk.chg (Blk.chg HB.out C1.out (fun h => h)) c2.out hF'.out).alloc (.map #[] 0)
    have k5 := B2.cell 196
    have f5 := B2.frozen 196
    rw [show (fsC p q (foF 16) a c bt bh)[196]? = some (.map (some bt)) by
      unfold fsC
      rw [List.getElem?_append_right (by simp [foF_len])]
      simp [foF_len]] at k5
    clear B2
    go_wp2
    go_ret
    have hsz := d2.out.lt
    exact ⟨rfl, ((d2.out.nil ((Chg.refl Nil _).alloc _)).chg (H := One f) ((Chg.refl (One f) _).setCell (p := ⟨f, 196, none⟩) (.inl (show One f f from rfl)) _) (fun k hk hh => hF'.out (by rw [← show k = f from hh]; exact hk))), (((C1.out.mono (fun _ _ h => h.elim)).trans c2.out (fun _ _ h => .inl h)).alloc _).setCell (p := ⟨f, 196, none⟩) (.inl (.inr rfl)) _⟩
end Go.Proofs.YtdcbagmgflcemaaGreatDoor
namespace Go.Proofs.YtdcbagmgflcemaaGreatDoor
open Go.ChangeShapes Go.WideShapes Go.ChangeAt Go.RowKit
set_option linter.unusedVariables false
set_option maxRecDepth 100000 in
set_option maxHeartbeats 1000000 in
theorem make_ok (w : World) (n : Nat) (h1 : 64 ≤ n) (h2 : n ≤ 256) :
    Calls Tryz.prog 11 #[.int .i64 (n : Int), .slice none 0 0] w fun e w' => ∃ F p zs, e = .returned (.tuple #[.pointer (some ⟨p, 0, none⟩), .int .i64 0]) ∧ DkAt w' F p n zs 0 ∧ NewZ n zs ∧ Chg Nil w w' ∧ Grew w.heap.size Nil F := by
  go_enter Tryz.func11, Tryz.ntmps11
  go_wp2_with fail
  refine (dknew_ok w n (by omega) h2).mono ?_
  rintro e w1 ⟨F1, p, rfl, d1, c1, g1⟩
  have HF := hid (format_ok w1 F1 p n 0 d1 h1 (by omega))
  replace c1 := hid c1
  replace g1 := hid g1
  clear d1
  go_wp2_with fail
  refine HF.out.mono ?_
  rintro e w2 ⟨rfl, F2, zs, d2, z2, c2, g2⟩
  have HM := hid (mount_ok w2 F2 p n zs 0 d2 h1 z2)
  have l2 := hid d2.lt
  have D2 := hid d2
  replace z2 := hid z2
  replace c2 := hid c2
  replace g2 := hid g2
  clear d2 HF
  go_wp2_with fail
  refine HM.out.mono ?_
  rintro e w3 ⟨f, q, a, c, G, bt, bh, rfl, n3, c3, hf, hq⟩
  have HS := hid (sync_0 w3 F2 f p q n zs 0 a c G bt bh (D2.out.nil c3) n3 (fun hh => by have := l2.out _ hh; omega) (fun hh => by have := l2.out _ hh; omega))
  replace c3 := hid c3
  replace hf := hid hf
  clear n3 HM D2 hq
  go_wp2
  go_loop [40] (fun i => i = .int .i64 0) (fun _ => 0)
  case atStart => rfl
  case round =>
    subst hrel
    go_wp2_with (go_at_call 26; refine HS.out.mono ?_; rintro e w4 ⟨rfl, d4, c4⟩; replace d4 := hid d4; replace c4 := hid c4)
    go_ret2
    have hF1 : ∀ k, F1 k → w.heap.size ≤ k := fun k hk => by
      rcases g1.out k hk with h | h
      · exact h.elim
      · exact h
    have hF2 : ∀ k, F2 k → w.heap.size ≤ k := fun k hk => by
      rcases g2.out k hk with h | h
      · exact hF1 k h
      · have := c1.out.size; omega
    refine ⟨F2, p, zs, rfl, d4.out, z2.out, ((c1.out.trans c2.out (fun k hk h => absurd (hF1 k h) (by omega))).trans c3.out (fun _ _ h => h)).trans c4.out (fun k hk h => ?_), fun k hk => .inr (hF2 k hk)⟩
    rcases h with h | h
    · exact absurd (hF2 k h) (by omega)
    · have h' : k = f := h
      have := hf.out
      have := c1.out.size
      have := c2.out.size
      omega
end Go.Proofs.YtdcbagmgflcemaaGreatDoor
namespace Go.Proofs.YtdcbagmgflcemaaGreatDoor
open Go.ChangeShapes Go.WideShapes Go.ChangeAt Go.RowKit
set_option linter.unusedVariables false
end Go.Proofs.YtdcbagmgflcemaaGreatDoor
namespace Go.Proofs.YtdcbagmgflcemaaGreatDoor
open Go.ChangeShapes Go.WideShapes Go.ChangeAt Go.RowKit
set_option linter.unusedVariables false
end Go.Proofs.YtdcbagmgflcemaaGreatDoor
namespace Go.Proofs.YtdcbagmgflcemaaGreatDoor
open Go.ChangeShapes Go.WideShapes Go.ChangeAt Go.RowKit
set_option linter.unusedVariables false
/-- Where the pipes are. -/
def piV (g : Option Nat) (i : Nat) : Value := if i = 0 then .pointer (g.map (fun g => ⟨g, 0, none⟩)) else .pointer none
/-- One pipe: who reads, who writes, what is on its way. -/
structure PiA (w : World) (F : Nat → Prop) (p g : Nat) (r s : Int) (bs : List Int) (a : Option Addr) (c : Nat) (G : Option Nat) : Prop where
  blk : Blk w p 154 (tab 16 (piV (some g)))
  one : Blk w g 339 [.int .i64 r, .int .i64 s, .slice a bs.length c]
  sl : Sl w 5 1 a bs.length c (bys bs) G
  room : bs.length ≤ 64
  fp : F p
  fg : F g
  fs : ∀ k, G = some k → F k
  lt : ∀ k, F k → k < w.heap.size
def PiAt (w : World) (F : Nat → Prop) (p g : Nat) (r s : Int) (bs : List Int) : Prop := ∃ a c G, PiA w F p g r s bs a c G
section
variable {w w' : World} {F H : Nat → Prop} {p g : Nat} {r s : Int} {bs : List Int} {a : Option Addr} {c : Nat} {G : Option Nat}
theorem PiA.chg (h : PiA w F p g r s bs a c G) (hc : Chg H w w') (hd : Dj F H) : PiA w' F p g r s bs a c G :=
  ⟨h.blk.chg hc (hd p h.fp), h.one.chg hc (hd g h.fg), h.sl.chg hc (fun k hk => hd k (h.fs k hk)), h.room, h.fp, h.fg, h.fs, fun k hk => Nat.lt_of_lt_of_le (h.lt k hk) hc.size⟩
theorem PiAt.chg (h : PiAt w F p g r s bs) (hc : Chg H w w') (hd : Dj F H) : PiAt w' F p g r s bs := by
  obtain ⟨a, c, G, h⟩ := h
  exact ⟨a, c, G, h.chg hc hd⟩
theorem PiAt.nil (h : PiAt w F p g r s bs) (hc : Chg Nil w w') : PiAt w' F p g r s bs := h.chg hc (fun _ _ h => h)
theorem PiAt.lt (h : PiAt w F p g r s bs) : ∀ k, F k → k < w.heap.size := by
  obtain ⟨a, c, G, h⟩ := h
  exact h.lt
theorem PiAt.room (h : PiAt w F p g r s bs) : bs.length ≤ 64 := by
  obtain ⟨a, c, G, h⟩ := h
  exact h.room
end
set_option maxRecDepth 100000 in
theorem pinew_ok (w : World) : Calls Tryz.prog 27 #[] w fun e w' => e = .returned (.pointer (some ⟨w.heap.size, 0, none⟩)) ∧ Blk w' w.heap.size 154 (tab 16 (piV none)) ∧ Chg Nil w w' := by
  have B0 := hid (Blk.new w 154 (tab 16 (piV none)))
  go_enter Tryz.func27, Tryz.ntmps27
  go_wp2
  go_ret
  exact ⟨rfl, B0.out, (Chg.refl Nil w).alloc _⟩
end Go.Proofs.YtdcbagmgflcemaaGreatDoor
