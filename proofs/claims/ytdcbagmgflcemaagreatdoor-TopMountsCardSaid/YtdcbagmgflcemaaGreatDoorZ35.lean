/- Package fs: the entries of a node, as bytes. Conditions: a change that has begun and has put nothing in that place; a node of at most one block · Package check: all that a node has, read through a file system. Conditions: a node of at most one block · Package fs: a directory has just these bytes. Conditions: a change that has begun; at most one block · Package extent: a file of one sector. Conditions: just that · Package inode: a node that is there, as bytes; what it tells. Conditions: a node as package inode lets it be. -/
import Derived.Test.YtdcbagmgflcemaaGreatDoorZ34
import Derived.Deep.WholeRow
import Derived.Deep.CutBlock
namespace Go.Proofs.YtdcbagmgflcemaaGreatDoor
open Go.ChangeShapes Go.WideShapes Go.ChangeAt Go.RowKit
set_option linter.unusedVariables false
/-- A node's numbers, apart from its sectors. -/
def Nd.r7 (d : Nd) : List Value := [.int .i64 (d.kd : Int), .int .i64 (d.md : Int), .int .i64 0, .int .i64 0, .int .i64 (d.sz : Int), .int .i64 (d.ln : Int), .int .i64 (d.up : Int)]
theorem Nd.r7_len (d : Nd) : d.r7.length = 7 := rfl
theorem Nd.row0 {d : Nd} (h : d.pt = 0) (h1 : d.pa = none) (h2 : d.pc = 0) : d.row = d.r7 ++ [Value.slice none 0 0] := by
  unfold Nd.row Nd.r7; rw [Nd.pn0 h, h1, h2]; rfl
theorem Nd.row1 {d : Nd} (h : 0 < d.pt) : d.row = d.r7 ++ [Value.slice d.pa 1 d.pc] := by
  unfold Nd.row Nd.r7; rw [Nd.pn1 h]; rfl
/-- A node is laid where there was none. -/
theorem nd_laid (r : List Value) (hl : r.length = 8) (h1 : ∀ u ∈ r, u.oneCell' = true) (w : World) : (Instr.storeAt 120 (.pointer (some ⟨w.heap.size, 0, none⟩)) (.agg r.toArray)).run Tryz.prog (w.alloc (.cells #[.int .i64 0, .int .i64 0, .int .i64 0, .int .i64 0, .int .i64 0, .int .i64 0, .int .i64 0, .slice none 0 0] 120)) = .ok () (w.alloc (.cells r.toArray 120)) :=
  run_storeAt_new (P := Tryz.prog) w 120 _ r.toArray (by rw [List.size_toArray, hl]; kernel_rfl) (by simp [hl]) (all_oneCell_toArray h1)
/-- What a node has. -/
def entB (X : FX) (zs : List Int) (d : Nd) : List Int := if d.pt = 0 then [] else (X.sec zs d.pt).take d.sz
set_option maxRecDepth 100000 in
set_option maxHeartbeats 1000000 in
theorem fentries_0 {w : World} {FF FD : Nat → Prop} {f p q bt bh : Nat} {zs : List Int} {X : FX} {N : Nat} {R : Nat → Prop} {t gn go gc bd bp : Nat} {T : TX} (h : TxA w FF FD f p q bt bh zs X N R t gn go gc bd bp T) (k : Nat) (hk : k < 32) (i : Int) (hi : i = (k : Int) + 1) (h0 : (T.ns k).pt = 0) (hz : (T.ns k).sz = 0) :
    Calls Tryz.prog 207 #[.pointer (some ⟨t, 0, none⟩), .int .i64 i] w fun e w' => e = .returned (.slice none 0 0) ∧ Chg Nil w w' := by
  have HN := hid (fnode_ok h k hk i hi)
  have hd := h.pts k hk
  generalize T.ns k = d at h0 hz HN hd
  obtain ⟨_, e1, e2⟩ : d.pt = 0 ∧ d.pa = none ∧ d.pc = 0 := by
    rcases hd with hd | hd
    · exact hd
    · omega
  have hS := fun w => nd_laid d.row d.row_len d.row_one w
  have hr := Nd.row0 h0 e1 e2
  obtain ⟨r, hrr⟩ : ∃ r, r = d.row := ⟨_, rfl⟩
  rw [← hrr] at HN hS hr
  have hl : r.length = 8 := by rw [hrr, Nd.row_len]
  have k4 : r[4]? = some (.int .i64 0) := by rw [hrr]; unfold Nd.row; rw [hz]; rfl
  have k7 : r[7]? = some (.slice none 0 0) := by rw [hr]; rfl
  replace hrr := hid hrr
  replace hr := hid hr
  clear hd h e1 e2 hz h0 hi
  go_enter Tryz.func207, Tryz.ntmps207
  go_wp2_with fail
  refine HN.out.mono ?_
  rintro e w1 ⟨rfl, c1⟩
  have B1 := Blk.new w1 120 r
  have x4 := B1.cell 4
  have x7 := B1.cell 7
  rw [k4] at x4
  rw [k7] at x7
  have S1 := hS w1
  have C1 := hid (c1.alloc (.cells r.toArray 120))
  generalize w1.alloc (.cells r.toArray 120) = W at S1 x4 x7 C1
  clear hS B1 k4 k7 c1 HN
  go_wp2_with (refine wpList_store_run S1 (by rfl) (by rfl) (by rfl) (by rfl) ?_)
  go_loopw [6, 14] (fun s6 i wr => s6 = .slice none 0 0 ∧ i = .int .i64 0 ∧ Hid (wr = W)) (fun _ _ _ => 0)
  case atStart => exact ⟨rfl, rfl, rfl⟩
  case round =>
    obtain ⟨rfl, rfl, hw⟩ := hrel
    have hw' := hw.out
    subst hw'
    clear hw
    go_wp2
    go_ret
    exact ⟨rfl, C1.out⟩
def EnR (w : World) (X : FX) (zs : List Int) (pt : Nat) (b : Nat) (r : List Value) (k : Nat) (s6 : Value) (wr : World) : Prop :=
  Blk wr b 120 r ∧ Chg Nil w wr ∧ if k = 0 then s6 = .slice none 0 0 else ∃ a c G, s6 = .slice a 64 c ∧ Sl wr 5 1 a 64 c (bys (X.sec zs pt)) G ∧ ∀ g, G = some g → w.heap.size ≤ g
set_option maxRecDepth 100000 in
set_option maxHeartbeats 2000000 in
theorem fentries_1 {w : World} {FF FD : Nat → Prop} {f p q bt bh : Nat} {zs : List Int} {X : FX} {N : Nat} {R : Nat → Prop} {t gn go gc bd bp : Nat} {T : TX} (h : TxA w FF FD f p q bt bh zs X N R t gn go gc bd bp T) (k : Nat) (hk : k < 32) (i : Int) (hi : i = (k : Int) + 1) (h0 : 0 < (T.ns k).pt) (h1 : (T.ns k).pt < 256) (hz : (T.ns k).sz ≤ 64) (hp : T.pu ((T.ns k).pt : Int) = none) :
    Calls Tryz.prog 207 #[.pointer (some ⟨t, 0, none⟩), .int .i64 i] w fun e w' => ∃ a c G, e = .returned (.slice a (T.ns k).sz c) ∧ Sl w' 5 1 a (T.ns k).sz c (bys ((X.sec zs (T.ns k).pt).take (T.ns k).sz)) G ∧ Chg Nil w w' ∧ ∀ g, G = some g → w.heap.size ≤ g := by
  have HN := hid (fnode_ok h k hk i hi)
  have hd := h.pts k hk
  generalize T.ns k = d at h0 h1 hz HN hd hp ⊢
  have hP : Rd w R 1 d.pa 1 d.pc [.int .i64 (d.pt : Int)] := by
    rcases hd with hd | hd
    · omega
    · exact hd.2
  have HBK := hid (fun w' (hc : Chg Nil w w') => fblock_1 (h.nil hc) d.r7 d.r7_len d.pa d.pc d.pt R (hP.chg hc (fun _ _ _ h => h)) h0 h1 hp)
  have hS := fun w => nd_laid d.row d.row_len d.row_one w
  have hr := Nd.row1 h0
  rw [← hr] at HBK
  obtain ⟨r, hrr⟩ : ∃ r, r = d.row := ⟨_, rfl⟩
  rw [← hrr] at HN hS hr HBK
  have hl : r.length = 8 := by rw [hrr, Nd.row_len]
  have k4 : r[4]? = some (.int .i64 (d.sz : Int)) := by rw [hrr]; rfl
  have k7 : r[7]? = some (.slice d.pa 1 d.pc) := by rw [hr]; rfl
  obtain ⟨sz, hsz⟩ : ∃ sz, sz = d.sz := ⟨_, rfl⟩
  rw [← hsz] at k4 hz ⊢
  obtain ⟨pt, hpt⟩ : ∃ pt, pt = d.pt := ⟨_, rfl⟩
  rw [← hpt] at HBK ⊢
  replace hrr := hid hrr
  replace hr := hid hr
  replace hsz := hid hsz
  replace hpt := hid hpt
  clear hd h hi hP h0 h1 hp
  go_enter Tryz.func207, Tryz.ntmps207
  go_wp2_with fail
  refine HN.out.mono ?_
  rintro e w1 ⟨rfl, c1⟩
  have B1 := Blk.new w1 120 r
  have x7 := B1.cell 7
  rw [k7] at x7
  have S1 := hS w1
  have C1 := c1.alloc (.cells r.toArray 120)
  generalize w1.alloc (.cells r.toArray 120) = W at S1 x7 C1 B1
  replace B1 := hid B1
  replace C1 := hid C1
  clear hS c1 HN
  go_wp2_with (refine wpList_store_run S1 (by rfl) (by rfl) (by rfl) (by rfl) ?_)
  go_loopw [6, 14] (fun s6 i wr => ∃ j : Nat, j ≤ 1 ∧ i = .int .i64 j ∧ Hid (EnR w X zs pt w1.heap.size r j s6 wr)) (fun _ i _ => 1 - (intOf i).toNat)
  case atStart => exact ⟨0, by omega, rfl, B1.out, C1.out, by rw [if_pos rfl]⟩
  case round =>
    obtain ⟨j, hj, rfl, hB, hC, hE⟩ := hrel
    by_cases hlt : j < 1
    · have hj0 : j = 0 := by omega
      subst hj0
      rw [if_pos rfl] at hE
      subst hE
      have LR := load_blk (P := Tryz.prog) (ty := 120) hB Tryz.underlying120 rfl (by rw [hl]; kernel_rfl)
      have HK := HBK.out wr hC
      replace HK := hid HK
      replace hB := hid hB
      replace hC := hid hC
      go_wp2_with (refine wpList_load_run LR (by rfl) (by rfl) (by rfl) ?_)
      refine HK.out.mono ?_
      rintro e w2 ⟨a2, c2, G2, rfl, q1, q2, q3⟩
      replace q3 := hid q3
      have hB2 := hid (hB.out.chg q2 (fun h => h))
      have hC2 := hid (hC.out.trans q2 (fun _ _ h => h))
      replace q1 := hid q1.rd
      clear LR HK q2
      go_wp2_with (at_builtin; refine wpList_append_sl rfl _ _ eU8 rfl rfl rfl (Sl.empty _ _ _ _) q1.out (ints_one _ _) (by omega) (by omega) ?_; intro a' c' w' G' y1 y2 y3; replace y1 := hid y1; replace y2 := hid y2; replace y3 := hid y3)
      go_roundw
      case rel =>
        refine ⟨1, by omega, by go_num, hB2.out.chg y2.out (fun h => by cases h), hC2.out.trans y2.out (fun _ _ h => by cases h), ?_⟩
        rw [if_neg (by omega)]
        have := y1.out
        rw [Nat.zero_add, List.nil_append] at this
        exact ⟨a', c', G', rfl, this, fun g hg => by
          rcases y3.out with y3 | y3
          · rw [y3] at hg; cases hg
          · rw [y3] at hg; injection hg with hg; rw [← hg]; exact hC2.out.size⟩
      case measure => simp [intOf]
    · have hj1 : j = 1 := by omega
      subst hj1
      rw [if_neg (by omega)] at hE
      obtain ⟨a, c, G, rfl, hS, hG⟩ := hE
      have x4 := hB.cell 4
      rw [k4] at x4
      have i1 : (sz : Int) ≤ (c : Int) := by have := hS.1; omega
      have hS2 := hid (hS.init hz)
      replace hG := hid hG
      replace hC := hid hC
      clear hS hB
      go_wp2
      go_ret
      refine ⟨a, c, G, rfl, ?_, hC.out, hG.out⟩
      have := hS2.out
      rw [Nat.mul_one] at this
      have e : List.take sz (bys (X.sec zs pt)) = bys ((X.sec zs pt).take sz) := by simp [ints, List.map_take]
      rwa [e] at this
end Go.Proofs.YtdcbagmgflcemaaGreatDoor
namespace Go.Proofs.YtdcbagmgflcemaaGreatDoor
open Go.ChangeShapes Go.WideShapes Go.ChangeAt Go.RowKit
set_option linter.unusedVariables false
/-- The file system, as check reads it. -/
def rdV (f : Nat) : Value := .iface 351 (.agg #[.pointer (some ⟨f, 0, none⟩)])
set_option maxRecDepth 100000 in
set_option maxHeartbeats 1000000 in
theorem cbytes_0 (w : World) (f : Nat) (d : Nd) (h0 : d.pt = 0) (h1 : d.pa = none) (h2 : d.pc = 0) (hz : d.sz = 0) :
    Calls Tryz.prog 230 #[rdV f, .agg d.row.toArray] w fun e w' => e = .returned (.slice none 0 0) ∧ Chg Nil w w' := by
  have hr := Nd.row0 h0 h1 h2
  obtain ⟨r, hrr⟩ : ∃ r, r = d.row := ⟨_, rfl⟩
  rw [← hrr] at hr ⊢
  have k4 : r[4]? = some (.int .i64 0) := by rw [hrr]; unfold Nd.row; rw [hz]; rfl
  have k7 : r[7]? = some (.slice none 0 0) := by rw [hr]; rfl
  replace hrr := hid hrr
  replace hr := hid hr
  have B1 := Blk.new w 120 r
  have x4 := B1.cell 4
  have x7 := B1.cell 7
  rw [k4] at x4
  rw [k7] at x7
  have C1 := hid ((Chg.refl Nil w).alloc (.cells r.toArray 120))
  clear B1 k4 k7
  unfold rdV
  go_enter Tryz.func230, Tryz.ntmps230
  go_wp2
  go_loopw [5, 14] (fun s5 i wr => s5 = .slice none 0 0 ∧ i = .int .i64 0 ∧ Hid (wr = w.alloc (.cells r.toArray 120))) (fun _ _ _ => 0)
  case atStart => exact ⟨rfl, rfl, rfl⟩
  case round =>
    obtain ⟨rfl, rfl, hw⟩ := hrel
    have hw' := hw.out
    rw [← hw'] at x4 x7 C1
    clear hw hw'
    go_wp2
    go_ret
    exact ⟨rfl, C1.out⟩
set_option maxRecDepth 100000 in
set_option maxHeartbeats 2000000 in
theorem cbytes_1 {w : World} {FF FD : Nat → Prop} {f p q bt bh : Nat} {zs : List Int} {X : FX} (h : FsA w FF FD f p q bt bh zs X) (R : Nat → Prop) (d : Nd) (h0 : 0 < d.pt) (h1 : d.pt < 256) (hz : d.sz ≤ 64) (hP : Rd w R 1 d.pa 1 d.pc [.int .i64 (d.pt : Int)]) :
    Calls Tryz.prog 230 #[rdV f, .agg d.row.toArray] w fun e w' => ∃ a c G, e = .returned (.slice a d.sz c) ∧ Sl w' 5 1 a d.sz c (bys ((X.sec zs d.pt).take d.sz)) G ∧ Chg Nil w w' ∧ ∀ g, G = some g → w.heap.size ≤ g := by
  have hr := Nd.row1 h0
  obtain ⟨r, hrr⟩ : ∃ r, r = d.row := ⟨_, rfl⟩
  rw [← hrr] at hr ⊢
  have hmk := mk_bytes 64 (by omega) 64 rfl
  have HRD := hid (fun w' (hc : Chg Nil w w') => freader_ok (h.nil hc) d.pt h1 (d.pt : Int) rfl)
  have k4 : r[4]? = some (.int .i64 (d.sz : Int)) := by rw [hrr]; rfl
  have k7 : r[7]? = some (.slice d.pa 1 d.pc) := by rw [hr]; rfl
  have hl : r.length = 8 := by rw [hrr, Nd.row_len]
  obtain ⟨sz, hsz⟩ : ∃ sz, sz = d.sz := ⟨_, rfl⟩
  rw [← hsz] at k4 hz ⊢
  obtain ⟨pt, hpt⟩ : ∃ pt, pt = d.pt := ⟨_, rfl⟩
  rw [← hpt] at HRD hP h0 ⊢
  have i0 : ((pt : Int) != 0) = true := by rw [bne_iff_ne]; omega
  replace hrr := hid hrr
  replace hr := hid hr
  replace hsz := hid hsz
  replace hpt := hid hpt
  have B1 := Blk.new w 120 r
  have x7 := B1.cell 7
  rw [k7] at x7
  have C1 := (Chg.refl Nil w).alloc (.cells r.toArray 120)
  obtain ⟨g1, o1, hpa, _, _, hcell⟩ := hP.cellAt (by omega)
  have P1 : Hid (∀ w', Chg Nil w w' → w'.cell? ⟨g1, o1, none⟩ = some (.int .i64 (pt : Int))) := hid (fun w' hc => by
    have h5 := hP.chg hc (fun _ _ _ h => h)
    obtain ⟨g2, o2, e2, _, _, hc2⟩ := h5.cellAt (by omega)
    rw [hpa] at e2
    obtain ⟨rfl, rfl⟩ : g1 = g2 ∧ o1 = o2 := by simpa using e2
    exact hc2 0 (by omega))
  rw [hpa] at x7 k7
  replace B1 := hid B1
  replace C1 := hid C1
  clear h h0 h1 hP hcell hpa
  unfold rdV
  go_enter Tryz.func230, Tryz.ntmps230
  go_wp2
  go_loopw [5, 14] (fun s5 i wr => ∃ j : Nat, j ≤ 1 ∧ i = .int .i64 j ∧ Hid (EnR w X zs pt w.heap.size r j s5 wr)) (fun _ i _ => 1 - (intOf i).toNat)
  case atStart => exact ⟨0, by omega, rfl, B1.out, C1.out, by rw [if_pos rfl]⟩
  case round =>
    obtain ⟨j, hj, rfl, hB, hC, hE⟩ := hrel
    by_cases hlt : j < 1
    · have hj0 : j = 0 := by omega
      subst hj0
      rw [if_pos rfl] at hE
      subst hE
      have p1 := P1.out wr hC
      have C2 := hC.alloc (.cells (zr 64).toArray 5)
      have HK := HRD.out _ C2
      have hB1 := hid (hB.alloc (.cells (zr 64).toArray 5))
      replace C2 := hid C2
      replace HK := hid HK
      clear hB hC
      go_wp2_with fail
      refine HK.out.mono ?_
      rintro e w2 ⟨a2, c2, G2, rfl, q1, q2, q3⟩
      replace q3 := hid q3
      have hB2 := hid (hB1.out.chg q2 (fun h => h))
      have hC2 := hid (C2.out.trans q2 (fun _ _ h => h))
      replace q1 := hid q1.rd
      clear HK q2 p1
      go_wp2_with (at_builtin; refine wpList_append_sl rfl _ _ eU8 rfl rfl rfl (Sl.empty _ _ _ _) q1.out (ints_one _ _) (by omega) (by omega) ?_; intro a' c' w' G' y1 y2 y3; replace y1 := hid y1; replace y2 := hid y2; replace y3 := hid y3)
      go_roundw
      case rel =>
        refine ⟨1, by omega, by go_num, hB2.out.chg y2.out (fun h => by cases h), hC2.out.trans y2.out (fun _ _ h => by cases h), ?_⟩
        rw [if_neg (by omega)]
        have := y1.out
        rw [Nat.zero_add, List.nil_append] at this
        exact ⟨a', c', G', rfl, this, fun g hg => by
          rcases y3.out with y3 | y3
          · rw [y3] at hg; cases hg
          · rw [y3] at hg; injection hg with hg; rw [← hg]; exact hC2.out.size⟩
      case measure => simp [intOf]
    · have hj1 : j = 1 := by omega
      subst hj1
      rw [if_neg (by omega)] at hE
      obtain ⟨a, c, G, rfl, hS, hG⟩ := hE
      have x4 := hB.cell 4
      rw [k4] at x4
      have i1 : (sz : Int) ≤ (c : Int) := by have := hS.1; omega
      have i2 : min 64 (sz : Int) = (sz : Int) := by omega
      have hS2 := hid (hS.init hz)
      replace hG := hid hG
      replace hC := hid hC
      clear hS hB
      go_wp2
      all_goals
        go_ret
        refine ⟨a, c, G, ?_, ?_, hC.out, hG.out⟩
        · first | rfl | (congr 2)
        have := hS2.out
        rw [Nat.mul_one] at this
        have e : List.take sz (bys (X.sec zs pt)) = bys ((X.sec zs pt).take sz) := by simp [ints, List.map_take]
        rwa [e] at this
end Go.Proofs.YtdcbagmgflcemaaGreatDoor
namespace Go.Proofs.YtdcbagmgflcemaaGreatDoor
open Go.ChangeShapes Go.WideShapes Go.ChangeAt Go.RowKit
set_option linter.unusedVariables false
theorem blocks_1 (w : World) (n : Nat) (h0 : 0 < n) (hn : n ≤ 64) : Calls Tryz.prog 131 #[.int .i64 (n : Int)] w fun e w' => e = .returned (.int .i64 1) ∧ w = w' := by
  have i1 : ¬ (n : Int) ≤ 0 := by omega
  have i2 : ((n : Int) - 1) / 64 = 0 := by omega
  go_enter Tryz.func131, Tryz.ntmps131
  go_wp2
  go_ret
  exact ⟨by first | rfl | (rw [i2]; rfl), rfl⟩
/-- A block's bytes: these, then bytes 0. -/
def padB (l : List Int) : List Int := l ++ List.replicate (64 - l.length) 0
theorem pad_gen (n : Nat) (l : List Int) : ints .u8 l ++ (List.replicate n (Value.int .u8 0)).drop (ints .u8 l).length = ints .u8 (l ++ List.replicate (n - l.length) 0) := by
  rw [ints_length, List.drop_replicate]
  simp [ints]
/-- A node that has just so many bytes, in one block. -/
def Nd.one (d : Nd) (sz pt : Nat) (pa : Option Addr) (pc : Nat) : Nd := ⟨d.kd, d.md, sz, d.ln, d.up, pt, pa, pc⟩
/-- What is left when a directory has just these bytes. -/
def FiPost (w : World) (FF FD : Nat → Prop) (f p q bt bh : Nat) (zs : List Int) (X : FX) (N : Nat) (R : Nat → Prop) (t gn go gc bd bp : Nat) (T T1 : TX) (k p1 : Nat) (l : List Int) (w' : World) : Prop :=
  ∃ s pa pc, s.l = padB l ∧ TxA w' FF FD f p q bt bh zs X N R t gn go gc bd bp ((T1.putS (p1 : Int) s).set k ((T.ns k).one l.length p1 pa pc)) ∧ Chg (Mt t gn bd bp) w w'
set_option maxRecDepth 100000 in
set_option maxHeartbeats 1000000 in
/-- To no bytes at all. -/
theorem ffill_nil {w : World} {FF FD : Nat → Prop} {f p q bt bh : Nat} {zs : List Int} {X : FX} {N : Nat} {R : Nat → Prop} {t gn go gc bd bp : Nat} {T : TX} (h : TxA w FF FD f p q bt bh zs X N R t gn go gc bd bp T) (k : Nat) (hk : k < 32) (i : Int) (hi : i = (k : Int) + 1) (h0 : (T.ns k).pt = 0) (hz : (T.ns k).sz = 0) :
    Calls Tryz.prog 210 #[.pointer (some ⟨t, 0, none⟩), .int .i64 i, .slice none 0 0] w fun e w' => e = .returned (.tuple #[]) ∧ TxA w' FF FD f p q bt bh zs X N R t gn go gc bd bp (T.set k (T.ns k)) ∧ Chg (Mt t gn bd bp) w w' := by
  have HN := hid (fnode_ok h k hk i hi)
  have hd := h.pts k hk
  have HSET := hid (fun w' (hc : Chg Nil w w') => fset_ok (h.nil hc) k hk i hi (T.ns k) (h.pts k hk |>.chg hc (fun _ _ _ h => h)) (h.nok k hk))
  have HT := hid (rfl : T.set k (T.ns k) = T.set k (T.ns k))
  obtain ⟨T2, hT2⟩ : ∃ T2, T2 = T.set k (T.ns k) := ⟨_, rfl⟩
  rw [← hT2] at HSET ⊢
  replace hT2 := hid hT2
  generalize T.ns k = d at h0 hz HN hd HSET
  obtain ⟨_, e1, e2⟩ : d.pt = 0 ∧ d.pa = none ∧ d.pc = 0 := by
    rcases hd with hd | hd
    · exact hd
    · omega
  have hS := fun w => nd_laid d.row d.row_len d.row_one w
  have hr := Nd.row0 h0 e1 e2
  obtain ⟨r, hrr⟩ : ∃ r, r = d.row := ⟨_, rfl⟩
  rw [← hrr] at HN hS hr HSET
  have hl : r.length = 8 := by rw [hrr, Nd.row_len]
  have k4 : r[4]? = some (.int .i64 0) := by rw [hrr]; unfold Nd.row; rw [hz]; rfl
  have k7 : r[7]? = some (.slice none 0 0) := by rw [hr]; rfl
  have s7 : r.set 7 (.slice none 0 0) = r := by
    apply List.ext_getElem?
    intro j
    rw [List.getElem?_set]
    split
    · rename_i hj; subst hj; rw [k7]; simp [hl]
    · rfl
  have s4 : r.set 4 (.int .i64 0) = r := by
    apply List.ext_getElem?
    intro j
    rw [List.getElem?_set]
    split
    · rename_i hj; subst hj; rw [k4]; simp [hl]
    · rfl
  replace hrr := hid hrr
  replace hr := hid hr
  have HB := hid (blocks_0 : ∀ w, _)
  replace s7 := hid s7
  replace s4 := hid s4
  clear hd h e1 e2 hz h0 hi HT
  go_enter Tryz.func210, Tryz.ntmps210
  go_wp2_with fail
  refine HN.out.mono ?_
  rintro e w1 ⟨rfl, c1⟩
  have B1 := Blk.new w1 120 r
  have x7 := B1.cell 7
  rw [k7] at x7
  have S1 := hS w1
  have C1 := hid (c1.alloc (.cells r.toArray 120))
  have hsz := c1.size
  generalize w1.alloc (.cells r.toArray 120) = W at S1 x7 C1 B1
  replace B1 := hid B1
  clear hS c1 HN
  go_wp2_with (refine wpList_store_run S1 (by rfl) (by rfl) (by rfl) (by rfl) ?_)
  refine (HB.out _).mono ?_
  rintro e w' ⟨rfl, rfl⟩
  go_wp2_with fail
  refine (clone_int_nil _).mono ?_
  rintro e w' ⟨rfl, rfl⟩
  clear x7 k7 S1
  go_wp2
  go_loopw [8] (fun s8 wr => s8 = .slice none 0 0 ∧ Hid (wr = W)) (fun _ _ => 0)
  case atStart => exact ⟨rfl, rfl⟩
  case round =>
    obtain ⟨rfl, hw⟩ := hrel
    have hw' := hw.out
    subst hw'
    clear hw
    go_wp2
    obtain ⟨wo, rfl⟩ : ∃ wo : World, wo = wr := ⟨_, rfl⟩
    go_loopw [8] (fun s8 wr => s8 = .slice none 0 0 ∧ Hid (wr = wo)) (fun _ _ => 0)
    case atStart => exact ⟨rfl, rfl⟩
    case round =>
      obtain ⟨rfl, hw⟩ := hrel
      have hw' := hw.out
      subst hw'
      clear hw
      have y7 := B1.out.cell 7
      have y4 := B1.out.cell 4
      have z7 := B1.out.frozen 7
      have z4 := B1.out.frozen 4
      have B2 := B1.out.set 7 (.slice none 0 0)
      rw [s7.out] at B2
      have B3 := B2.set 4 (.int .i64 0)
      rw [s4.out] at B3
      rw [k4] at y4
      obtain ⟨v7, hv7⟩ : ∃ v7, r[7]? = some v7 := ⟨_, List.getElem?_eq_getElem (by omega)⟩
      rw [hv7] at y7
      have C3 : Chg Nil w ((wr.setCell ⟨w1.heap.size, 7, none⟩ (.slice none 0 0)).setCell ⟨w1.heap.size, 4, none⟩ (.int .i64 0)) := (C1.out.setCell (p := ⟨w1.heap.size, 7, none⟩) (.inr hsz) _).setCell (p := ⟨w1.heap.size, 4, none⟩) (.inr hsz) _
      replace B3 := hid B3
      replace C3 := hid C3
      clear B2 hv7
      go_wp2
      generalize (wr.setCell ⟨w1.heap.size, 7, none⟩ (.slice none 0 0)).setCell ⟨w1.heap.size, 4, none⟩ (.int .i64 0) = V at B3 C3 ⊢
      clear y7 y4 z7 z4
      have LV := load_blk (P := Tryz.prog) (ty := 120) B3.out Tryz.underlying120 rfl (by rw [hl]; kernel_rfl)
      have HST := hid (HSET.out V C3.out)
      go_loopw [57] (fun i wr => i = .int .i64 0 ∧ Hid (wr = V)) (fun _ _ => 0)
      case atStart => exact ⟨rfl, rfl⟩
      case round =>
        obtain ⟨rfl, hw⟩ := hrel
        have hw' := hw.out
        subst hw'
        clear hw
        go_wp2_with (refine wpList_load_run LV (by rfl) (by rfl) (by rfl) ?_)
        refine HST.out.mono ?_
        rintro e w9 ⟨rfl, h1, h2⟩
        replace h1 := hid h1
        replace h2 := hid h2
        go_wp2
        go_end0
        exact ⟨rfl, h1.out, (C3.out.mono (fun _ _ h => h.elim)).trans h2.out (fun _ _ h => h)⟩
set_option maxRecDepth 100000 in
set_option maxHeartbeats 4000000 in
theorem ffill_B {w : World} {FF FD : Nat → Prop} {f p q bt bh : Nat} {zs : List Int} {X : FX} {N : Nat} {R : Nat → Prop} {t gn go gc bd bp : Nat} {T : TX} (h : TxA w FF FD f p q bt bh zs X N R t gn go gc bd bp T) (k : Nat) (hk : k < 32) (i : Int) (hi : i = (k : Int) + 1) (h0 : (T.ns k).pt = 0) (hm : T.m < 8) (l : List Int) (hl0 : 0 < l.length) (hl6 : l.length ≤ 64) (hkd : ((T.ns k).kd = 1 ∧ (T.ns k).up = 0 ∨ (T.ns k).kd = 2 ∧ 1 ≤ (T.ns k).up ∧ (T.ns k).up ≤ 32) ∧ (T.ns k).md ≤ 511 ∧ (T.ns k).ln ≤ 200) (Rb : Nat → Prop) (ba : Option Addr) (bc : Nat) (hb : Rd w Rb 1 ba l.length bc (bys l)) :
    Calls Tryz.prog 210 #[.pointer (some ⟨t, 0, none⟩), .int .i64 i, .slice ba l.length bc] w fun e w' => e = .returned (.tuple #[]) ∧ FiPost w FF FD f p q bt bh zs X N R t gn go gc bd bp T T.next k (53 + T.m) l w' := by
  have H := hid h
  have HN := hid (fnode_ok h k hk i hi)
  have hd := h.pts k hk
  obtain ⟨n, hn⟩ : ∃ n, n = l.length := ⟨_, rfl⟩
  rw [← hn] at hl0 hl6 hb ⊢
  have HB := hid (fun w => blocks_1 w n hl0 hl6)
  obtain ⟨d, hdd⟩ : ∃ d, d = T.ns k := ⟨_, rfl⟩
  rw [← hdd] at HN hd h0 hkd
  obtain ⟨_, e1, e2⟩ : d.pt = 0 ∧ d.pa = none ∧ d.pc = 0 := by
    rcases hd with hd | hd
    · exact hd
    · omega
  have hr := Nd.row0 h0 e1 e2
  have hS := fun w => nd_laid d.row d.row_len d.row_one w
  obtain ⟨r, hrr⟩ : ∃ r, r = d.row := ⟨_, rfl⟩
  rw [← hrr] at HN hS hr
  have hl : r.length = 8 := by rw [hrr, Nd.row_len]
  have k7 : r[7]? = some (.slice none 0 0) := by rw [hr]; rfl
  obtain ⟨g0, o0, hba, _, _, _⟩ := hb.cellAt hl0
  subst hba
  have HB2 := hid (fun w' (hc : Chg Nil w w') => hb.chg hc (fun _ _ _ h => h))
  have hbc := hb.1
  replace hr := hid hr
  replace hrr := hid hrr
  replace hn := hid hn
  replace hdd := hid hdd
  replace hkd := hid hkd
  replace hi := hid hi
  clear hd h e1 e2
  go_enter Tryz.func210, Tryz.ntmps210
  go_wp2_with fail
  refine HN.out.mono ?_
  rintro e w1 ⟨rfl, c1⟩
  have B1 := Blk.new w1 120 r
  have x7 := B1.cell 7
  rw [k7] at x7
  have S1 := hS w1
  have C1 := hid (c1.alloc (.cells r.toArray 120))
  have hsz := c1.size
  generalize w1.alloc (.cells r.toArray 120) = W at S1 x7 C1 B1
  replace B1 := hid B1
  clear hS c1 HN
  go_wp2_with (refine wpList_store_run S1 (by rfl) (by rfl) (by rfl) (by rfl) ?_)
  refine (HB.out _).mono ?_
  rintro e w' ⟨rfl, rfl⟩
  go_wp2_with fail
  refine (clone_int_nil _).mono ?_
  rintro e w' ⟨rfl, rfl⟩
  clear x7 k7 S1
  go_wp2
  go_loopw [8] (fun s8 wr => s8 = .slice none 0 0 ∧ Hid (wr = W)) (fun _ _ => 0)
  case atStart => exact ⟨rfl, rfl⟩
  case round =>
    obtain ⟨rfl, hw⟩ := hrel
    have hw' := hw.out
    subst hw'
    clear hw
    go_wp2
    obtain ⟨wo, rfl⟩ : ∃ wo : World, wo = wr := ⟨_, rfl⟩
    go_loopw [8] (fun s8 wr => ∃ (j : Nat) (a : Option Addr) (c : Nat) (G : Option Nat), j ≤ 1 ∧ s8 = .slice a j c ∧ Hid (Sl wr 3 1 a j c (List.replicate j (.int .i64 0)) G) ∧ Hid (∀ g, G = some g → w1.heap.size < g) ∧ Hid (Blk wr w1.heap.size 120 r) ∧ Hid (Chg Nil w wr)) (fun s8 _ => match s8 with | .slice _ n _ => 1 - n | _ => 0)
    case atStart => exact ⟨0, none, 0, none, by omega, rfl, Sl.empty _ _ _ _, hid (fun g hg => (by cases hg)), B1.out, C1.out⟩
    case round =>
      clear B1 C1
      obtain ⟨j, a, c, G, hj, rfl, hSl, hG, B1, C1⟩ := hrel
      by_cases hlt : j < 1
      · have hj0 : j = 0 := by omega
        subst hj0
        have NB := hid (Rd.of_blk (n := 1) (s := 1) (Blk.new wr 3 [.int .i64 0]) rfl (by decide))
        have SB := hid (hSl.out.alloc (.cells #[.int .i64 0] 3))
        have BB := hid (B1.out.alloc (.cells #[.int .i64 0] 3))
        have CB := hid (C1.out.alloc (.cells #[.int .i64 0] 3))
        have hlb := B1.out.lt
        have hGn : Hid (G ≠ some w1.heap.size) := hid (fun hh => by have := hG.out _ hh; omega)
        go_wp2_with (at_builtin; refine wpList_append_sl rfl _ _ eInt rfl rfl rfl SB.out NB.out (fun u hu => by simp only [List.mem_cons, List.not_mem_nil, or_false] at hu; rw [hu]; rfl) (by omega) (by omega) ?_; intro a' c' w' G' y1 y2 y3; replace y1 := hid y1; replace y2 := hid y2; replace y3 := hid y3)
        go_roundw
        case rel => exact ⟨1, a', c', G', by omega, rfl, y1.out, hid (fun g hg => by
          rcases y3.out with y3 | y3
          · rw [y3] at hg; exact hG.out g hg
          · rw [y3] at hg; injection hg with hg; rw [← hg]; simp; omega), BB.out.chg y2.out (fun hh => hGn.out hh), CB.out.trans y2.out (fun k hk hh => by have := hG.out k hh; have := C1.out.size; omega)⟩
        case measure => simp
      · have hj1 : j = 1 := by omega
        subst hj1
        obtain ⟨gp, op, rfl, rfl, hltp⟩ := hSl.out.block (by omega)
        have hgp := hG.out gp rfl
        have y7 := B1.out.cell 7
        have y4 := B1.out.cell 4
        have z7 := B1.out.frozen 7
        have z4 := B1.out.frozen 4
        obtain ⟨v7, hv7⟩ : ∃ v7, r[7]? = some v7 := ⟨_, List.getElem?_eq_getElem (by omega)⟩
        obtain ⟨v4, hv4⟩ : ∃ v4, r[4]? = some v4 := ⟨_, List.getElem?_eq_getElem (by omega)⟩
        rw [hv7] at y7
        rw [hv4] at y4
        obtain ⟨rr, hrr2⟩ : ∃ rr, rr = (d.one n 0 none 0).r7 := ⟨_, rfl⟩
        have hrr7 : rr.length = 7 := by rw [hrr2]; rfl
        have e74 : (r.set 7 (.slice (some ⟨gp, op, none⟩) 1 c)).set 4 (.int .i64 (n : Int)) = rr ++ [Value.slice (some ⟨gp, op, none⟩) 1 c] := by rw [hrr2, hrr.out]; rfl
        have B3 := (B1.out.set 7 (.slice (some ⟨gp, op, none⟩) 1 c)).set 4 (.int .i64 (n : Int))
        rw [e74] at B3
        have d3 : Chg (One w1.heap.size) wr ((wr.setCell ⟨w1.heap.size, 7, none⟩ (.slice (some ⟨gp, op, none⟩) 1 c)).setCell ⟨w1.heap.size, 4, none⟩ (.int .i64 (n : Int))) := ((Chg.refl (One w1.heap.size) wr).setCell (p := ⟨w1.heap.size, 7, none⟩) (.inl (show One w1.heap.size w1.heap.size from rfl)) _).setCell (p := ⟨w1.heap.size, 4, none⟩) (.inl (show One w1.heap.size w1.heap.size from rfl)) _
        have C3 := hid (C1.out.one (.inr hsz) d3)
        have S3 := hid ((hSl.out.chg d3 (fun g hg hh => by injection hg with hg; rw [show g = w1.heap.size from hh] at hg; omega)).rd)
        replace B3 := hid B3
        clear d3 hv7 hv4 e74
        go_wp2
        generalize (wr.setCell ⟨w1.heap.size, 7, none⟩ (.slice (some ⟨gp, op, none⟩) 1 c)).setCell ⟨w1.heap.size, 4, none⟩ (.int .i64 (n : Int)) = V at B3 C3 S3 ⊢
        clear y7 y4 z7 z4
        go_loopw [57] (fun i wq => ∃ j : Nat, j ≤ 1 ∧ i = .int .i64 j ∧ Hid (if j = 0 then wq = V else ∃ s a' c', s.l = padB l ∧ Blk wq w1.heap.size 120 (rr ++ [Value.slice a' 1 c']) ∧ Rd wq (But R (One w1.heap.size)) 1 a' 1 c' [.int .i64 ((53 + T.m : Nat) : Int)] ∧ TxA wq FF FD f p q bt bh zs X N (But R (One w1.heap.size)) t gn go gc bd bp (T.next.putS ((53 + T.m : Nat) : Int) s) ∧ Chg (Mt t gn bd bp) w wq)) (fun i _ => 1 - (intOf i).toNat)
        case atStart => exact ⟨0, by omega, rfl, hid (by rw [if_pos rfl])⟩
        case round =>
          obtain ⟨jj, hjj, rfl, hE⟩ := hrel
          by_cases hlt5 : jj < 1
          · have hj0 : jj = 0 := by omega
            subst hj0
            have hE' := hE.out
            rw [if_pos rfl] at hE'
            subst hE'
            clear hE
            have hmk := mk_bytes 64 (by omega) 64 rfl
            have M1 := zr_sl wr 64 (by omega)
            have CZ := hid (C3.out.alloc (.cells (zr 64).toArray 5))
            have BZ := hid (B3.out.alloc (.cells (zr 64).toArray 5))
            have SZ := hid (S3.out.alloc (.cells (zr 64).toArray 5))
            have RB := HB2.out _ CZ.out
            have MB := M1.over (lo := 0) (vs := bys l) (by omega) (by rw [ints_length, ← hn.out]; omega)
            have cpz := setCells_chg (wr.alloc (.cells (zr 64).toArray 5)) wr.heap.size 0 (bys l) (One wr.heap.size) rfl
            have hcp : ∀ ty, (Builtin.copy_ #[22, 22] ty #[.slice (some ⟨wr.heap.size, 0, none⟩) 64 64, .slice (some ⟨g0, o0, none⟩) n bc]).run Tryz.prog (wr.alloc (.cells (zr 64).toArray 5)) = .ok (goInt n) ((wr.alloc (.cells (zr 64).toArray 5)).setCells wr.heap.size 0 (bys l)) := fun ty =>
              copy_sl _ _ _ ty eU8 (Blk.new wr 5 (zr 64)) 64 64 RB (by omega) (by omega) (by simp [zr_len]; omega) (ints_one _ _)
            rw [Nat.add_zero] at MB
            have hpad : List.take 0 (zr 64) ++ bys l ++ List.drop (0 + (bys l).length) (zr 64) = bys (padB l) := by
              rw [List.take_zero, List.nil_append, Nat.zero_add]
              exact pad_gen 64 l
            rw [hpad] at MB
            have lq := B3.out.lt
            clear M1 RB hpad
            generalize (wr.alloc (.cells (zr 64).toArray 5)).setCells wr.heap.size 0 (bys l) = V5 at MB cpz hcp
            have C5 := CZ.out.one (.inr C3.out.size) cpz
            have hqn : w1.heap.size ≠ wr.heap.size := by omega
            have hqp : gp ≠ wr.heap.size := by
              obtain ⟨g8, o8, e8, l8, _, _⟩ := S3.out.2.2.2 (by omega)
              obtain ⟨rfl, rfl⟩ : gp = g8 ∧ op = o8 := by simpa using e8
              omega
            have B5 := BZ.out.chg cpz (fun hh => hqn hh)
            have S5 := SZ.out.chg cpz (fun g _ hg hh => by injection hg with hg; exact hqp (hg.trans hh))
            have TX5 := H.out.cut C5 (L := One w1.heap.size) (fun k hk => by rw [show k = w1.heap.size from hk]; exact ⟨hsz, B5.lt⟩)
            have SS : SecAt V5 (But R (One w1.heap.size)) ⟨padB l, some ⟨wr.heap.size, 0, none⟩, 64⟩ := MB.rd.mono (fun k hk => by
              have hk' : wr.heap.size = k := by injection hk
              subst hk'
              exact ⟨H.out.rup _ (.inr C3.out.size), fun hh => hqn (Eq.symm hh)⟩)
            have hb1 : ¬ But R (One w1.heap.size) w1.heap.size := fun hh => hh.2 rfl
            have hb2 : ¬ FF w1.heap.size := fun hh => by have := H.out.old _ hh; have := H.out.new.1; have := H.out.lt.1; omega
            have hb3 : ¬ Mt t gn bd bp w1.heap.size := fun hh => by have := H.out.lt; rcases hh with hh | hh | hh | hh <;> omega
            have HW := hid (fwrite_0 TX5 hm w1.heap.size rr hrr7 _ c _ B5 S5 ⟨padB l, some ⟨wr.heap.size, 0, none⟩, 64⟩ SS hb1 hb2 hb3)
            have C5' := hid C5
            clear B5 S5 SS MB cpz TX5 CZ BZ SZ hb1 hb2 hb3 C5
            go_wp2_with fail
            refine HW.out.mono ?_
            rintro e w6 ⟨rfl, a', c', b6, r6, t6, d6⟩
            have D6 : Hid (Chg (Mt t gn bd bp) w w6) := hid ((C5'.out.mono (fun _ _ h => h.elim)).trans d6 (fun k hk hh => by
              rcases hh with hh | hh
              · exact hh
              · rw [show k = w1.heap.size from hh] at hk; omega))
            replace b6 := hid b6
            replace r6 := hid r6
            replace t6 := hid t6
            clear d6 HW hcp
            go_wp2
            go_roundw
            case rel => exact ⟨1, by omega, by go_num, hid (by rw [if_neg (by omega)]; exact ⟨⟨padB l, some ⟨wr.heap.size, 0, none⟩, 64⟩, a', c', rfl, b6.out, r6.out, t6.out, D6.out⟩)⟩
            case measure => simp [intOf]
          · have hj1 : jj = 1 := by omega
            subst hj1
            have hE' := hE.out
            rw [if_neg (by omega)] at hE'
            obtain ⟨s, a', c', hsl, b6, r6, t6, d6⟩ := hE'
            clear hE
            obtain ⟨p1, hp1⟩ : ∃ p1, p1 = 53 + T.m := ⟨_, rfl⟩
            have hp0 : 0 < p1 := by omega
            have hp2 : p1 < 256 := by have := H.out.mle; omega
            have hrow : rr ++ [Value.slice a' 1 c'] = (d.one n p1 a' c').row := by
              rw [Nd.row1 (d := d.one n p1 a' c') hp0, hrr2]; rfl
            rw [hrow] at b6
            rw [← hp1] at r6 t6
            have LR := load_blk (P := Tryz.prog) (ty := 120) b6 Tryz.underlying120 rfl (by rw [Nd.row_len]; kernel_rfl)
            have HST := fset_ok t6 k hk i hi.out (d.one n p1 a' c') (.inr ⟨hp0, r6⟩) (.inr ⟨hkd.out.1, hkd.out.2.1, hl6, hkd.out.2.2, hp2, by show n = 0 ↔ p1 = 0; omega⟩)
            obtain ⟨row, hro⟩ : ∃ row, row = (d.one n p1 a' c').row := ⟨_, rfl⟩
            rw [← hro] at LR HST
            replace HST := hid HST
            replace hro := hid hro
            replace d6 := hid d6
            replace hp1 := hid hp1
            clear b6 r6 t6 hrow
            go_wp2_with (refine wpList_load_run LR (by rfl) (by rfl) (by rfl) ?_)
            refine HST.out.mono ?_
            rintro e w9 ⟨rfl, h1, h2⟩
            have h1' := hid (h1.grow H.out (Nat.le_trans d6.out.size h2.size))
            replace h2 := hid h2
            clear h1
            go_wp2
            go_end0
            refine ⟨rfl, s, a', c', hsl, ?_, d6.out.trans h2.out (fun _ _ h => h)⟩
            have := h1'.out
            rw [hp1.out, hdd.out, hn.out] at this
            exact this
set_option maxRecDepth 100000 in
set_option maxHeartbeats 4000000 in
theorem ffill_C {w : World} {FF FD : Nat → Prop} {f p q bt bh : Nat} {zs : List Int} {X : FX} {N : Nat} {R : Nat → Prop} {t gn go gc bd bp : Nat} {T : TX} (h : TxA w FF FD f p q bt bh zs X N R t gn go gc bd bp T) (k : Nat) (hk : k < 32) (i : Int) (hi : i = (k : Int) + 1) (h0 : 37 ≤ (T.ns k).pt ∧ (T.ns k).pt < 53 + T.m) (l : List Int) (hl0 : 0 < l.length) (hl6 : l.length ≤ 64) (hkd : ((T.ns k).kd = 1 ∧ (T.ns k).up = 0 ∨ (T.ns k).kd = 2 ∧ 1 ≤ (T.ns k).up ∧ (T.ns k).up ≤ 32) ∧ (T.ns k).md ≤ 511 ∧ (T.ns k).ln ≤ 200) (Rb : Nat → Prop) (ba : Option Addr) (bc : Nat) (hb : Rd w Rb 1 ba l.length bc (bys l)) :
    Calls Tryz.prog 210 #[.pointer (some ⟨t, 0, none⟩), .int .i64 i, .slice ba l.length bc] w fun e w' => e = .returned (.tuple #[]) ∧ FiPost w FF FD f p q bt bh zs X N R t gn go gc bd bp T T k (T.ns k).pt l w' := by
  have H := hid h
  have HN := hid (fnode_ok h k hk i hi)
  have hd := h.pts k hk
  obtain ⟨n, hn⟩ : ∃ n, n = l.length := ⟨_, rfl⟩
  rw [← hn] at hl0 hl6 hb ⊢
  have HB := hid (fun w => blocks_1 w n hl0 hl6)
  obtain ⟨d, hdd⟩ : ∃ d, d = T.ns k := ⟨_, rfl⟩
  rw [← hdd] at HN hd h0 hkd
  have hP : Rd w R 1 d.pa 1 d.pc [.int .i64 (d.pt : Int)] := by
    rcases hd with hd | hd
    · omega
    · exact hd.2
  have hr := Nd.row1 (d := d) (by omega)
  have HC := hid (fun w' (hc : Chg Nil w w') => clone_int _ _ _ _ _ w' (hP.chg hc (fun _ _ _ h => h)) (fun u hu => by simp only [List.mem_cons, List.not_mem_nil, or_false] at hu; rw [hu]; rfl) (by omega))
  have hS := fun w => nd_laid d.row d.row_len d.row_one w
  obtain ⟨r, hrr⟩ : ∃ r, r = d.row := ⟨_, rfl⟩
  rw [← hrr] at HN hS hr
  have hl : r.length = 8 := by rw [hrr, Nd.row_len]
  have k7 : r[7]? = some (.slice d.pa 1 d.pc) := by rw [hr]; rfl
  obtain ⟨g0, o0, hba, _, _, _⟩ := hb.cellAt hl0
  subst hba
  have HB2 := hid (fun w' (hc : Chg Nil w w') => hb.chg hc (fun _ _ _ h => h))
  have hbc := hb.1
  replace hr := hid hr
  replace hrr := hid hrr
  replace hn := hid hn
  replace hdd := hid hdd
  replace hkd := hid hkd
  replace hi := hid hi
  clear hd h hP
  go_enter Tryz.func210, Tryz.ntmps210
  go_wp2_with fail
  refine HN.out.mono ?_
  rintro e w1 ⟨rfl, c1⟩
  have B1 := Blk.new w1 120 r
  have x7 := B1.cell 7
  rw [k7] at x7
  have S1 := hS w1
  have C1 := hid (c1.alloc (.cells r.toArray 120))
  have hsz := c1.size
  generalize w1.alloc (.cells r.toArray 120) = W at S1 x7 C1 B1
  replace B1 := hid B1
  clear hS c1 HN
  go_wp2_with (refine wpList_store_run S1 (by rfl) (by rfl) (by rfl) (by rfl) ?_)
  refine (HB.out _).mono ?_
  rintro e w' ⟨rfl, rfl⟩
  go_wp2_with fail
  refine (HC.out _ C1.out).mono ?_
  rintro e w2 ⟨a1, c, G1, rfl, q1, q2, q3⟩
  obtain ⟨gp, op, rfl, rfl, hltp⟩ := q1.block (by omega)
  have hgp0 : W.heap.size ≤ gp := q3 gp rfl
  have hlb := B1.out.lt
  have hgp : w1.heap.size < gp := by omega
  replace q1 := hid q1
  have B2 := hid (B1.out.chg q2 (fun h => h))
  have C2 := hid (C1.out.trans q2 (fun _ _ h => h))
  clear x7 k7 S1 q2 q3 B1 C1 HC
  go_wp2
  go_loopw [8] (fun s8 wr => s8 = .slice (some ⟨gp, op, none⟩) 1 c ∧ Hid (wr = w2)) (fun _ _ => 0)
  case atStart => exact ⟨rfl, rfl⟩
  case round =>
    obtain ⟨rfl, hw⟩ := hrel
    have hw' := hw.out
    subst hw'
    clear hw
    go_wp2
    obtain ⟨wo, rfl⟩ : ∃ wo : World, wo = wr := ⟨_, rfl⟩
    go_loopw [8] (fun s8 wr => s8 = .slice (some ⟨gp, op, none⟩) 1 c ∧ Hid (wr = wo)) (fun _ _ => 0)
    case atStart => exact ⟨rfl, rfl⟩
    case round =>
      obtain ⟨rfl, hw⟩ := hrel
      have hw' := hw.out
      subst hw'
      clear hw
      · have hSl := q1
        have B1 := B2
        have C1 := C2
        clear q1 B2 C2
        have y7 := B1.out.cell 7
        have y4 := B1.out.cell 4
        have z7 := B1.out.frozen 7
        have z4 := B1.out.frozen 4
        obtain ⟨v7, hv7⟩ : ∃ v7, r[7]? = some v7 := ⟨_, List.getElem?_eq_getElem (by omega)⟩
        obtain ⟨v4, hv4⟩ : ∃ v4, r[4]? = some v4 := ⟨_, List.getElem?_eq_getElem (by omega)⟩
        rw [hv7] at y7
        rw [hv4] at y4
        obtain ⟨rr, hrr2⟩ : ∃ rr, rr = (d.one n 0 none 0).r7 := ⟨_, rfl⟩
        have hrr7 : rr.length = 7 := by rw [hrr2]; rfl
        have e74 : (r.set 7 (.slice (some ⟨gp, op, none⟩) 1 c)).set 4 (.int .i64 (n : Int)) = rr ++ [Value.slice (some ⟨gp, op, none⟩) 1 c] := by rw [hrr2, hrr.out]; rfl
        have B3 := (B1.out.set 7 (.slice (some ⟨gp, op, none⟩) 1 c)).set 4 (.int .i64 (n : Int))
        rw [e74] at B3
        have d3 : Chg (One w1.heap.size) wr ((wr.setCell ⟨w1.heap.size, 7, none⟩ (.slice (some ⟨gp, op, none⟩) 1 c)).setCell ⟨w1.heap.size, 4, none⟩ (.int .i64 (n : Int))) := ((Chg.refl (One w1.heap.size) wr).setCell (p := ⟨w1.heap.size, 7, none⟩) (.inl (show One w1.heap.size w1.heap.size from rfl)) _).setCell (p := ⟨w1.heap.size, 4, none⟩) (.inl (show One w1.heap.size w1.heap.size from rfl)) _
        have C3 := hid (C1.out.one (.inr hsz) d3)
        have S3 := hid ((hSl.out.chg d3 (fun g hg hh => by injection hg with hg; rw [show g = w1.heap.size from hh] at hg; omega)).rd)
        replace B3 := hid B3
        clear d3 hv7 hv4 e74
        go_wp2
        generalize (wr.setCell ⟨w1.heap.size, 7, none⟩ (.slice (some ⟨gp, op, none⟩) 1 c)).setCell ⟨w1.heap.size, 4, none⟩ (.int .i64 (n : Int)) = V at B3 C3 S3 ⊢
        clear y7 y4 z7 z4
        go_loopw [57] (fun i wq => ∃ j : Nat, j ≤ 1 ∧ i = .int .i64 j ∧ Hid (if j = 0 then wq = V else ∃ s a' c', s.l = padB l ∧ Blk wq w1.heap.size 120 (rr ++ [Value.slice a' 1 c']) ∧ Rd wq (But R (One w1.heap.size)) 1 a' 1 c' [.int .i64 ((d.pt : Nat) : Int)] ∧ TxA wq FF FD f p q bt bh zs X N (But R (One w1.heap.size)) t gn go gc bd bp (T.putS ((d.pt : Nat) : Int) s) ∧ Chg (Mt t gn bd bp) w wq)) (fun i _ => 1 - (intOf i).toNat)
        case atStart => exact ⟨0, by omega, rfl, hid (by rw [if_pos rfl])⟩
        case round =>
          obtain ⟨jj, hjj, rfl, hE⟩ := hrel
          by_cases hlt5 : jj < 1
          · have hj0 : jj = 0 := by omega
            subst hj0
            have hE' := hE.out
            rw [if_pos rfl] at hE'
            subst hE'
            clear hE
            have hmk := mk_bytes 64 (by omega) 64 rfl
            have M1 := zr_sl wr 64 (by omega)
            have CZ := hid (C3.out.alloc (.cells (zr 64).toArray 5))
            have BZ := hid (B3.out.alloc (.cells (zr 64).toArray 5))
            have SZ := hid (S3.out.alloc (.cells (zr 64).toArray 5))
            have RB := HB2.out _ CZ.out
            have MB := M1.over (lo := 0) (vs := bys l) (by omega) (by rw [ints_length, ← hn.out]; omega)
            have cpz := setCells_chg (wr.alloc (.cells (zr 64).toArray 5)) wr.heap.size 0 (bys l) (One wr.heap.size) rfl
            have hcp : ∀ ty, (Builtin.copy_ #[22, 22] ty #[.slice (some ⟨wr.heap.size, 0, none⟩) 64 64, .slice (some ⟨g0, o0, none⟩) n bc]).run Tryz.prog (wr.alloc (.cells (zr 64).toArray 5)) = .ok (goInt n) ((wr.alloc (.cells (zr 64).toArray 5)).setCells wr.heap.size 0 (bys l)) := fun ty =>
              copy_sl _ _ _ ty eU8 (Blk.new wr 5 (zr 64)) 64 64 RB (by omega) (by omega) (by simp [zr_len]; omega) (ints_one _ _)
            rw [Nat.add_zero] at MB
            have hpad : List.take 0 (zr 64) ++ bys l ++ List.drop (0 + (bys l).length) (zr 64) = bys (padB l) := by
              rw [List.take_zero, List.nil_append, Nat.zero_add]
              exact pad_gen 64 l
            rw [hpad] at MB
            have lq := B3.out.lt
            clear M1 RB hpad
            generalize (wr.alloc (.cells (zr 64).toArray 5)).setCells wr.heap.size 0 (bys l) = V5 at MB cpz hcp
            have C5 := CZ.out.one (.inr C3.out.size) cpz
            have hqn : w1.heap.size ≠ wr.heap.size := by omega
            have hqp : gp ≠ wr.heap.size := by
              obtain ⟨g8, o8, e8, l8, _, _⟩ := S3.out.2.2.2 (by omega)
              obtain ⟨rfl, rfl⟩ : gp = g8 ∧ op = o8 := by simpa using e8
              omega
            have B5 := BZ.out.chg cpz (fun hh => hqn hh)
            have S5 := SZ.out.chg cpz (fun g _ hg hh => by injection hg with hg; exact hqp (hg.trans hh))
            have TX5 := H.out.cut C5 (L := One w1.heap.size) (fun k hk => by rw [show k = w1.heap.size from hk]; exact ⟨hsz, B5.lt⟩)
            have SS : SecAt V5 (But R (One w1.heap.size)) ⟨padB l, some ⟨wr.heap.size, 0, none⟩, 64⟩ := MB.rd.mono (fun k hk => by
              have hk' : wr.heap.size = k := by injection hk
              subst hk'
              exact ⟨H.out.rup _ (.inr C3.out.size), fun hh => hqn (Eq.symm hh)⟩)
            have hb1 : ¬ But R (One w1.heap.size) w1.heap.size := fun hh => hh.2 rfl
            have hb2 : ¬ FF w1.heap.size := fun hh => by have := H.out.old _ hh; have := H.out.new.1; have := H.out.lt.1; omega
            have hb3 : ¬ Mt t gn bd bp w1.heap.size := fun hh => by have := H.out.lt; rcases hh with hh | hh | hh | hh <;> omega
            have HW := hid (fwrite_1 TX5 w1.heap.size rr hrr7 _ c d.pt h0 _ B5 S5 ⟨padB l, some ⟨wr.heap.size, 0, none⟩, 64⟩ SS hb1 hb2 hb3)
            have C5' := hid C5
            clear B5 S5 SS MB cpz TX5 CZ BZ SZ hb1 hb2 hb3 C5
            go_wp2_with fail
            refine HW.out.mono ?_
            rintro e w6 ⟨rfl, a', c', b6, r6, t6, d6⟩
            have D6 : Hid (Chg (Mt t gn bd bp) w w6) := hid ((C5'.out.mono (fun _ _ h => h.elim)).trans d6 (fun k hk hh => by
              rcases hh with hh | hh
              · exact hh
              · rw [show k = w1.heap.size from hh] at hk; omega))
            replace b6 := hid b6
            replace r6 := hid r6
            replace t6 := hid t6
            clear d6 HW hcp
            go_wp2
            go_roundw
            case rel => exact ⟨1, by omega, by go_num, hid (by rw [if_neg (by omega)]; exact ⟨⟨padB l, some ⟨wr.heap.size, 0, none⟩, 64⟩, a', c', rfl, b6.out, r6.out, t6.out, D6.out⟩)⟩
            case measure => simp [intOf]
          · have hj1 : jj = 1 := by omega
            subst hj1
            have hE' := hE.out
            rw [if_neg (by omega)] at hE'
            obtain ⟨s, a', c', hsl, b6, r6, t6, d6⟩ := hE'
            clear hE
            obtain ⟨p1, hp1⟩ : ∃ p1, p1 = d.pt := ⟨_, rfl⟩
            have hp0 : 0 < p1 := by omega
            have hp2 : p1 < 256 := by have := H.out.mle; omega
            have hrow : rr ++ [Value.slice a' 1 c'] = (d.one n p1 a' c').row := by
              rw [Nd.row1 (d := d.one n p1 a' c') hp0, hrr2]; rfl
            rw [hrow] at b6
            rw [← hp1] at r6 t6
            have LR := load_blk (P := Tryz.prog) (ty := 120) b6 Tryz.underlying120 rfl (by rw [Nd.row_len]; kernel_rfl)
            have HST := fset_ok t6 k hk i hi.out (d.one n p1 a' c') (.inr ⟨hp0, r6⟩) (.inr ⟨hkd.out.1, hkd.out.2.1, hl6, hkd.out.2.2, hp2, by show n = 0 ↔ p1 = 0; omega⟩)
            obtain ⟨row, hro⟩ : ∃ row, row = (d.one n p1 a' c').row := ⟨_, rfl⟩
            rw [← hro] at LR HST
            replace HST := hid HST
            replace hro := hid hro
            replace d6 := hid d6
            replace hp1 := hid hp1
            clear b6 r6 t6 hrow
            go_wp2_with (refine wpList_load_run LR (by rfl) (by rfl) (by rfl) ?_)
            refine HST.out.mono ?_
            rintro e w9 ⟨rfl, h1, h2⟩
            have h1' := hid (h1.grow H.out (Nat.le_trans d6.out.size h2.size))
            replace h2 := hid h2
            clear h1
            go_wp2
            go_end0
            refine ⟨rfl, s, a', c', hsl, ?_, d6.out.trans h2.out (fun _ _ h => h)⟩
            have := h1'.out
            rw [hp1.out, hdd.out, hn.out] at this
            exact this
end Go.Proofs.YtdcbagmgflcemaaGreatDoor
namespace Go.Proofs.YtdcbagmgflcemaaGreatDoor
open Go.ChangeShapes Go.WideShapes Go.ChangeAt Go.RowKit
set_option linter.unusedVariables false
theorem eExt : ETy Tryz.prog 312 316 2 16 := ⟨Tryz.underlying312, info_of (z := .agg #[.int .i64 0, .int .i64 0]) (by kernel_rfl) rfl, by decide⟩
set_option maxRecDepth 100000 in
theorem xright_1 (w : World) (R : Nat → Prop) (a : Option Addr) (c pt : Nat) (h : Rd w R 1 a 1 c [.int .i64 (pt : Int)]) (hp : pt < 256) : Calls Tryz.prog 190 #[.slice a 1 c] w fun e w' => e = .returned (.int .i64 0) ∧ w = w' := by
  obtain ⟨g, o, rfl, _, _, hc⟩ := h.cellAt (by omega)
  have k0 := hc 0 (by omega)
  rw [Nat.add_zero, List.getElem?_cons_zero] at k0
  have i1 : (pt : Int) < 256 := by omega
  clear hc h
  go_enter Tryz.func190, Tryz.ntmps190
  go_wp2
  go_loopw [10] (fun i wr => ∃ j : Nat, j ≤ 1 ∧ i = .int .i64 j ∧ Hid (wr = w)) (fun i _ => 1 - (intOf i).toNat)
  case atStart => exact ⟨0, by omega, rfl, rfl⟩
  case round =>
    obtain ⟨j, hj, rfl, hw⟩ := hrel
    have hw' := hw.out
    subst hw'
    clear hw
    by_cases hlt : j < 1
    · have hj0 : j = 0 := by omega
      subst hj0
      go_wp2
      go_roundw
      case rel => exact ⟨1, by omega, by go_num, by first | exact hid rfl | exact hid trivial⟩
      case measure => simp [intOf]
    · go_wp2
      go_ret
      exact ⟨rfl, rfl⟩
set_option maxRecDepth 100000 in
set_option maxHeartbeats 1000000 in
theorem xof_1 (w : World) (R : Nat → Prop) (a : Option Addr) (c pt : Nat) (h : Rd w R 1 a 1 c [.int .i64 (pt : Int)]) (hp : pt < 256) : Calls Tryz.prog 191 #[.slice a 1 c] w fun e w' => ∃ a' c' G, e = .returned (.tuple #[.slice a' 1 c', .int .i64 0]) ∧ Sl w' 316 2 a' 1 c' [.int .i64 (pt : Int), .int .i64 1] G ∧ Chg Nil w w' ∧ ∀ g, G = some g → w.heap.size ≤ g := by
  have HX := hid (xright_1 w R a c pt h hp)
  obtain ⟨g, o, rfl, _, _, hc⟩ := h.cellAt (by omega)
  have k0 := hc 0 (by omega)
  rw [Nat.add_zero, List.getElem?_cons_zero] at k0
  clear hc h
  go_enter Tryz.func191, Tryz.ntmps191
  go_wp2_with fail
  refine HX.out.mono ?_
  rintro e w' ⟨rfl, rfl⟩
  go_wp2
  go_loopw [5, 16] (fun s5 i wr => ∃ (j : Nat) (a' : Option Addr) (c' : Nat) (G : Option Nat), j ≤ 1 ∧ s5 = .slice a' j c' ∧ i = .int .i64 j ∧ Hid (Sl wr 316 2 a' j c' ((List.replicate j [Value.int .i64 (pt : Int), .int .i64 1]).flatten) G) ∧ Hid (Chg Nil w wr) ∧ Hid (∀ g, G = some g → w.heap.size ≤ g) ∧ Hid (j = 0 → wr = w)) (fun _ i _ => 1 - (intOf i).toNat)
  case atStart => exact ⟨0, none, 0, none, by omega, rfl, rfl, Sl.empty _ _ _ _, Chg.refl _ _, hid (fun g hg => (by cases hg)), hid (fun _ => rfl)⟩
  case round =>
    obtain ⟨j, a', c', G, hj, rfl, rfl, hS, hC, hG, hw⟩ := hrel
    by_cases hlt : j < 1
    · have hj0 : j = 0 := by omega
      subst hj0
      have hw' := hw.out rfl
      subst hw'
      clear hw hC
      have NB := hid (Rd.of_blk (n := 1) (s := 2) (Blk.new wr 316 [.int .i64 (pt : Int), .int .i64 1]) rfl (by decide))
      have SB := hid (hS.out.alloc (.cells #[.int .i64 (pt : Int), .int .i64 1] 316))
      have CB := hid ((Chg.refl Nil wr).alloc (.cells #[.int .i64 (pt : Int), .int .i64 1] 316))
      clear hS
      go_wp2_with (at_builtin; refine wpList_append_sl rfl _ _ eExt rfl rfl rfl SB.out NB.out (fun u hu => by simp only [List.mem_cons, List.not_mem_nil, or_false] at hu; rcases hu with rfl | rfl <;> rfl) (by omega) (by omega) ?_; intro a2 c2 w2 G2 y1 y2 y3; replace y1 := hid y1; replace y2 := hid y2; replace y3 := hid y3)
      go_roundw
      case rel => exact ⟨1, a2, c2, G2, by omega, rfl, by go_num, y1.out, CB.out.trans y2.out (fun k hk hh => by have := hG.out k hh; omega), hid (fun g hg => by
        rcases y3.out with y3 | y3
        · rw [y3] at hg; exact hG.out g hg
        · rw [y3] at hg; injection hg with hg; rw [← hg]; simp), hid (fun hh => (by omega))⟩
      case measure => simp [intOf]
    · have hj1 : j = 1 := by omega
      subst hj1
      clear hw
      go_wp2
      go_ret2
      exact ⟨a', c', G, rfl, hS.out, hC.out, hG.out⟩
set_option maxRecDepth 100000 in
set_option maxHeartbeats 2000000 in
theorem xpack_1 (w : World) (R : Nat → Prop) (a : Option Addr) (c pt : Nat) (h : Rd w R 1 a 1 c [.int .i64 (pt : Int)]) (h0 : 0 < pt) (hp : pt < 256) : Calls Tryz.prog 111 #[.slice a 1 c] w fun e w' => ∃ b, e = .returned (.tuple #[.slice (some ⟨b, 0, none⟩) 16 16, .int .i64 0]) ∧ Blk w' b 5 (bys (ptB pt)) ∧ Chg Nil w w' ∧ w.heap.size ≤ b := by
  have hmk := mk_bytes 16 (by omega) 16 rfl
  have HO := hid (xof_1 w R a c pt h hp)
  clear h
  go_enter Tryz.func111, Tryz.ntmps111
  go_wp2_with fail
  refine HO.out.mono ?_
  rintro e w1 ⟨a1, c1, G1, rfl, q1, q2, q3⟩
  obtain ⟨g, o, rfl, rfl, hlt1⟩ := q1.block (by omega)
  have hsz := q2.size
  have BZ := Blk.new w1 5 (zr 16)
  have SZ := (q1.alloc (.cells (zr 16).toArray 5)).rd
  have CZ := hid (q2.alloc (.cells (zr 16).toArray 5))
  generalize hV : w1.alloc (.cells (zr 16).toArray 5) = V at BZ SZ CZ
  have hlV : V.heap.size = w1.heap.size + 1 := by rw [← hV, alloc_size]
  replace hV := hid hV
  replace BZ := hid BZ
  replace SZ := hid SZ
  replace q3 := hid q3
  clear q1 q2 HO
  go_wp2
  go_loopw [20] (fun i wr => ∃ j : Nat, j ≤ 1 ∧ i = .int .i64 j ∧ Hid (Blk wr w1.heap.size 5 (if j = 0 then zr 16 else bys (ptB pt))) ∧ Hid (Chg Nil w wr) ∧ Hid (j = 0 → wr = V)) (fun i _ => 1 - (intOf i).toNat)
  case atStart => exact ⟨0, by omega, rfl, hid (by rw [if_pos rfl]; have := BZ.out; rw [← hV.out] at this; exact this), (by have := CZ.out; rw [← hV.out] at this; exact hid this), hid (fun _ => by rw [← hV.out])⟩
  case round =>
    obtain ⟨j, hj, rfl, hB, hC, hw⟩ := hrel
    by_cases hlt : j < 1
    · have hj0 : j = 0 := by omega
      subst hj0
      have hw' := hw.out rfl
      subst hw'
      clear hw hC hB hV
      obtain ⟨g2, o2, e2, _, _, hcell⟩ := SZ.out.2.2.2 (by omega)
      obtain ⟨rfl, rfl⟩ : g = g2 ∧ o = o2 := by simpa using e2
      have k0 := hcell 0 (by omega)
      have k1 := hcell 1 (by omega)
      rw [Nat.add_zero, List.getElem?_cons_zero] at k0
      simp only [List.getElem?_cons_succ, List.getElem?_cons_zero] at k1
      have B2 := BZ.out.alloc (.cells #[.int .i64 (pt : Int), .int .i64 1] 316)
      have X2 := Blk.new wr 316 [.int .i64 (pt : Int), .int .i64 1]
      rw [hlV] at X2
      have C2 := hid (CZ.out.alloc (.cells #[.int .i64 (pt : Int), .int .i64 1] 316))
      clear hcell e2
      go_upto_region 8 with fail
      generalize wr.alloc (.cells #[.int .i64 (pt : Int), .int .i64 1] 316) = U at B2 X2 C2 ⊢
      have x0 := X2.cell 0
      have x1 := X2.cell 1
      simp only [List.getElem?_cons_succ, List.getElem?_cons_zero] at x0 x1
      have b0 := B2.cell 0
      have b1 := B2.cell 1
      rw [zr_get (by omega)] at b0 b1
      have f0 := B2.frozen 0
      have f1 := B2.frozen 1
      have e1 : IntKind.u8.wrap (pt : Int) = (pt : Int) := by simp [IntKind.wrap, IntKind.bits, IntKind.signed]; omega
      have FB : Hid (Blk ((U.setCell ⟨w1.heap.size, 0, none⟩ (.int .u8 (pt : Int))).setCell ⟨w1.heap.size, 1, none⟩ (.int .u8 1)) w1.heap.size 5 (bys (ptB pt))) := by
        have := (B2.set 0 (.int .u8 (pt : Int))).set 1 (.int .u8 1)
        have e : ((zr 16).set 0 (.int .u8 (pt : Int))).set 1 (.int .u8 1) = bys (ptB pt) := by
          unfold ptB; rw [if_neg (by omega)]; rfl
        rw [e] at this
        exact hid this
      have FC : Hid (Chg Nil w ((U.setCell ⟨w1.heap.size, 0, none⟩ (.int .u8 (pt : Int))).setCell ⟨w1.heap.size, 1, none⟩ (.int .u8 1))) := hid ((C2.out.setCell (p := ⟨w1.heap.size, 0, none⟩) (.inr hsz) _).setCell (p := ⟨w1.heap.size, 1, none⟩) (.inr hsz) _)
      replace B2 := hid B2
      replace X2 := hid X2
      have hne : wr.heap.size ≠ w1.heap.size := by omega
      go_region
      all_goals
        go_wp2
        go_roundw
        case rel => exact ⟨1, by omega, by go_num, hid (by rw [if_neg (by omega)]; exact FB.out.drew), FC.out.drew, hid (fun hh => (by omega))⟩
        case measure => simp [intOf]
    · have hj1 : j = 1 := by omega
      subst hj1
      have hB' := hB.out
      rw [if_neg (by omega)] at hB'
      replace hB' := hid hB'
      clear hw hB
      go_wp2
      go_ret2
      exact ⟨_, rfl, hB'.out, hC.out, hsz⟩
end Go.Proofs.YtdcbagmgflcemaaGreatDoor
namespace Go.Proofs.YtdcbagmgflcemaaGreatDoor
open Go.ChangeShapes Go.WideShapes Go.ChangeAt Go.RowKit
set_option linter.unusedVariables false
set_option maxRecDepth 100000 in
set_option maxHeartbeats 2000000 in
theorem ndright_any (w : World) (kd md sz ln up n : Nat) (a : Option Addr) (c : Nat) (hk : kd = 1 ∧ up = 0 ∨ kd = 2 ∧ 1 ≤ up ∧ up ≤ 32) (h1 : md ≤ 511) (h2 : sz ≤ 64) (h3 : ln ≤ 200)
    (hR : ∀ w', Chg Nil w w' → Calls Tryz.prog 190 #[.slice a n c] w' fun e w'' => e = .returned (.int .i64 0) ∧ w' = w'') (hB : ∀ w', Calls Tryz.prog 131 #[.int .i64 (sz : Int)] w' fun e w'' => e = .returned (.int .i64 (n : Int)) ∧ w' = w'') :
    Calls Tryz.prog 110 #[.agg #[.int .i64 (kd : Int), .int .i64 (md : Int), .int .i64 0, .int .i64 0, .int .i64 (sz : Int), .int .i64 (ln : Int), .int .i64 (up : Int), .slice a n c]] w fun e w' => e = .returned (.int .i64 0) ∧ Chg Nil w w' := by
  have i1 : (md : Int) ≤ 511 := by omega
  have i2 : (sz : Int) ≤ 64 := by omega
  have i3 : (ln : Int) ≤ 200 := by omega
  have HR := hid (hR _ ((Chg.refl Nil w).alloc (.cells #[.int .i64 (kd : Int), .int .i64 (md : Int), .int .i64 0, .int .i64 0, .int .i64 (sz : Int), .int .i64 (ln : Int), .int .i64 (up : Int), .slice a n c] 120)))
  have HB := hid hB
  clear hR hB h1 h2 h3
  rcases hk with ⟨rfl, rfl⟩ | ⟨rfl, u1, u2⟩
  · go_enter Tryz.func110, Tryz.ntmps110
    go_wp2_with fail
    refine HR.out.mono ?_
    rintro e w' ⟨rfl, rfl⟩
    go_upto_region 14 with fail
    go_region_law (go_simp; go_at_call 131; refine (HB.out _).mono ?_; rintro e w' ⟨rfl, rfl⟩)
    all_goals
      go_wp2
      go_ret
      exact ⟨rfl, ((Chg.refl Nil w).alloc _).drew⟩
  · have i4 : (1 : Int) ≤ (up : Int) := by omega
    have i5 : (up : Int) ≤ 32 := by omega
    clear u1 u2
    go_enter Tryz.func110, Tryz.ntmps110
    go_wp2_with fail
    refine HR.out.mono ?_
    rintro e w' ⟨rfl, rfl⟩
    go_upto_region 14 with fail
    go_region_law (go_simp; go_at_call 131; refine (HB.out _).mono ?_; rintro e w' ⟨rfl, rfl⟩)
    all_goals
      go_wp2
      go_ret
      exact ⟨rfl, ((Chg.refl Nil w).alloc _).drew⟩
set_option maxRecDepth 100000 in
set_option maxHeartbeats 1000000 in
theorem ndstat_ok (w : World) (kd md sz ln up : Int) (v : Value) (h1 : v.oneCell' = true) : Calls Tryz.prog 231 #[.agg #[.int .i64 kd, .int .i64 md, .int .i64 0, .int .i64 0, .int .i64 sz, .int .i64 ln, .int .i64 up, v]] w fun e w' => e = .returned (.agg #[.int .i64 kd, .int .i64 md, .int .i64 0, .int .i64 0, .int .i64 sz, .int .i64 ln]) ∧ Chg Nil w w' := by
  go_enter Tryz.func231, Tryz.ntmps231
  go_wp2
  have B1 := Blk.new (w.alloc (.cells #[.int .i64 kd, .int .i64 md, .int .i64 0, .int .i64 0, .int .i64 sz, .int .i64 ln, .int .i64 up, v] 120)) 31 [.int .i64 kd, .int .i64 md, .int .i64 0, .int .i64 0, .int .i64 sz, .int .i64 ln]
  rw [alloc_size] at B1
  refine bodyPost_ret (results_blk rfl B1 rfl Tryz.underlying31 rfl (by kernel_rfl)) rfl ?_
  exact ⟨rfl, ((Chg.refl Nil w).alloc _).alloc _⟩
end Go.Proofs.YtdcbagmgflcemaaGreatDoor
