/- check.Tree of an empty file system. Conditions: just that; a disk of at least 64 sectors · fs.Mount of a new file system. Conditions: just that · fs.Sync of a new file system. Conditions: just that. -/
import Derived.Test.YtjllklddjkkddaaGreatDoorZ16
import Derived.Test.YtjllklddjkkddaaGreatDoorZ13
import Derived.Test.YtjllklddjkkddaaGreatDoorZ12
import Derived.Handy
import Derived.Test.YtjllklddjkkddaaGreatDoorZ18
import Derived.Test.YtjllklddjkkddaaGreatDoorZ14
namespace Go.Proofs.YtjllklddjkkddaaGreatDoor
open Go.ChangeShapes Go.WideShapes Go.ChangeAt Go.RowKit
set_option linter.unusedVariables false
theorem eNd : ETy Tryz.prog 137 128 8 80 := ⟨Tryz.underlying137, info_of (z := .agg (ndCells 0 0 0 0).toArray) (by kernel_rfl) rfl, by decide⟩
/-- The bytes of the sector of nodes at a place. -/
def ndS (k : Nat) : List Int := (if k = 0 then ndB 2 493 1 1 else ndB 0 0 0 0) ++ ndB 0 0 0 0
theorem ndunpack_any (w : World) (R : Nat → Prop) (b : Option Addr) (c : Nat) (j : Nat) (h : Rd w R 1 b 32 c (bys (if j = 0 then ndB 2 493 1 1 else ndB 0 0 0 0))) :
    Calls Tryz.prog 115 #[.slice b 32 c] w fun e w' => e = .returned (.tuple #[ndV (ndQ j).1 (ndQ j).2.1 (ndQ j).2.2.1 (ndQ j).2.2.2, .int .i64 0]) ∧ Chg Nil w w' := by
  by_cases hj : j = 0
  · rw [if_pos hj] at h
    have := ndunpack_1 w R b c h
    rw [show ndQ j = (2, 493, 1, 1) by unfold ndQ; rw [if_pos hj]]
    exact this
  · rw [if_neg hj] at h
    have := ndunpack_0 w R b c (by rw [zr_bys]; exact h)
    rw [show ndQ j = (0, 0, 0, 0) by unfold ndQ; rw [if_neg hj]]
    exact this
set_option maxRecDepth 100000 in
set_option maxHeartbeats 2000000 in
theorem tree_ok (w : World) (F : Nat → Prop) (p n : Nat) (zs : List Int) (m : Nat) (h : DkAt w F p n zs m) (hn : 64 ≤ n) (hz : ∀ k, k < 16 → secS zs (37 + k) = ndS k) (cs : List Value) (hl : cs.length = 48) (hcs : ∀ k, k < 16 → cs[k]? = some (.int .i64 (37 + (k : Int)))) :
    Calls Tryz.prog 53 #[.iface 47 (.pointer (some ⟨p, 0, none⟩)), .agg cs.toArray] w fun e w' => ∃ a c G, e = .returned (.tuple #[.slice a 32 c, .int .i64 0]) ∧ Sl w' 128 8 a 32 c ((ndL 32).flatMap ndR) G ∧ Chg Nil w w' ∧ ∀ g, G = some g → w.heap.size ≤ g := by
  have B0 := hid (Blk.new w 120 cs)
  have L0 := run_loadAt_mid (P := Tryz.prog) _ w.heap.size 0 61 (part_ cs 0 16) _ (B0.out.range (by omega)) Tryz.underlying61 rfl (by rw [part_len (by omega)]; kernel_rfl)
  have H := hid h
  have HZ := hid hz
  have HCS := hid hcs
  clear h hz hcs
  go_enter Tryz.func53, Tryz.ntmps53
  go_wp2_with (refine wpList_load_run L0 (by rfl) (by rfl) (by rfl) ?_)
  clear L0
  go_loopw [6, 16] (fun s6 i wr => ∃ (k N : Nat) (a : Option Addr) (c : Nat) (G : Option Nat), k ≤ 16 ∧ N = k * 2 ∧ s6 = .slice a N c ∧ i = .int .i64 k ∧ Hid (Sl wr 128 8 a N c ((ndL N).flatMap ndR) G) ∧ Hid (Chg Nil w wr) ∧ Hid (∀ g, G = some g → w.heap.size ≤ g)) (fun _ i _ => 16 - (intOf i).toNat)
  case atStart => exact ⟨0, 0, none, 0, none, by omega, rfl, rfl, rfl, Sl.empty _ _ _ _, (Chg.refl Nil w).alloc _, fun g hg => by cases hg⟩
  case round =>
    obtain ⟨k, N, a, c, G, hk, hN, rfl, rfl, hS, hC, hG⟩ := hrel
    by_cases hlt : k < 16
    · have hix := fun w => index_arr (P := Tryz.prog) w Tryz.underlying61 (by kernel_rfl) (fun w => Tryz.isAgg3 w) hlt ((part_get (cs := cs) (lo := 0) (n := 16) (by omega) hlt).trans (by rw [Nat.zero_add]; exact HCS.out k hlt))
      have HR := hid (dkread_ok wr F p n zs m (H.out.nil hC.out) (37 + k) (by omega))
      rw [HZ.out k hlt] at HR
      go_wp2_with (go_at_call 49; refine HR.out.mono ?_; rintro e w2 ⟨a1, c1, G1, rfl, s1, d1, g1⟩; replace s1 := hid s1; replace d1 := hid d1; clear g1)
      obtain ⟨g1, o1, rfl, rfl, hg1⟩ := s1.out.block (by omega)
      replace hg1 := hid hg1
      have hc1 : 64 ≤ c1 := s1.out.1
      go_loopw [6, 27] (fun s6 i wr => ∃ (j M : Nat) (a : Option Addr) (c : Nat) (G : Option Nat), j ≤ 2 ∧ M = k * 2 + j ∧ s6 = .slice a M c ∧ i = .int .i64 j ∧ Hid (Sl wr 128 8 a M c ((ndL M).flatMap ndR) G) ∧ Hid (Chg Nil w wr) ∧ Hid (Rd wr (One g1) 1 (some ⟨g1, o1, none⟩) 64 c1 (bys (ndS k))) ∧ Hid (G ≠ some g1 ∧ g1 < wr.heap.size) ∧ Hid (∀ g, G = some g → w.heap.size ≤ g)) (fun _ i _ => 2 - (intOf i).toNat)
      case atStart =>
        refine ⟨0, k * 2, a, c, G, by omega, rfl, rfl, rfl, ?_, hC.out.trans d1.out (fun _ _ h => h), s1.out.rd.mono (fun g hg => by injection hg with hg; exact hg.symm), ⟨?_, hg1.out⟩, hG⟩
        · have := hS.out.chg d1.out (fun _ _ h => h)
          rwa [hN] at this
        · exact sl_apart s1.out (hS.out.chg d1.out (fun _ _ h => h)) (by decide) g1 rfl
      case round =>
        obtain ⟨j, M, a, c, G, hj, hM, rfl, rfl, hS, hC, hX1, hX2, hG⟩ := hrel
        by_cases hlt2 : j < 2
        · have hp : (List.drop (32 * j) (bys (ndS k))).take 32 = bys (if M = 0 then ndB 2 493 1 1 else ndB 0 0 0 0) := by
            rcases j with _ | _ | j
            · rw [Nat.add_zero] at hM
              by_cases hk0 : k = 0
              · rw [if_pos (by omega)]; unfold ndS; rw [if_pos hk0]; rfl
              · rw [if_neg (by omega)]; unfold ndS; rw [if_neg hk0]; rfl
            · rw [if_neg (by omega)]
              by_cases hk0 : k = 0
              · unfold ndS; rw [if_pos hk0]; rfl
              · unfold ndS; rw [if_neg hk0]; rfl
            · omega
          have R3 := hX1.out.sub (lo := 32 * j) (k := 32) (by omega)
          rw [hp] at R3
          have HU := ndunpack_any _ _ _ _ M R3
          obtain ⟨x, hx⟩ : ∃ x, x = ndQ M := ⟨_, rfl⟩
          rw [← hx] at HU
          obtain ⟨x1, x2, x3, x4⟩ := x
          unfold ndV at HU
          replace HU := hid HU
          replace hx := hid hx
          have i1 : 32 * (j : Int) ≤ 64 := by omega
          have i2 : 32 * ((j : Int) + 1) ≤ 64 := by omega
          clear R3 hp
          have hM32 : M ≤ 32 := by omega
          replace hM := hid hM
          go_wp2_with fail
          rw [show 32 * (j + 1) - 32 * j = 32 by omega]
          refine HU.out.mono ?_
          rintro e w3 ⟨rfl, c3⟩
          have c4 := hid ((c3.alloc (.cells (ndCells x1 x2 x3 x4).toArray 128)).alloc (.cells (ndCells x1 x2 x3 x4).toArray 128))
          have S4 := hid (hS.out.chg c4.out (fun _ _ h => h))
          have N4 : Hid (Rd ((w3.alloc (.cells (ndCells x1 x2 x3 x4).toArray 128)).alloc (.cells (ndCells x1 x2 x3 x4).toArray 128)) (One (w3.heap.size + 1)) 8 (some ⟨w3.heap.size + 1, 0, none⟩) 1 1 (ndR (x1, x2, x3, x4))) := by
            have := Blk.new (w3.alloc (.cells (ndCells x1 x2 x3 x4).toArray 128)) 128 (ndCells x1 x2 x3 x4)
            rw [show (w3.alloc (.cells (ndCells x1 x2 x3 x4).toArray 128)).heap.size = w3.heap.size + 1 by simp] at this
            exact hid (Rd.of_blk (n := 1) (s := 8) this rfl (by decide))
          clear c3
          go_wp2_with (at_builtin; refine wpList_append_sl rfl _ _ eNd rfl rfl rfl S4.out N4.out (ndR_one _) (by omega) (by omega) ?_; intro a' c' w4 G' y1 y2 y3; replace y1 := hid y1; replace y2 := hid y2; replace y3 := hid y3)
          go_roundw
          case rel =>
            have hM := hM.out
            refine ⟨j + 1, M + 1, a', c', G', by omega, by omega, rfl, by go_num, ?_, (hC.out.trans c4.out (fun _ _ h => h)).trans y2.out (fun i hi hh => absurd (hG.out i hh) (by omega)), ?_, ⟨?_, ?_⟩, ?_⟩
            · have := y1.out
              refine hid ?_
              rw [ndL_succ, List.flatMap_append, ← hx.out]
              simpa using this
            · exact (hX1.out.chg c4.out (fun _ _ _ h => h)).chg y2.out (fun g _ hg hh => hX2.out.1 (by rw [← show g = g1 from hg]; exact hh))
            · rcases y3.out with h3 | h3
              · rw [h3]; exact hX2.out.1
              · rw [h3]
                intro hh
                injection hh with hh
                have := hX2.out.2
                have := c4.out.size
                simp only [alloc_size] at hh this
                omega
            · have := hX2.out.2
              have := c4.out.size
              have := y2.out.size
              simp only [alloc_size] at *
              omega
            · intro g hg
              rcases y3.out with h3 | h3
              · exact hG.out g (by rw [← h3]; exact hg)
              · rw [hg] at h3
                injection h3 with h3
                have := hC.out.size
                have := c4.out.size
                simp only [alloc_size] at *
                omega
          case measure => simp [intOf]; omega
        · have hj2 : 2 ≤ j := by omega
          go_wp2
          go_roundw
          case rel => exact ⟨k + 1, M, a, c, G, by omega, by omega, rfl, by go_num, hS, hC, hG⟩
          case measure => simp [intOf]; omega
    · have hk16 : k = 16 := by omega
      have hN32 : N = 32 := by omega
      clear hk16
      go_wp2
      go_ret2
      subst hN32
      exact ⟨a, c, G, rfl, hS.out, hC.out, hG.out⟩
end Go.Proofs.YtjllklddjkkddaaGreatDoor
namespace Go.Proofs.YtjllklddjkkddaaGreatDoor
open Go.ChangeShapes Go.WideShapes Go.ChangeAt Go.RowKit
set_option linter.unusedVariables false
/-- A file system's cells. -/
def fsC (p q : Nat) (fo : List Value) (a : Option Addr) (c : Nat) (bt bh : Nat) : List Value := [.pointer (some ⟨p, 0, none⟩), .pointer (some ⟨q, 0, none⟩)] ++ fo ++ [.slice none 0 0, .slice a 32 c, .map (some bt), .map (some bh)]
theorem fs_built (w : World) (p q : Nat) (fo : List Value) (hfl : fo.length = 192) (a : Option Addr) (c bt bh : Nat) :
    (Instr.build 146 #[(0, .pointer (some ⟨p, 0, none⟩)), (1, .pointer (some ⟨q, 0, none⟩)), (2, .agg fo.toArray), (3, .slice none 0 0), (4, .slice a 32 c), (5, .map (some bt)), (6, .map (some bh))]).run Tryz.prog w = .ok (.agg (fsC p q fo a c bt bh).toArray) w := by
  refine run_build_struct (Z := [.pointer none, .pointer none] ++ foZ ++ [.slice none 0 0, .slice none 0 0, .map none, .map none]) (places := [(0, 1), (1, 1), (2, 192), (194, 1), (195, 1), (196, 1), (197, 1)]) w (by kernel_rfl) ?_
  have hz := foZ_len
  generalize foZ = z at hz ⊢
  rw [fill_cons (off := 0) (size := 1) (vs := [.pointer (some ⟨p, 0, none⟩)]) rfl rfl rfl (by simp)]
  rw [List.append_assoc, over_left (by simp)]
  rw [fill_cons (off := 1) (size := 1) (vs := [.pointer (some ⟨q, 0, none⟩)]) rfl rfl rfl (by simp [over_])]
  rw [over_left (by simp [over_])]
  rw [show over_ (over_ [Value.pointer none, .pointer none] 0 [.pointer (some ⟨p, 0, none⟩)]) 1 [.pointer (some ⟨q, 0, none⟩)] = [.pointer (some ⟨p, 0, none⟩), .pointer (some ⟨q, 0, none⟩)] from rfl]
  rw [fill_cons (off := 2) (size := 192) (vs := fo) rfl rfl hfl (by simp; omega)]
  rw [over_right (i := 0) (show 2 = List.length [Value.pointer (some ⟨p, 0, none⟩), .pointer (some ⟨q, 0, none⟩)] + 0 from rfl), over_left (by omega), over_whole (by omega)]
  rw [← List.append_assoc]
  have hl : ([Value.pointer (some ⟨p, 0, none⟩), .pointer (some ⟨q, 0, none⟩)] ++ fo).length = 194 := by simp; omega
  unfold fsC
  generalize [Value.pointer (some ⟨p, 0, none⟩), .pointer (some ⟨q, 0, none⟩)] ++ fo = y at hl ⊢
  rw [fill_cons (off := 194) (size := 1) (vs := [.slice none 0 0]) rfl rfl rfl (by simp; omega), over_right (i := 0) (by omega)]
  rw [fill_cons (off := 195) (size := 1) (vs := [.slice a 32 c]) rfl rfl rfl (by simp [over_]; omega), over_right (i := 1) (by omega)]
  rw [fill_cons (off := 196) (size := 1) (vs := [.map (some bt)]) rfl rfl rfl (by simp [over_]; omega), over_right (i := 2) (by omega)]
  rw [fill_cons (off := 197) (size := 1) (vs := [.map (some bh)]) rfl rfl rfl (by simp [over_]; omega), over_right (i := 3) (by omega)]
  rfl
/-- A new file system. -/
structure FsN (w : World) (f p q : Nat) (a : Option Addr) (c : Nat) (G : Option Nat) (bt bh : Nat) : Prop where
  blk : Blk w f 146 (fsC p q (foF 16) a c bt bh)
  log : Blk w q 237 (lgCells p)
  nodes : Sl w 128 8 a 32 c ((ndL 32).flatMap ndR) G
  todo : MpAt w Tryz.prog 3 bt 0 (fun _ => none)
  held : MpAt w Tryz.prog 3 bh 0 (fun _ => none)
theorem ndS_zero {n : Nat} {zs : List Int} (h : NewZ n zs) (hn : 64 ≤ n) : ∀ k, k < 16 → secS zs (37 + k) = ndS k := by
  intro k hk
  by_cases h0 : k = 0
  · subst h0
    rw [h.root]
    rfl
  · rw [h.rest _ (by omega) (by omega) (by omega)]
    unfold ndS
    rw [if_neg h0]
    rfl
set_option maxRecDepth 100000 in
set_option maxHeartbeats 4000000 in
theorem mount_ok (w : World) (F : Nat → Prop) (p n : Nat) (zs : List Int) (m : Nat) (h : DkAt w F p n zs m) (hn : 64 ≤ n) (hz : NewZ n zs) :
    Calls Tryz.prog 24 #[.pointer (some ⟨p, 0, none⟩)] w fun e w' => ∃ f q a c G bt bh, e = .returned (.tuple #[.pointer (some ⟨f, 0, none⟩), .int .i64 0]) ∧ FsN w' f p q a c G bt bh ∧ Chg Nil w w' ∧ w.heap.size ≤ f ∧ w.heap.size ≤ q := by
  have hn2 := h.bd.2
  have l1 : ¬ (n : Int) < 64 := by omega
  have hmm := @run_makeMap Tryz.prog
  have HK := hid (fun w' (hc : Chg Nil w w') => h.nil hc)
  have HR0 := dkread_ok w F p n zs m h 0 (by omega)
  rw [hz.mark] at HR0
  replace HR0 := hid HR0
  have HZ := hid hz
  obtain ⟨fo, hfo⟩ : ∃ fo, fo = foF 16 := ⟨_, rfl⟩
  have hfl : fo.length = 192 := by rw [hfo, foF_len]
  have hf1 : Hid (∀ u ∈ fo, u.oneCell' = true) := hid (by rw [hfo]; exact foF_one 16)
  have hff : Hid (∀ i, i < 16 → fo[i]? = some (.int .i64 (37 + (i : Int)))) := hid (fun i hi => by rw [hfo]; exact foF_first hi)
  have HLD := hid (fun w h => load_ok w F p n zs m h (foF 16) foT foB foC foF_fob hz.forest rfl (fun k hk hT i hi => by rw [foB_get hk hi, if_pos (foT_true hT)]; omega))
  rw [← hfo] at HLD
  replace hfo := hid hfo
  clear h hz
  go_enter Tryz.func24, Tryz.ntmps24
  go_wp2_with fail
  refine HR0.out.mono ?_
  rintro e w1 ⟨a1, c1, G1, rfl, s1, d1, g1⟩
  have HS1 := hid (dksize_ok w1 F p n zs m (HK.out _ d1))
  have heq : eqI (markB n) (markB n) = true := eqI_true rfl
  replace d1 := hid d1
  replace s1 := hid s1
  clear g1 HR0
  go_wp2_with (first | (go_at_call 42; refine HS1.out.mono ?_; rintro e w' ⟨rfl, rfl⟩) | (go_at_call 47; refine (mark_ok _ n (by omega)).mono ?_; rintro e w2 ⟨a2, c2, G2, rfl, s2, d2, g2⟩; have HE := hid (equal_by _ _ _ _ 64 _ 64 _ _ _ w2 (s1.out.chg d2 (fun _ _ h => h)).rd s2.rd (by omega) (by omega)); replace d2 := hid d2; clear s2 g2) | (go_at_call 50; refine HE.out.mono ?_; rw [heq]; rintro e w3 ⟨rfl, k3, rfl⟩))
  have C3 := hid ((d1.out.trans d2.out (fun _ _ h => h)).drewN k3)
  refine (jopen_ok _ F p n zs m (HK.out _ C3.out) hn (HZ.out.rest 5 (by omega) (by omega) (by omega))).mono ?_
  rintro e w4 ⟨q, rfl, hq, bq, d4⟩
  have C4 := hid (C3.out.trans d4 (fun _ _ h => h))
  have hq2 : w.heap.size ≤ q := Nat.le_trans C3.out.size hq
  replace bq := hid bq
  clear s1 HS1 HE heq d2 hq d4 C3
  have HL := hid (HLD.out w4 (HK.out _ C4.out))
  go_wp2_with fail
  refine HL.out.mono ?_
  rintro e w5 ⟨rfl, d5⟩
  have B5 := Blk.new w5 122 foZ
  obtain ⟨S5, B6⟩ := store_blk (P := Tryz.prog) (ty := 122) B5 (vs := fo) (by rw [hfl, foZ_len]) (by rw [hfl]; kernel_rfl) hf1.out
  have C6 : Chg Nil w ((w5.alloc (.cells foZ.toArray 122)).setCells w5.heap.size 0 (fo)) := ((C4.out.trans d5 (fun _ _ h => h)).alloc _).one (.inr (Nat.le_trans C4.out.size d5.size)) (setCells_chg _ _ _ _ _ rfl)
  have bq6 : Blk ((w5.alloc (.cells foZ.toArray 122)).setCells w5.heap.size 0 (fo)) q 237 (lgCells p) := Blk.chg (F := One w5.heap.size) ((bq.out.chg d5 (fun h => h)).alloc _) (setCells_chg _ _ _ _ _ rfl) (fun hh => by have := bq.out.lt; have := d5.size; have : q = w5.heap.size := hh; omega)
  obtain ⟨W, hW⟩ : ∃ W, W = (w5.alloc (.cells foZ.toArray 122)).setCells w5.heap.size 0 (fo) := ⟨_, rfl⟩
  rw [← hW] at S5 B6 C6 bq6
  replace hW := hid hW
  have L6 := load_part (P := Tryz.prog) (lo := 0) (n := 48) B6 (by rw [hfl]; omega) Tryz.underlying120 rfl (by kernel_rfl)
  have HT := hid (tree_ok W F p n zs m (HK.out _ C6) hn (ndS_zero HZ.out hn) (part_ (fo) 0 48) (part_len (by rw [hfl]; omega)) (fun k hk => by rw [part_get (by rw [hfl]; omega) (by omega), Nat.zero_add, hff.out k hk]))
  replace B6 := hid B6
  replace C6 := hid C6
  replace bq6 := hid bq6
  clear B5 d5 C4 bq HL HLD
  go_wp2_with (first | (refine wpList_store_run S5 (by rfl) (by rfl) (by rfl) (by rfl) ?_) | (refine wpList_load_run L6 (by rfl) (by rfl) (by rfl) ?_))
  refine HT.out.mono ?_
  rintro e w7 ⟨a7, c7, G7, rfl, s7, d7, g7⟩
  have C7 := hid (C6.out.trans d7 (fun _ _ h => h))
  have HR4 := dkread_ok w7 F p n zs m (HK.out _ C7.out) 4 (by omega)
  rw [HZ.out.rest 4 (by omega) (by omega) (by omega)] at HR4
  replace HR4 := hid HR4
  have B7 := hid (B6.out.chg d7 (fun h => h))
  have bq7 := hid (bq6.out.chg d7 (fun h => h))
  replace s7 := hid s7
  clear S5 L6 HT B6 C6 bq6 d7 g7
  go_wp2_with fail
  refine HR4.out.mono ?_
  rintro e w8 ⟨a8, c8, G8, rfl, s8, d8, g8⟩
  have s8' := s8.rd
  rw [← zr_bys] at s8'
  have HQ := hid (qunpack_zero w8 _ _ _ s8')
  clear s8 s8' HR4
  go_wp2_with fail
  refine HQ.out.mono ?_
  rintro e w9 ⟨rfl, d9⟩
  have d79 := d8.trans d9 (fun _ _ h => h)
  have B9 := hid (B7.out.chg d79 (fun h => h))
  have bq9 := hid (bq7.out.chg d79 (fun h => h))
  have s9 := hid (s7.out.chg d79 (fun _ _ h => h))
  have C9 := hid (C7.out.trans d79 (fun _ _ h => h))
  have L9 := load_blk (P := Tryz.prog) B9.out Tryz.underlying122 rfl (by rw [hfl]; kernel_rfl)
  clear d8 d9 d79 B7 bq7 s7 C7 HQ g8
  have LB := fs_built ((w9.alloc (.map #[] 0)).alloc (.map #[] 0)) p q fo hfl a7 c7 w9.heap.size (w9.heap.size + 1)
  go_wp2_with (first | (refine wpList_load_run L9 (by rfl) (by rfl) (by rfl) ?_) | (refine wpList_build_run LB (by rfl) (by rfl) (by rfl) ?_))
  have W1 : Chg Nil w9 (((w9.alloc (.map #[] 0)).alloc (.map #[] 0)).alloc (.cells (fsC p q fo a7 c7 w9.heap.size (w9.heap.size + 1)).toArray 146)) := (((Chg.refl Nil w9).alloc _).alloc _).alloc _
  have F1 := Blk.new ((w9.alloc (.map #[] 0)).alloc (.map #[] 0)) 146 (fsC p q fo a7 c7 w9.heap.size (w9.heap.size + 1))
  have M1 := ((MpAt.made w9 Tryz.prog 3).alloc (.map #[] 0)).alloc (.cells (fsC p q fo a7 c7 w9.heap.size (w9.heap.size + 1)).toArray 146)
  have M2 := (MpAt.made (w9.alloc (.map #[] 0)) Tryz.prog 3).alloc (.cells (fsC p q fo a7 c7 w9.heap.size (w9.heap.size + 1)).toArray 146)
  rw [alloc_size, alloc_size] at F1
  rw [alloc_size] at M2
  have s10 := s9.out.chg W1 (fun _ _ h => h)
  have q10 := Blk.chg bq9.out W1 (fun h => h)
  have C10 := hid (C9.out.trans W1 (fun _ _ h => h))
  have hsz := Nat.le_trans C9.out.size (Nat.le_refl w9.heap.size)
  have N : Hid (FsN (((w9.alloc (.map #[] 0)).alloc (.map #[] 0)).alloc (.cells (fsC p q fo a7 c7 w9.heap.size (w9.heap.size + 1)).toArray 146)) (w9.heap.size + 1 + 1) p q a7 c7 G7 w9.heap.size (w9.heap.size + 1)) := hid ⟨by rw [← hfo.out]; exact F1, q10, s10, M1, M2⟩
  refine (lost_ok _ _ _ _ s10.rd).mono ?_
  rintro e wl ⟨rfl, dl⟩
  replace N : Hid (FsN wl (w9.heap.size + 1 + 1) p q a7 c7 G7 w9.heap.size (w9.heap.size + 1)) := hid ⟨N.out.blk.chg dl (fun h => h), N.out.log.chg dl (fun h => h), N.out.nodes.chg dl (fun _ _ h => h), N.out.todo.chg dl (fun h => h), N.out.held.chg dl (fun h => h)⟩
  have CL := hid (C10.out.trans dl (fun _ _ h => h))
  have hf1 : w.heap.size ≤ w9.heap.size + 1 + 1 := by omega
  obtain ⟨f, hf⟩ : ∃ f, f = w9.heap.size + 1 + 1 := ⟨_, rfl⟩
  clear W1 F1 M1 M2 s10 q10 C10 LB L9 B9 bq9 s9 C9 hsz dl
  go_wp2
  go_loopw [88] (fun i wr => i = .int .i64 0 ∧ wr = wl) (fun _ _ => 0)
  case atStart => exact ⟨rfl, rfl⟩
  case round =>
    obtain ⟨rfl, rfl⟩ := hrel
    go_wp2
    go_ret2
    exact ⟨_, q, a7, c7, G7, _, _, rfl, N.out, CL.out, hf1, hq2⟩
end Go.Proofs.YtjllklddjkkddaaGreatDoor
namespace Go.Proofs.YtjllklddjkkddaaGreatDoor
open Go.ChangeShapes Go.WideShapes Go.ChangeAt Go.RowKit
set_option linter.unusedVariables false
set_option maxRecDepth 100000 in
theorem len64_0 (w : World) : Calls Tryz.prog 285 #[.int .u64 0] w fun e w' => e = .returned (.int .i64 0) ∧ w' = w := by
  go_enter Tryz.func285, Tryz.ntmps285
  go_wp2
  go_ret
  exact ⟨by kernel_rfl, rfl⟩
set_option maxRecDepth 100000 in
theorem len_0 (w : World) : Calls Tryz.prog 217 #[.int .u64 0] w fun e w' => e = .returned (.int .i64 0) ∧ w' = w := by
  go_enter Tryz.func217, Tryz.ntmps217
  go_wp2_with (go_at_call 285; refine (len64_0 _).mono ?_; rintro e w' ⟨rfl, rfl⟩)
  go_ret
  exact ⟨rfl, rfl⟩
theorem insert_0 (w : World) (f : Value) : Calls Tryz.prog 276 #[.slice none 0 0, .int .i64 0, .int .i64 0, f] w fun e w' => e = .returned (.tuple #[]) ∧ w' = w := by
  go_enter Tryz.func276, Tryz.ntmps276
  go_wp2
  go_loop [8] (fun i => i = .int .i64 1) (fun _ => 0)
  case atStart => rfl
  case round =>
    subst hrel
    go_wp2
    go_end0
    exact ⟨rfl, rfl⟩
theorem pdq_0 (w : World) (f : Value) : Calls Tryz.prog 216 #[.slice none 0 0, .int .i64 0, .int .i64 0, .int .i64 0, f] w fun e w' => e = .returned (.tuple #[]) ∧ w' = w := by
  go_enter Tryz.func216, Tryz.ntmps216
  go_wp2
  go_loop [1, 2] (fun a b => a = .int .i64 0 ∧ b = .int .i64 0) (fun _ _ => 0)
  case atStart => exact ⟨rfl, rfl⟩
  case round =>
    obtain ⟨rfl, rfl⟩ := hrel
    go_wp2_with (go_at_call 276; refine (insert_0 _ _).mono ?_; rintro e w' ⟨rfl, rfl⟩)
    first | go_end0 | refine bodyPost_ret (results_none rfl _ _ _) rfl ?_
    exact ⟨rfl, rfl⟩
theorem sort_0 (w : World) (f : Value) : Calls Tryz.prog 138 #[.slice none 0 0, f] w fun e w' => e = .returned (.tuple #[]) ∧ w' = w := by
  go_enter Tryz.func138, Tryz.ntmps138
  go_wp2_with (first | (go_at_call 217; refine (len_0 _).mono ?_; rintro e w' ⟨rfl, rfl⟩) | (go_at_call 216; refine (pdq_0 _ _).mono ?_; rintro e w' ⟨rfl, rfl⟩))
  go_end0
  exact ⟨rfl, rfl⟩
theorem writes_0 (w : World) (f p q : Nat) (a : Option Addr) (c : Nat) (G : Option Nat) (bt bh : Nat) (h : FsN w f p q a c G bt bh) :
    Calls Tryz.prog 65 #[.pointer (some ⟨f, 0, none⟩)] w fun e w' => e = .returned (.slice none 0 0) ∧ Chg Nil w w' := by
  have k5 : w.cell? ⟨f, 196, none⟩ = some (.map (some bt)) := by
    rw [h.blk.cell 196]
    unfold fsC
    rw [List.getElem?_append_right (by simp [foF_len])]
    simp [foF_len]
  have HM := hid h.todo
  clear h
  go_enter Tryz.func65, Tryz.ntmps65
  go_wp2_with (at_range; refine wpList_range_none _ rfl _ 143 rfl (k := 3) (e := 28) u_int Tryz.underlying143 bt 0 rfl HM.out ?_; intro w3 r1 r2; replace r1 := hid r1)
  go_frame
  go_loopw [3] (fun s3 wr => s3 = .slice none 0 0 ∧ wr = w3) (fun _ _ => 0)
  case atStart => exact ⟨rfl, rfl⟩
  case round =>
    obtain ⟨rfl, rfl⟩ := hrel
    go_wp2_with (go_at_call 138; refine (sort_0 _ _).mono ?_; rintro e w' ⟨rfl, rfl⟩)
    go_ret
    exact ⟨rfl, r1.out⟩
theorem jroom_ok (w : World) (p q : Nat) (h : Blk w q 237 (lgCells p)) :
    Calls Tryz.prog 202 #[.pointer (some ⟨q, 0, none⟩)] w fun e w' => e = .returned (.int .i64 30) ∧ w = w' := by
  have k2 := h.cell 2
  simp only [lgCells, List.getElem?_cons_succ, List.getElem?_cons_zero] at k2
  clear h
  go_enter Tryz.func202, Tryz.ntmps202
  go_wp2
  go_ret
  exact ⟨rfl, rfl⟩
theorem jright_0 (w : World) (p q : Nat) (h : Blk w q 237 (lgCells p)) :
    Calls Tryz.prog 134 #[.pointer (some ⟨q, 0, none⟩), .slice none 0 0] w fun e w' => e = .returned (.int .i64 0) ∧ Chg Nil w w' := by
  have HR := hid (jroom_ok w p q h)
  have hmm := @run_makeMap Tryz.prog
  clear h
  go_enter Tryz.func134, Tryz.ntmps134
  go_wp2_with (go_at_call 202; refine HR.out.mono ?_; rintro e w' ⟨rfl, rfl⟩)
  obtain ⟨W, hW⟩ : ∃ W, W = w.alloc (.map #[] 0) := ⟨_, rfl⟩
  rw [← hW]
  go_loopw [16] (fun i wr => i = .int .i64 0 ∧ wr = W) (fun _ _ => 0)
  case atStart => exact ⟨rfl, rfl⟩
  case round =>
    obtain ⟨rfl, rfl⟩ := hrel
    go_wp2
    go_ret
    exact ⟨rfl, (Chg.refl Nil w).alloc _⟩
set_option maxRecDepth 100000 in
theorem jcommit_0 (w : World) (F : Nat → Prop) (p q n : Nat) (zs : List Int) (m : Nat) (hD : DkAt w F p n zs m) (h : Blk w q 237 (lgCells p)) :
    Calls Tryz.prog 64 #[.pointer (some ⟨q, 0, none⟩), .slice none 0 0] w fun e w' => e = .returned (.int .i64 0) ∧ DkAt w' F p n zs 0 ∧ Chg F w w' := by
  have HR := hid (jright_0 w p q h)
  have k0 := h.cell 0
  simp only [lgCells, List.getElem?_cons_zero] at k0
  have hlt := h.lt
  have HF := hid (fun w' (hc : Chg Nil w w') => dkflush_ok w' F p n zs m (hD.nil hc))
  clear h hD
  go_enter Tryz.func64, Tryz.ntmps64
  go_wp2_with (go_at_call 134; refine HR.out.mono ?_; rintro e w1 ⟨rfl, c1⟩; have k0' := (c1.cell (a := ⟨q, 0, none⟩) hlt (fun h => h)).trans k0; have HG := hid (HF.out w1 c1); replace c1 := hid c1)
  refine HG.out.mono ?_
  rintro e w2 ⟨rfl, d2, c2⟩
  replace d2 := hid d2
  replace c2 := hid c2
  go_wp2
  go_ret
  exact ⟨rfl, d2.out, (c1.out.mono (fun _ _ h => h.elim)).trans c2.out (fun _ _ h => h)⟩
set_option maxRecDepth 100000 in
set_option maxHeartbeats 1000000 in
theorem sync_0 (w : World) (F : Nat → Prop) (f p q n : Nat) (zs : List Int) (m : Nat) (a : Option Addr) (c : Nat) (G : Option Nat) (bt bh : Nat) (hD : DkAt w F p n zs m) (h : FsN w f p q a c G bt bh) (hF : ¬ F f) (hq : ¬ F q) :
    Calls Tryz.prog 26 #[.pointer (some ⟨f, 0, none⟩)] w fun e w' => e = .returned (.int .i64 0) ∧ DkAt w' F p n zs 0 ∧ Chg (Or2 F (One f)) w w' := by
  have k1 : w.cell? ⟨f, 1, none⟩ = some (.pointer (some ⟨q, 0, none⟩)) := by
    rw [h.blk.cell 1]
    rfl
  have hmm := @run_makeMap Tryz.prog
  have hf := h.blk
  have HW := hid (fun w' (hc : Chg Nil w w') => writes_0 w' f p q a c G bt bh ⟨h.blk.chg hc (fun h => h), h.log.chg hc (fun h => h), h.nodes.chg hc (fun _ _ h => h), h.todo.chg hc (fun h => h), h.held.chg hc (fun h => h)⟩)
  have HC := hid (fun w' (hc : Chg Nil w w') => jcommit_0 w' F p q n zs m (hD.nil hc) (h.log.chg hc (fun h => h)))
  have hF' := hid hF
  have hlt := hf.lt
  have HB := hid hf
  clear h hD hf
  go_enter Tryz.func26, Tryz.ntmps26
  go_wp2
  go_region_law
    (first | (go_simp; go_at_call 65; refine (HW.out _ ((Chg.refl Nil w).drew)).mono ?_; rintro e w1 ⟨rfl, c1⟩; have C1 := hid ((Chg.refl Nil w).drew.trans c1 (fun _ _ h => h)); have k1' : w1.cell? ⟨f, 1, none⟩ = some (.pointer (some ⟨q, 0, none⟩)) := ((C1.out.cell (a := ⟨f, 1, none⟩) hlt (fun h => h)).trans k1); clear c1) | (go_simp; go_at_call 64; refine (HC.out _ C1.out).mono ?_; rintro e w2 ⟨rfl, d2, c2⟩; replace d2 := hid d2; replace c2 := hid c2))
  all_goals
    have B2 := (Blk.chg (Blk.chg HB.out C1.out (fun h => h)) c2.out hF'.out).alloc (.map #[] 0)
    have k5 := B2.cell 196
    have f5 := B2.frozen 196
    rw [show (fsC p q (foF 16) a c bt bh)[196]? = some (.map (some bt)) by
      unfold fsC
      rw [List.getElem?_append_right (by simp [foF_len])]
      simp [foF_len]] at k5
    clear B2
    go_wp2
    go_ret
    have hsz := d2.out.lt
    exact ⟨rfl, ((d2.out.nil ((Chg.refl Nil _).alloc _)).chg (H := One f) ((Chg.refl (One f) _).setCell (p := ⟨f, 196, none⟩) (.inl (show One f f from rfl)) _) (fun k hk hh => hF'.out (by rw [← show k = f from hh]; exact hk))), (((C1.out.mono (fun _ _ h => h.elim)).trans c2.out (fun _ _ h => .inl h)).alloc _).setCell (p := ⟨f, 196, none⟩) (.inl (.inr rfl)) _⟩
end Go.Proofs.YtjllklddjkkddaaGreatDoor
