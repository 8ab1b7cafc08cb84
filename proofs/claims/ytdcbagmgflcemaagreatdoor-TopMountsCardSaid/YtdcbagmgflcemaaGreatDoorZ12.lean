/- check.Load. Conditions: a disk whose sectors 1 to 3 hold a forest, all of whose numbers lie within it · Contracts of package space where no space has a page. Conditions: just that · fs.Format, of a disk of bytes 0. Conditions: at least 64 sectors · check.Tree of an empty file system. Conditions: just that; a disk of at least 64 sectors · fs.Mount of a new file system. Conditions: just that. -/
import Derived.Test.YtdcbagmgflcemaaGreatDoorZ11
import Derived.Handy
import Derived.Test.YtdcbagmgflcemaaGreatDoorZ02
import Derived.Carry
import Derived.Test.YtdcbagmgflcemaaGreatDoorZ03
import Derived.Test.YtdcbagmgflcemaaGreatDoorZ13
import Derived.Deep.QuietTactic
import Derived.BigQuiet
import Derived.Test.YtdcbagmgflcemaaGreatDoorZ14
import Derived.Test.YtdcbagmgflcemaaGreatDoorZ15
namespace Go.Proofs.YtdcbagmgflcemaaGreatDoor
open Go.ChangeShapes Go.WideShapes Go.ChangeAt Go.RowKit
set_option linter.unusedVariables false
/-- The first k of three sectors. -/
def sec3 (zs : List Int) (k : Nat) : List Int := (List.range k).flatMap (fun i => secS zs (1 + i))
theorem sec3_succ (zs : List Int) (k : Nat) : sec3 zs (k + 1) = sec3 zs k ++ secS zs (1 + k) := by simp [sec3, List.range_succ]
set_option maxRecDepth 100000 in
set_option maxHeartbeats 2000000 in
theorem load_ok (w : World) (F : Nat → Prop) (p n : Nat) (zs : List Int) (m : Nat) (h : DkAt w F p n zs m) (cs : List Value) (T : Nat → Bool) (B C : List Int) (hf : FoB cs T B C) (hz : sec3 zs 3 = B ++ C) (h0 : T 0 = true)
    (hin : ∀ k, k < 4 → T k = true → ∀ i, i < 16 → 37 ≤ B.getD (k * 16 + i) 0 ∧ B.getD (k * 16 + i) 0 < n) :
    Calls Tryz.prog 52 #[.iface 24 (.pointer (some ⟨p, 0, none⟩))] w fun e w' => e = .returned (.tuple #[.agg cs.toArray, .int .i64 0]) ∧ Chg Nil w w' := by
  have hl := hf.fo.len
  have hn := h.bd
  have H := hid h
  have HF := hid hf
  have HIN := hid hin
  have HT := hid (fun w k hk => there_ok w cs T hf.fo k hk)
  have HU := hid (fun w R b bc hb => snunpack_ok w R b bc cs T B C hf hb)
  have Z0 := hid (Blk.new w 115 foZ)
  clear h hf hin
  go_enter Tryz.func52, Tryz.ntmps52
  go_wp2
  go_loopw [4, 13] (fun s4 i wr => ∃ (k N : Nat) (a : Option Addr) (c : Nat) (G : Option Nat), k ≤ 3 ∧ N ≤ 192 ∧ Hid (N = k * 64) ∧ s4 = .slice a N c ∧ i = .int .i64 k ∧ Hid (Sl wr 5 1 a N c (bys (sec3 zs k)) G) ∧ Hid (Blk wr w.heap.size 115 foZ) ∧ Hid (Chg Nil w wr) ∧ Hid (∀ g, G = some g → w.heap.size < g)) (fun _ i _ => 3 - (intOf i).toNat)
  case atStart => exact ⟨0, 0, none, 0, none, by omega, by omega, rfl, rfl, rfl, Sl.empty _ _ _ _, Z0.out, (Chg.refl Nil w).alloc _, fun g hg => by cases hg⟩
  case round =>
    obtain ⟨k, N, a, c, G, hk, hN2, hN, rfl, rfl, hS, hZ, hC, hG⟩ := hrel
    by_cases hlt : k < 3
    · have hN3 : N ≤ 128 := by have := hN.out; omega
      have HR := hid (dkread_ok wr F p n zs m (H.out.nil hC.out) (1 + k) (by omega))
      go_wp2_with (first | (go_at_call 50; refine HR.out.mono ?_; rintro e w2 ⟨a1, c1, G1, rfl, s1, d1, g1⟩; have S2 := hid (hS.out.chg d1 (fun _ _ h => h)); replace s1 := hid s1; replace d1 := hid d1; clear g1) | (at_builtin; refine wpList_append_sl rfl _ _ eU8 rfl rfl rfl S2.out s1.out.rd (ints_one _ _) (by omega) (by omega) ?_; intro a' c' w4 G' y1 y2 y3; replace y1 := hid y1; replace y2 := hid y2; replace y3 := hid y3))
      go_roundw
      case rel =>
        refine ⟨k + 1, N + 64, a', c', G', by omega, by omega, hid (by have := hN.out; omega), rfl, by go_num, ?_, (hZ.out.chg d1.out (fun h => h)).chg y2.out (fun hh => absurd (hG.out _ hh) (by omega)), (hC.out.trans d1.out (fun _ _ h => h)).trans y2.out (fun i hi hh => absurd (hG.out i hh) (by omega)), ?_⟩
        · have := y1.out
          refine hid ?_
          rw [sec3_succ, ← bys_append]
          exact this
        · intro g hg
          rcases y3.out with h3 | h3
          · exact hG.out g (by rw [← h3]; exact hg)
          · rw [hg] at h3
            injection h3 with h3
            have := hZ.out.lt
            have := d1.out.size
            omega
      case measure => simp [intOf]; omega
    · have h192 : N = 192 := by have := hN.out; omega
      subst h192
      have hk3 : k = 3 := by omega
      have hb := hS.out.rd
      rw [hk3, hz] at hb
      have hkk : 3 ≤ k := by omega
      have HV := hid (HU.out _ _ _ _ hb)
      clear hb hk3
      go_wp2_with fail
      refine HV.out.mono ?_
      rintro e w2 ⟨rfl, d2⟩
      have B2 := Blk.new w2 115 foZ
      have S2 := store_blk (P := Tryz.prog) (ty := 115) B2 (vs := cs) (by rw [hl, foZ_len]) (by rw [hl]; kernel_rfl) HF.out.one
      obtain ⟨W, hW⟩ : ∃ W, W = (w2.alloc (.cells foZ.toArray 115)).setCells w2.heap.size 0 cs := ⟨_, rfl⟩
      have C2 : Chg Nil w W := by
        rw [hW]
        exact ((hC.out.trans d2 (fun _ _ h => h)).alloc _).trans (setCells_chg _ _ 0 _ (One w2.heap.size) rfl) (fun k hk hh => by have := hC.out.size; have := d2.size; rw [show k = w2.heap.size from hh] at hk; omega)
      have Z2 : Blk W w.heap.size 115 foZ := by
        rw [hW]
        exact Blk.chg (F := One w2.heap.size) ((hZ.out.chg d2 (fun h => h)).alloc _) (setCells_chg _ _ 0 _ (One w2.heap.size) rfl) (fun hh => by have := hZ.out.lt; have := d2.size; have : w.heap.size = w2.heap.size := hh; omega)
      rw [← hW] at S2
      obtain ⟨S3, S4⟩ := S2
      have w2s : w.heap.size < w2.heap.size := by have := hZ.out.lt; have := d2.size; omega
      replace w2s := hid w2s
      replace hW := hid hW
      replace C2 := hid C2
      replace Z2 := hid Z2
      have L3 := load_blk (P := Tryz.prog) S4 Tryz.underlying115 rfl (by rw [hl]; kernel_rfl)
      replace S4 := hid S4
      clear d2 B2
      go_wp2_with (first | (refine wpList_store_run S3 (by rfl) (by rfl) (by rfl) (by rfl) ?_) | (refine wpList_load_g L3 (by rfl) (by rfl) (by rfl) ?_) | (go_at_call 114; refine (HT.out _ 0 (by omega)).mono ?_; rw [h0]; rintro e w5 ⟨rfl, c5⟩; replace c5 := hid c5))
      have S5 := hid (S4.out.chg c5.out (fun h => h))
      have Z5 := hid (Z2.out.chg c5.out (fun h => h))
      have C5 := hid (C2.out.trans c5.out (fun _ _ h => h))
      obtain ⟨q, hq⟩ : ∃ q, q = w2.heap.size := ⟨_, rfl⟩
      rw [← hq] at S5 w2s ⊢
      replace hq := hid hq
      clear S3 L3 S4 Z2 C2 c5 hS HV hZ hC hW
      obtain ⟨wo, rfl⟩ : ∃ wo : World, wo = wr := ⟨_, rfl⟩
      go_loopw [43] (fun i wr => ∃ k : Nat, k ≤ 4 ∧ i = .int .i64 k ∧ Hid (Blk wr q 115 cs) ∧ Hid (Blk wr w.heap.size 115 foZ) ∧ Hid (Chg Nil w wr)) (fun i _ => 4 - (intOf i).toNat)
      case atStart => exact ⟨0, by omega, rfl, S5.out, Z5.out, C5.out⟩
      case round =>
        clear S5 Z5 C5
        obtain ⟨k, hk, rfl, hS, hZ, hC⟩ := hrel
        by_cases hlt : k < 4
        · have L1 := run_loadAt_mid (P := Tryz.prog) wr q (k * 48) 57 (part_ cs (k * 48) 16) _ (hS.out.range (by omega)) Tryz.underlying57 rfl (by rw [part_len (by omega)]; kernel_rfl)
          go_wp2_with (refine wpList_load_run L1 (by rfl) (by rfl) (by rfl) ?_)
          clear L1
          obtain ⟨wo, rfl⟩ : ∃ wo : World, wo = wr := ⟨_, rfl⟩
          go_loopw [50] (fun j wr => ∃ i : Nat, i ≤ 16 ∧ j = .int .i64 i ∧ Hid (Blk wr q 115 cs) ∧ Hid (Blk wr w.heap.size 115 foZ) ∧ Hid (Chg Nil w wr)) (fun j _ => 16 - (intOf j).toNat)
          case atStart => exact ⟨0, by omega, rfl, hS, hZ, hC⟩
          case round =>
            clear hS hZ hC
            obtain ⟨i, hi, rfl, hS, hZ, hC⟩ := hrel
            by_cases hlt2 : i < 16
            · obtain ⟨hx, x0, x1⟩ := HF.out.num k hlt i hlt2
              have hin := HIN.out k hlt
              obtain ⟨x, hxe⟩ : ∃ x, x = B.getD (k * 16 + i) 0 := ⟨_, rfl⟩
              have hin2 := fun ht => hin ht i hlt2
              rw [← hxe] at hx x0 x1 hin2
              have hix := fun w => index_arr (P := Tryz.prog) w Tryz.underlying57 (by kernel_rfl) (fun w => Tryz.isAgg3 w) hlt2 ((part_get (cs := cs) (lo := k * 48) (n := 16) (by omega) hlt2).trans hx)
              have L2 := load_blk (P := Tryz.prog) hS.out Tryz.underlying115 rfl (by rw [hl]; kernel_rfl)
              clear hx hxe hin
              cases hT : T k with
              | true =>
                have hlo := (hin2 hT).1
                have hhi := (hin2 hT).2
                have l1 : ¬ x < 37 := by omega
                have l2 : ¬ (n : Int) ≤ x := by omega
                have HSZ := hid (fun w5 (c5 : Chg Nil wr w5) => dksize_ok w5 F p n zs m (H.out.nil (hC.out.trans c5 (fun _ _ h => h))))
                clear hlo hhi hin2
                go_wp2_with (first | (refine wpList_load_run L2 (by rfl) (by rfl) (by rfl) ?_) | (go_at_call 114; refine (HT.out _ k hlt).mono ?_; rw [hT]; rintro e w5 ⟨rfl, c5⟩; have HZ5 := hid (HSZ.out _ c5); replace c5 := hid c5) | (go_at_call 43; refine HZ5.out.mono ?_; rintro e w6 ⟨rfl, rfl⟩))
                go_roundw
                case rel => exact ⟨i + 1, by omega, by go_num, hS.out.chg c5.out (fun h => h), hZ.out.chg c5.out (fun h => h), hC.out.trans c5.out (fun _ _ h => h)⟩
                case measure => simp [intOf]; omega
              | false =>
                clear hin2
                go_wp2_with (first | (refine wpList_load_run L2 (by rfl) (by rfl) (by rfl) ?_) | (go_at_call 114; refine (HT.out _ k hlt).mono ?_; rw [hT]; rintro e w5 ⟨rfl, c5⟩; replace c5 := hid c5))
                go_roundw
                case rel => exact ⟨i + 1, by omega, by go_num, hS.out.chg c5.out (fun h => h), hZ.out.chg c5.out (fun h => h), hC.out.trans c5.out (fun _ _ h => h)⟩
                case measure => simp [intOf]; omega
            · go_wp2
              go_roundw
              case rel => exact ⟨k + 1, by omega, by go_num, hS, hZ, hC⟩
              case measure => simp [intOf]; omega
        · have L2 := load_blk (P := Tryz.prog) hS.out Tryz.underlying115 rfl (by rw [hl]; kernel_rfl)
          obtain ⟨L3, B3⟩ := store_blk (P := Tryz.prog) (ty := 115) hZ.out (vs := cs) (by rw [hl, foZ_len]) (by rw [hl]; kernel_rfl) HF.out.one
          go_wp2_with (first | (refine wpList_load_run L2 (by rfl) (by rfl) (by rfl) ?_) | (refine wpList_store_run L3 (by rfl) (by rfl) (by rfl) (by rfl) ?_))
          refine bodyPost_ret (results_blk2 rfl B3 rfl Tryz.underlying115 rfl (by rw [hl]; kernel_rfl)) rfl ?_
          exact ⟨rfl, hC.out.trans (setCells_chg _ _ 0 _ (One w.heap.size) rfl) (fun k hk hh => by rw [show k = w.heap.size from hh] at hk; omega)⟩
end Go.Proofs.YtdcbagmgflcemaaGreatDoor
namespace Go.Proofs.YtdcbagmgflcemaaGreatDoor
open Go.ChangeShapes Go.WideShapes Go.ChangeAt Go.RowKit
set_option linter.unusedVariables false
/-- A memory without pages: its spaces, each a map of nothing. -/
structure SpA (w : World) (F : Nat → Prop) (p b n : Nat) (f : Int → Option Value) : Prop where
  blk : Blk w p 178 [.int .i64 64, .int .i64 64, .int .i64 0, .slice none 0 0, .map (some b)]
  map : MpAt w Tryz.prog 3 b n f
  inn : ∀ i v, f i = some v → ∃ g, v = .map (some g) ∧ F g ∧ g ≠ b ∧ MpAt w Tryz.prog 3 g 0 (fun _ => none)
  fp : F p
  fb : F b
  lt : ∀ k, F k → k < w.heap.size
theorem alloc_size (w : World) (o : Obj) : (w.alloc o).heap.size = w.heap.size + 1 := by simp
theorem map_ne_blk {w : World} {P : Program} {k : TypeId} {b n g : Nat} {f : Int → Option Value} {t : TypeId} {cs : List Value} (h : MpAt w P k b n f) (hb : Blk w g t cs) : b ≠ g := by
  rintro rfl
  obtain ⟨D, ⟨es, clock, hm, _⟩, _⟩ := h
  unfold Blk at hb
  rw [hm] at hb
  cases hb
section
variable {w w' : World} {F H : Nat → Prop} {p b n : Nat} {f : Int → Option Value}
theorem SpA.chg (h : SpA w F p b n f) (hc : Chg H w w') (hd : Dj F H) : SpA w' F p b n f :=
  ⟨h.blk.chg hc (hd p h.fp), h.map.chg hc (hd b h.fb), fun i v hv => by
    obtain ⟨g, r1, r2, r3, r4⟩ := h.inn i v hv
    exact ⟨g, r1, r2, r3, r4.chg hc (hd g r2)⟩, h.fp, h.fb, fun k hk => Nat.lt_of_lt_of_le (h.lt k hk) hc.size⟩
end
theorem u_int : Tryz.prog.underlying 3 = some (.int .i64) := Tryz.underlying3
theorem spcnew_ok (w : World) : Calls Tryz.prog 32 #[.int .i64 64, .int .i64 64] w fun e w' => ∃ F p b, e = .returned (.tuple #[.pointer (some ⟨p, 0, none⟩), .int .i64 0]) ∧ SpA w' F p b 0 (fun _ => none) ∧ Chg Nil w w' ∧ Grew w.heap.size Nil F := by
  have hmm := @run_makeMap Tryz.prog
  go_enter Tryz.func32, Tryz.ntmps32
  go_wp2
  go_ret2
  have M0 := MpAt.made w Tryz.prog 3
  have B0 := Blk.new (w.alloc (.map #[] 0)) 178 [.int .i64 64, .int .i64 64, .int .i64 0, .slice none 0 0, .map (some w.heap.size)]
  rw [alloc_size] at B0
  refine ⟨Or2 (One w.heap.size) (One (w.heap.size + 1)), w.heap.size + 1, w.heap.size, rfl, ⟨B0, M0.alloc _, fun i v hv => (by cases hv), .inr rfl, .inl rfl, ?_⟩, ((Chg.refl Nil w).alloc _).alloc _, ?_⟩
  · rintro k (hk | hk)
    · rw [show k = w.heap.size from hk]; simp; omega
    · rw [show k = w.heap.size + 1 from hk]; simp
  · rintro k (hk | hk)
    · rw [show k = w.heap.size from hk]; exact .inr (by omega)
    · rw [show k = w.heap.size + 1 from hk]; exact .inr (by omega)
/-- Is a space's map there? -/
theorem map_eql (g : Option Nat) (x y : Operand) : ∀ w, (do eqGuard .eql 179 x y (.map g) (.map none); binOp .eql 179 (.map g) (.map none) : Sem Value).run Tryz.prog w = .ok (.bool g.isNone) w := by
  intro w
  cases g with
  | none => kernel_rfl
  | some g => kernel_rfl
set_option maxRecDepth 100000 in
set_option maxHeartbeats 1000000 in
theorem spcmake_ok (w : World) (F : Nat → Prop) (p b n : Nat) (f : Int → Option Value) (h : SpA w F p b n f) (hn : n ≤ 1000) (s : Nat) (h1 : 1 ≤ s) (h2 : s ≤ 16) (hs : f (s : Int) = none) (hb : ∀ j : Nat, 1 ≤ j → j < s → f (j : Int) ≠ none) :
    Calls Tryz.prog 33 #[.pointer (some ⟨p, 0, none⟩)] w fun e w' => e = .returned (.tuple #[.int .i64 (s : Int), .int .i64 0]) ∧ ∃ g, SpA w' (Or2 F (One g)) p b (n + 1) (updM f (s : Int) (some (.map (some g)))) ∧ Chg F w w' ∧ w.heap.size ≤ g := by
  have k4 := h.blk.cell 4
  simp only [List.getElem?_cons_succ, List.getElem?_cons_zero] at k4
  have HL := fun (i : Nat) (hi : i ≤ 16) => h.map.look (t := 175) (z := .map none) u_int Tryz.underlying175 (by kernel_rfl) (i : Int) (wf_key (by omega) (by omega))
  have hmm := @run_makeMap Tryz.prog
  have HB := hid hb
  have HS := hid hs
  have H := hid h
  replace HL := hid HL
  clear h hb hs
  go_enter Tryz.func33, Tryz.ntmps33
  go_wp2
  go_loop [4] (fun s4 => ∃ k : Nat, 1 ≤ k ∧ k ≤ s ∧ s4 = .int .i64 k) (fun s4 => 20 - (intOf s4).toNat)
  case atStart => exact ⟨1, by omega, by omega, rfl⟩
  case round =>
    obtain ⟨k, hk1, hk2, rfl⟩ := hrel
    have hk16 : k ≤ 16 := by omega
    have L1 := HL.out k (by omega)
    by_cases hlt : k < s
    · obtain ⟨v, hv⟩ := Option.ne_none_iff_exists'.1 (HB.out k hk1 hlt)
      obtain ⟨g, rfl, _, _, _⟩ := H.out.inn _ _ hv
      rw [hv] at L1
      have L1' : (Instr.lookup 175 (.map (some b)) (.int .i64 (k : Int)) false).run Tryz.prog w = .ok (.map (some g)) w := L1
      clear hv L1
      go_wp2_with (refine wpList_bin_run (map_eql (some g) _ _ _) (by rfl) (by rfl) (by rfl) (by rfl) ?_)
      go_round
      case rel => exact ⟨k + 1, by omega, by omega, by go_num⟩
      case measure => simp [intOf]; omega
    · have hks : k = s := by omega
      subst hks
      rw [HS.out] at L1
      have L1' : (Instr.lookup 175 (.map (some b)) (.int .i64 (k : Int)) false).run Tryz.prog w = .ok (.map none) w := L1
      have M1 := hid (H.out.map.alloc (.map #[] 0))
      clear L1
      go_wp2_with (first | (refine wpList_bin_run (map_eql none _ _ _) (by rfl) (by rfl) (by rfl) (by rfl) ?_) | (at_mapUpdate; refine wpList_store _ rfl _ _ _ 175 rfl u_int Tryz.underlying175 b n _ rfl M1.out (by omega) (k : Int) (.map (some w.heap.size)) rfl rfl (wf_key (by omega) (by omega)) ?_; intro w1 q1 q2; replace q1 := hid q1; replace q2 := hid q2))
      go_ret2
      have hbl := H.out.lt b H.out.fb
      refine ⟨rfl, w.heap.size, ⟨(H.out.blk.alloc _).chg q2.out (fun hh => ?_), q1.out, fun i v hv => ?_, .inl H.out.fp, .inl H.out.fb, ?_⟩, push_chg (q2.out.mono (fun k _ hk => by rw [show k = b from hk]; exact H.out.fb)), Nat.le_refl _⟩
      · have := H.out.map
        exact map_ne_blk H.out.map H.out.blk hh.symm
      · unfold updM at hv
        split at hv
        · injection hv with hv
          subst hv
          exact ⟨w.heap.size, rfl, .inr rfl, by omega, (MpAt.made w Tryz.prog 3).chg q2.out (fun hh => by have : w.heap.size = b := hh; omega)⟩
        · obtain ⟨g, r1, r2, r3, r4⟩ := H.out.inn i v hv
          exact ⟨g, r1, .inl r2, r3, (r4.alloc _).chg q2.out (fun hh => r3 hh)⟩
      · have hs := q2.out.size
        simp only [alloc_size] at hs
        rintro j (hj | hj)
        · have := H.out.lt j hj; omega
        · rw [show j = w.heap.size from hj]; omega
end Go.Proofs.YtdcbagmgflcemaaGreatDoor
namespace Go.Proofs.YtdcbagmgflcemaaGreatDoor
open Go.ChangeShapes Go.WideShapes Go.ChangeAt Go.RowKit
set_option linter.unusedVariables false
theorem zeroCells_u8 (k : Nat) : (Builtin.zeroCells (Value.int .u8 0).cells k).toList = zr k := by
  apply List.ext_getElem?
  intro i
  have hz : (Value.int .u8 0).cells = #[Value.int .u8 0] := rfl
  unfold Builtin.zeroCells zr
  rw [hz]
  by_cases h : i < k
  · simp [h, Nat.mod_one]
  · simp [h]
/-- append(s, make([]byte, k)...) where s is full. -/
theorem run_append_zr (w : World) (ty : TypeId) (a : Option Addr) (n k : Nat) (xs : List Value) (G : Option Nat) (h : Sl w 5 1 a n n xs G) (h0 : 0 < k) (h63 : n + k ≤ 4294967296) :
    ∃ c' w', (Builtin.append_ #[22, 3] ty #[.slice a n n, .int .i64 (k : Int)]).run Tryz.prog w = .ok (.slice (some ⟨w.heap.size, 0, none⟩) (n + k) c') w' ∧ Sl w' 5 1 (some ⟨w.heap.size, 0, none⟩) (n + k) c' (xs ++ zr k) (some w.heap.size) ∧ Chg Nil w w' := by
  obtain ⟨i, z, hi, hz, hsz, hby, hzs⟩ := eU8.info
  have hi2 : (Tryz.prog.info? 5).map (·.zero) = some (some (.int .u8 0)) := by kernel_rfl
  rw [hi] at hi2
  simp only [Option.map_some, Option.some.injEq] at hi2
  rw [hz] at hi2
  simp only [Option.some.injEq] at hi2
  subst hi2
  have hold : (Builtin.firstCells i.size n (.slice a n n)).run Tryz.prog w.drew = .ok xs.toArray w.drew := by
    have hr := h.rd
    have hw : Rd w.drew (Opt G) i.size a n n xs := by rw [hsz]; exact hr
    obtain ⟨r1, r2, r3, r4⟩ := hw
    rcases Nat.eq_zero_or_pos n with rfl | hn
    · have hx : xs = [] := List.eq_nil_of_length_eq_zero (by simpa using r3)
      subst hx
      cases a <;> simp [Builtin.firstCells, loadCells, loadCellsFrom]
    · obtain ⟨g, off, rfl, _, _, hc⟩ := r4 hn
      refine run_firstCells_some _ _ _ _ _ _ _ r3 (fun j u hu => ?_)
      have hj : j < n * i.size := by rw [← r3]; exact (List.getElem?_eq_some_iff.1 hu).1
      have := hc j hj
      rw [hu] at this
      unfold Addr.add
      split
      · rename_i h0; subst h0; simpa using this
      · exact this
  have hge := grownCap_ge w (n + k) n 5
  have hcm : grownCap w (n + k) n 5 ≤ maxLen := grownCap_le_maxLen w (n + k) n 5 (by unfold maxLen; omega)
  have hbytes : (n + k) * i.bytes ≤ 140737488355328 := by rw [hby]; omega
  have hr := Lib.run_append_grow_zeros (P := Tryz.prog) w 22 3 ty 5 i (.int .u8 0) .i64 .i64 eU8.under Tryz.underlying3 hi hz a n n xs hold k h0 (by omega) (by omega) (by omega) (by rw [hby]; omega) (growslice_fits (by omega) hbytes)
  have hxl := h.len
  refine ⟨_, _, hr, ⟨by omega, hcm, by rw [List.length_append, zr_len, hxl]; omega, .inr ⟨w.heap.size, 0, _, rfl, rfl, heap_alloc_new w.drew _, ?_, fun j hj => ?_⟩⟩, ((Chg.refl _ w).drew).alloc _⟩
  · simp only [Array.size_append, List.size_toArray, size_zeroCells, hzs, hxl]
    omega
  · rw [Nat.zero_add, Array.getElem?_append_left (by simp only [Array.size_append, List.size_toArray, size_zeroCells, hzs, hxl]; omega)]
    have : (xs.toArray ++ Builtin.zeroCells (Value.int .u8 0).cells k) = (xs ++ zr k).toArray := by
      rw [← zeroCells_u8]
      simp
    rw [this]
    simp
theorem wpList_append_zr {ops : Array Oper} {rest : List Oper} {o : Oper} {act : Act} {Q : Exit → Act → World → Prop} {w : World} (hgd : o.guard = none) (x y : Operand)
    (ho : o.op = .call { callee := .builtin .append, args := #[x, y], argTypes := #[22, 3] }) (a : Option Addr) (n k : Nat) (xs : List Value) (G : Option Nat)
    (hx : act.eval x = .slice a n n) (hy : act.eval y = .int .i64 (k : Int)) (h : Sl w 5 1 a n n xs G) (h0 : 0 < k) (h63 : n + k ≤ 4294967296)
    (hk : ∀ c' w', Sl w' 5 1 (some ⟨w.heap.size, 0, none⟩) (n + k) c' (xs ++ zr k) (some w.heap.size) → Chg Nil w w' → wpList Tryz.prog ops Q rest (act.put o.dst (.slice (some ⟨w.heap.size, 0, none⟩) (n + k) c')) w') : wpList Tryz.prog ops Q (o :: rest) act w := by
  refine wpList_plain hgd fun _ hK => ?_
  obtain ⟨c', w', hr, h2, h3⟩ := run_append_zr w o.type a n k xs G h h0 h63
  unfold Oper.wp execOp
  simp only [ho, resolve, invoke, builtin, Sem.run_bind, Sem.run_pure, Result.andThen_ok, List.map_toArray, List.map_cons, List.map_nil, hx, hy, hr]
  exact hK _ _ (hk c' w' h2 h3)
/-- A sector of bytes 0 put into a disk of bytes 0. -/
theorem putS_zero {n i : Nat} (hi : i < n) : putS (List.replicate (n * 64) 0) i (List.replicate 64 0) = List.replicate (n * 64) 0 := by
  unfold putS
  rw [List.take_replicate, List.drop_replicate, List.replicate_append_replicate, List.replicate_append_replicate]
  congr 1
  omega
theorem secS_zero {n j : Nat} (hj : j < n) : secS (List.replicate (n * 64) 0) j = List.replicate 64 0 := by
  unfold secS
  rw [List.drop_replicate, List.take_replicate]
  congr 1
  omega
theorem sec3_all {zs l : List Int} (hl : l.length = 192) (h0 : secS zs (1 + 0) = secS l 0) (h1 : secS zs (1 + 1) = secS l 1) (h2 : secS zs (1 + 2) = secS l 2) : sec3 zs 3 = l := by
  have e : sec3 zs 3 = secS zs (1 + 0) ++ (secS zs (1 + 1) ++ (secS zs (1 + 2) ++ [])) := rfl
  rw [e, h0, h1, h2, List.append_nil]
  unfold secS
  rw [show (2 * 64 : Nat) = 64 + 64 from rfl, ← List.drop_drop, show (1 * 64 : Nat) = 64 from rfl, Nat.zero_mul, List.drop_zero]
  have : (List.take 64 (List.drop 64 (List.drop 64 l))) = List.drop 64 (List.drop 64 l) := List.take_of_length_le (by simp only [List.length_drop]; omega)
  rw [this, List.take_append_drop, List.take_append_drop]
theorem bys_sec (l : List Int) (k : Nat) : ((bys l).drop (64 * k)).take 64 = bys (secS l k) := by
  unfold secS
  rw [Nat.mul_comm]
  simp [ints, List.map_take, List.map_drop]
/-- The set of the first k sectors of nodes. -/
def hasN : Nat → List Int
  | 0 => List.replicate 32 0
  | k + 1 => withB (hasN k) (37 + k)
theorem hasN_len : ∀ k, (hasN k).length = 32
  | 0 => rfl
  | k + 1 => by unfold hasN; rw [withB_len]; exact hasN_len k
/-- The first j numbers of the first tree. -/
def numF (j : Nat) : List Int := (List.range 16).map (fun i => if i < j then 37 + (i : Int) else 0)
theorem numF_len (j : Nat) : (numF j).length = 16 := by simp [numF]
theorem numF_set {j : Nat} (h : j < 16) : (numF j).set j (37 + (j : Int)) = numF (j + 1) := by
  apply List.ext_getElem?
  intro i
  rw [List.getElem?_set, numF_len]
  unfold numF
  by_cases h1 : i < 16
  · rw [List.getElem?_map, List.getElem?_map, List.getElem?_range h1]
    by_cases h2 : j = i
    · subst h2
      rw [if_pos rfl, if_pos h]
      simp
    · rw [if_neg h2]
      simp only [Option.map_some]
      by_cases h3 : i < j
      · rw [if_pos h3, if_pos (show i < j + 1 by omega)]
      · rw [if_neg h3, if_neg (show ¬ i < j + 1 by omega)]
  · rw [if_neg (show ¬ j = i by omega), List.getElem?_eq_none (by simp; omega), List.getElem?_eq_none (by simp; omega)]
/-- The forest of a disk that is being made. -/
def foF (j : Nat) : List Value := (ints .i64 (numF j) ++ bys (hasN j)) ++ (trZ ++ trZ ++ trZ)
theorem foF_len (j : Nat) : (foF j).length = 192 := by
  simp only [foF, trZ, List.length_append, ints_length, numF_len, hasN_len, List.length_replicate, zr_len]
theorem foF_zero : foF 0 = foZ := rfl
theorem foF_one (j : Nat) : ∀ u ∈ foF j, u.oneCell' = true := by
  intro u hu
  have hz : ∀ u ∈ trZ, u.oneCell' = true := by
    intro u hu
    unfold trZ at hu
    rw [List.mem_append] at hu
    rcases hu with hu | hu
    · rw [List.eq_of_mem_replicate hu]; rfl
    · rw [zr_bys] at hu; exact ints_one _ _ u hu
  simp only [foF, List.mem_append] at hu
  rcases hu with (hu | hu) | ((hu | hu) | hu)
  · exact ints_one _ _ u hu
  · exact ints_one _ _ u hu
  · exact hz u hu
  · exact hz u hu
  · exact hz u hu
theorem foF_set {j : Nat} (h : j < 16) : (foF j).set j (.int .i64 (37 + (j : Int))) = (ints .i64 (numF (j + 1)) ++ bys (hasN j)) ++ (trZ ++ trZ ++ trZ) := by
  unfold foF
  rw [List.set_append_left _ _ (by simp only [List.length_append, ints_length, numF_len, hasN_len]; omega), List.set_append_left _ _ (by simp only [ints_length, numF_len]; omega), ← numF_set h]
  simp [ints, List.map_set]
theorem foF_has (l : List Int) (m : List Int) (hl : l.length = 16) (hm : m.length = 32) : part_ ((ints .i64 l ++ bys m) ++ (trZ ++ trZ ++ trZ)) 16 32 = bys m := by
  unfold part_
  have h1 : (ints .i64 l).length = 16 := by rw [ints_length, hl]
  have h2 : (bys m).length = 32 := by rw [ints_length, hm]
  rw [List.append_assoc, List.drop_append_of_le_length (by omega), List.drop_of_length_le (by omega), List.nil_append, List.take_append_of_le_length (by omega), List.take_of_length_le (by omega)]
theorem foF_over (l m m' : List Int) (hl : l.length = 16) (hm : m.length = 32) (hm' : m'.length = 32) : over_ ((ints .i64 l ++ bys m) ++ (trZ ++ trZ ++ trZ)) 16 (bys m') = (ints .i64 l ++ bys m') ++ (trZ ++ trZ ++ trZ) := by
  unfold over_
  have h1 : (ints .i64 l).length = 16 := by rw [ints_length, hl]
  have h2 : (bys m).length = 32 := by rw [ints_length, hm]
  have h3 : (bys m').length = 32 := by rw [ints_length, hm']
  have e1 : ((ints .i64 l ++ bys m) ++ (trZ ++ trZ ++ trZ)).take 16 = ints .i64 l := by
    rw [List.append_assoc, List.take_append_of_le_length (by omega), List.take_of_length_le (by omega)]
  have e2 : ((ints .i64 l ++ bys m) ++ (trZ ++ trZ ++ trZ)).drop (16 + (bys m').length) = trZ ++ trZ ++ trZ := by
    have h4 : (ints .i64 l ++ bys m).length = 48 := by rw [List.length_append, h1, h2]
    rw [h3, List.drop_append_of_le_length (by omega), List.drop_of_length_le (by omega), List.nil_append]
  rw [e1, e2]
def foB : List Int := numF 16 ++ List.replicate 48 0
def foC : List Int := hasN 16 ++ List.replicate 96 0
def foT (k : Nat) : Bool := decide (k = 0)
theorem foF_first {i : Nat} (hi : i < 16) : (foF 16)[i]? = some (.int .i64 (37 + (i : Int))) := by
  unfold foF
  rw [List.append_assoc, List.getElem?_append_left (by rw [ints_length, numF_len]; omega), ints_get _ _ (by rw [numF_len]; omega)]
  simp [numF, hi]
theorem foF_rest {k : Nat} (h1 : 1 ≤ k) (hk : k < 4) : part_ (foF 16) (k * 48) 48 = trZ := by
  have hz : trZ.length = 48 := by simp [trZ, zr_len]
  have h4 : (ints .i64 (numF 16) ++ bys (hasN 16)).length = 48 := by simp [ints_length, numF_len, hasN_len]
  unfold part_ foF
  generalize trZ = z at hz ⊢
  generalize (ints .i64 (numF 16) ++ bys (hasN 16)) = y at h4 ⊢
  obtain rfl | rfl | rfl : k = 1 ∨ k = 2 ∨ k = 3 := by omega
  · rw [show 1 * 48 = y.length by omega, List.drop_left, List.append_assoc, List.take_append_of_le_length (by omega), List.take_of_length_le (by omega)]
  · rw [← List.append_assoc, ← List.append_assoc, show 2 * 48 = (y ++ z).length by rw [List.length_append]; omega, List.append_assoc (y ++ z), List.drop_left, List.take_append_of_le_length (by omega), List.take_of_length_le (by omega)]
  · rw [← List.append_assoc, ← List.append_assoc, show 3 * 48 = (y ++ z ++ z).length by simp only [List.length_append]; omega, List.drop_left, List.take_of_length_le (by omega)]
theorem trZ_num {i : Nat} (hi : i < 16) : trZ[i]? = some (.int .i64 0) := by
  unfold trZ
  rw [List.getElem?_append_left (by simp; omega), List.getElem?_replicate, if_pos hi]
theorem foB_get {k i : Nat} (hk : k < 4) (hi : i < 16) : foB.getD (k * 16 + i) 0 = if k = 0 then 37 + (i : Int) else 0 := by
  unfold foB List.getD
  by_cases h : k = 0
  · subst h
    rw [if_pos rfl, Nat.zero_mul, Nat.zero_add, List.getElem?_append_left (by rw [numF_len]; omega)]
    simp [numF, hi]
  · rw [if_neg h, List.getElem?_append_right (by rw [numF_len]; omega), numF_len, List.getElem?_replicate, if_pos (by omega)]
    rfl
theorem foF_num {k i : Nat} (hk : k < 4) (hi : i < 16) : (foF 16)[k * 48 + i]? = some (.int .i64 (foB.getD (k * 16 + i) 0)) := by
  rw [foB_get hk hi]
  by_cases h : k = 0
  · subst h
    rw [if_pos rfl, Nat.zero_mul, Nat.zero_add, foF_first hi]
  · rw [if_neg h, ← part_get (cs := foF 16) (lo := k * 48) (n := 48) (by rw [foF_len]; omega) (by omega), foF_rest (by omega) hk, trZ_num hi]
theorem foT_true {k : Nat} (h : foT k = true) : k = 0 := by simpa [foT] using h
theorem foF_fo : Fo (foF 16) foT := by
  refine ⟨foF_len 16, fun k hk i hi => ⟨_, foF_num hk hi, ?_, ?_⟩, fun k hk => ⟨_, by have := foF_num hk (i := 0) (by omega); rwa [Nat.add_zero] at this, ?_⟩, fun k hk ht => ?_⟩
  · rw [foB_get hk hi]; split <;> omega
  · rw [foB_get hk hi]; split <;> omega
  · have := foB_get hk (i := 0) (by omega)
    rw [Nat.add_zero] at this
    rw [Nat.add_zero, this]
    unfold foT
    by_cases h : k = 0
    · subst h; rfl
    · simp [h]
  · have : k ≠ 0 := by
      rintro rfl
      simp [foT] at ht
    exact foF_rest (by omega) hk
theorem foF_fob : FoB (foF 16) foT foB foC := by
  refine ⟨foF_fo, by simp [foB, numF_len], by simp [foC, hasN_len], fun k hk i hi => ⟨foF_num hk hi, ?_, ?_⟩, fun k hk => ?_⟩
  · rw [foB_get hk hi]; split <;> omega
  · rw [foB_get hk hi]; split <;> omega
  · unfold foC
    by_cases h : k = 0
    · subst h
      have := foF_has (numF 16) (hasN 16) (numF_len 16) (hasN_len 16)
      rw [Nat.zero_mul, Nat.zero_add, List.drop_zero, List.take_append_of_le_length (by rw [hasN_len]; omega), List.take_of_length_le (by rw [hasN_len]; omega)]
      exact this
    · have h1 := foF_rest (k := k) (by omega) hk
      have e : part_ (foF 16) (k * 48 + 16) 32 = (part_ (foF 16) (k * 48) 48).drop 16 := by
        unfold part_
        rw [List.drop_take, List.drop_drop]
      rw [e, h1, show k * 32 = (hasN 16).length + (k * 32 - 32) by rw [hasN_len]; omega, drop_in, List.drop_replicate, List.take_replicate]
      unfold trZ
      rw [List.drop_append_of_le_length (by simp), List.drop_of_length_le (by simp), List.nil_append, zr_bys]
      congr 2
      omega
/-- The sectors of a new file system. -/
structure NewZ (n : Nat) (zs : List Int) : Prop where
  mark : secS zs 0 = markB n
  forest : sec3 zs 3 = foB ++ foC
  root : secS zs 37 = ndB 2 493 1 1 ++ List.replicate 32 0
  rest : ∀ j, 4 ≤ j → j < n → j ≠ 37 → secS zs j = List.replicate 64 0
/-- Writes in a row: the disk, what may have changed. -/
def DkW (w wr : World) (F : Nat → Prop) (p n : Nat) (zs : List Int) (m : Nat) (F' : Nat → Prop) : Prop := DkAt wr F' p n zs m ∧ Chg F w wr ∧ Grew w.heap.size F F'
theorem DkW.step {w wr w2 : World} {F F' F'' : Nat → Prop} {p n m m' : Nat} {zs zs' : List Int} (h : DkW w wr F p n zs m F') (h1 : DkAt w2 F'' p n zs' m') (h2 : Chg F' wr w2) (h3 : Grew wr.heap.size F' F'') : DkW w w2 F p n zs' m' F'' :=
  ⟨h1, h.2.1.trans h2 (fun i hi hF => by
    rcases h.2.2 i hF with h | h
    · exact h
    · omega), h.2.2.trans h3 h.2.1.size⟩
theorem DkW.quiet {w wr w2 : World} {F F' : Nat → Prop} {p n m : Nat} {zs : List Int} (h : DkW w wr F p n zs m F') (h2 : Chg Nil wr w2) : DkW w w2 F p n zs m F' :=
  h.step (h.1.nil h2) (h2.mono (fun _ _ h => h.elim)) (Grew.refl _ _)
set_option maxRecDepth 100000 in
set_option maxHeartbeats 4000000 in
theorem format_ok (w : World) (F : Nat → Prop) (p n m : Nat) (h : DkAt w F p n (List.replicate (n * 64) 0) m) (hn : 64 ≤ n) (hm : m ≤ 1000) :
    Calls Tryz.prog 23 #[.pointer (some ⟨p, 0, none⟩)] w fun e w' => e = .returned (.int .i64 0) ∧ ∃ F' zs, DkAt w' F' p n zs 0 ∧ NewZ n zs ∧ Chg F w w' ∧ Grew w.heap.size F F' := by
  have hn2 := h.bd.2
  have hmk := mk_bytes 64 (by omega) 64 rfl
  have HS0 := hid (dksize_ok w F p n _ m h)
  have l1 : ¬ (n : Int) < 64 := by omega
  have Z0 := hid (zr_sl w 64 (by omega))
  have H := hid h
  have hlt := hid h.lt
  have HS1 := hid (dksize_ok _ F p n _ m (h.nil ((Chg.refl Nil w).alloc (.cells (zr 64).toArray 5))))
  clear h
  go_enter Tryz.func23, Tryz.ntmps23
  go_wp2_with (go_at_call 43; first | (refine HS0.out.mono ?_; rintro e w' ⟨rfl, rfl⟩) | (refine HS1.out.mono ?_; rintro e w' ⟨rfl, rfl⟩))
  go_loopw [18] (fun i wr => ∃ (k : Nat) (F' : Nat → Prop), k ≤ n ∧ i = .int .i64 k ∧ Hid (DkW w wr F p n (List.replicate (n * 64) 0) (m + k) F') ∧ Hid (Sl wr 5 1 (some ⟨w.heap.size, 0, none⟩) 64 64 (zr 64) (some w.heap.size)) ∧ Hid (¬ F' w.heap.size)) (fun i _ => n - (intOf i).toNat)
  case atStart => exact ⟨0, F, by omega, rfl, ⟨H.out.nil ((Chg.refl Nil w).alloc _), (Chg.refl F w).alloc _, Grew.refl _ _⟩, Z0.out, fun hh => absurd (hlt.out _ hh) (by omega)⟩
  case round =>
    obtain ⟨k, F', hk, rfl, hD, hZ, hF⟩ := hrel
    by_cases hlt2 : k < n
    · have i1 : (k : Int) < (n : Int) := by omega
      have HW := hid (dkwrite_ok wr F' p n _ (m + k) hD.out.1 (by omega) k hlt2 _ _ 64 (List.replicate 64 0) (by rw [← zr_bys]; exact hZ.out.rd) (fun g hg hh => hF.out (by injection hg with hg; rw [hg]; exact hh)))
      go_wp2_with (go_at_call 44; refine HW.out.mono ?_; rintro e w2 ⟨rfl, F2, u1, u2, u3⟩; rw [putS_zero hlt2] at u1; have D2 := hid (hD.out.step u1 u2 u3); replace u2 := hid u2; replace u3 := hid u3; clear u1)
      go_roundw
      case rel =>
        have hzl := hZ.out.lt w.heap.size rfl
        refine ⟨k + 1, F2, by omega, by go_num, D2.out, hZ.out.chg u2.out (fun g hg hh => hF.out (by injection hg with hg; rw [hg]; exact hh)), fun hh => ?_⟩
        rcases u3.out _ hh with h3 | h3
        · exact hF.out h3
        · omega
      case measure => simp [intOf]; omega
    · have i1 : ¬ (k : Int) < (n : Int) := by omega
      obtain ⟨M, hM⟩ : ∃ M, M = m + k := ⟨_, rfl⟩
      rw [← hM] at hD
      have hM2 : M ≤ 2000 := by omega
      replace hM := hid hM
      have Q0 : Blk (wr.alloc (.cells foZ.toArray 115)) wr.heap.size 115 (foF 0) := by rw [foF_zero]; exact Blk.new wr 115 foZ
      replace Q0 := hid Q0
      go_wp2
      obtain ⟨wo, rfl⟩ : ∃ wo : World, wo = wr := ⟨_, rfl⟩
      go_loopw [26] (fun i wr => ∃ j : Nat, j ≤ 16 ∧ i = .int .i64 j ∧ Hid (Blk wr wo.heap.size 115 (foF j)) ∧ Hid (Chg Nil wo wr)) (fun i _ => 16 - (intOf i).toNat)
      case atStart => exact ⟨0, by omega, rfl, Q0.out, (Chg.refl Nil wo).alloc _⟩
      case round =>
        clear Q0
        obtain ⟨j, hj, rfl, hB, hC⟩ := hrel
        by_cases hlt3 : j < 16
        · obtain ⟨v, hv⟩ : ∃ v, (foF j)[j]? = some v := ⟨_, List.getElem?_eq_getElem (by rw [foF_len]; omega)⟩
          have c1 := hB.out.cell j
          rw [hv] at c1
          have f1 := hB.out.frozen j
          have B1 := hB.out.set j (.int .i64 (37 + (j : Int)))
          rw [foF_set hlt3] at B1
          have i2 : (j : Int) < 16 := by omega
          have hfl : ∀ l m, l.length = 16 → m.length = 32 → ((ints .i64 l ++ bys m) ++ (trZ ++ trZ ++ trZ)).length = 192 := fun l m hl hm => by simp [ints_length, hl, hm, trZ, zr_len]
          have L1 := load_part (P := Tryz.prog) (lo := 16) (n := 32) B1 (by rw [hfl _ _ (numF_len _) (hasN_len _)]; omega) Tryz.underlying111 rfl (by kernel_rfl)
          rw [foF_has _ _ (numF_len _) (hasN_len _)] at L1
          have HW := fun w => with_ok w (hasN j) (hasN_len j) (37 + j) (by omega)
          rw [show withB (hasN j) (37 + j) = hasN (j + 1) from rfl] at HW
          have C1 : Chg Nil wo (wr.setCell ⟨wo.heap.size, j, none⟩ (.int .i64 (37 + (j : Int)))) := hC.out.setCell (.inr (Nat.le_refl _)) _
          have S1 := fun (w2 : World) (hw : Chg Nil (wr.setCell ⟨wo.heap.size, j, none⟩ (.int .i64 (37 + (j : Int)))) w2) => store_part (P := Tryz.prog) (ty := 111) (lo := 16) (vs := bys (hasN (j + 1))) (Blk.chg B1 hw (fun h => h)) (by rw [ints_length, hasN_len, hfl _ _ (numF_len _) (hasN_len _)]; omega) (by rw [ints_length, hasN_len]; kernel_rfl) (ints_one _ _)
          rw [foF_over _ _ _ (numF_len _) (hasN_len _) (hasN_len _)] at S1
          replace B1 := hid B1
          replace C1 := hid C1
          replace HW := hid HW
          replace S1 := hid S1
          clear hv hfl
          go_wp2_with (refine wpList_load_run L1 (by rfl) (by rfl) (by rfl) ?_)
          refine (HW.out _).mono ?_
          rintro e w2 ⟨rfl, c2⟩
          obtain ⟨S2, S3, S4⟩ := S1.out w2 c2
          replace c2 := hid c2
          replace S3 := hid S3
          replace S4 := hid S4
          go_wp2_with (refine wpList_store_run S2 (by rfl) (by rfl) (by rfl) (by rfl) ?_)
          go_roundw
          case rel => exact ⟨j + 1, by omega, by go_num, S3.out, (C1.out.trans c2.out (fun _ _ h => h)).one (.inr (Nat.le_refl _)) S4.out⟩
          case measure => simp [intOf]; omega
        · have hj3 : j = 16 := by omega
          have B3 := hB.out
          rw [hj3] at B3
          have hj16 : 16 ≤ j := by omega
          have L3 := load_blk (P := Tryz.prog) B3 Tryz.underlying115 rfl (by rw [foF_len]; kernel_rfl)
          replace B3 := hid B3
          clear hj3
          go_wp2_with (first | (refine wpList_load_run L3 (by rfl) (by rfl) (by rfl) ?_) | (go_at_call 46; refine (snpack_ok _ _ _ _ _ foF_fob).mono ?_; rintro e w2 ⟨a, c, G, rfl, s2, c2, g2⟩; replace s2 := hid s2; replace c2 := hid c2; replace g2 := hid g2))
          refine (ndpack_32 _).mono ?_
          rintro e w3 ⟨a3, G3, rfl, s3, c3, g3⟩
          have hcw : Chg Nil wo w3 := (hC.out.trans c2.out (fun _ _ h => h)).trans c3 (fun _ _ h => h)
          have D3 := hid (hD.out.quiet hcw)
          obtain ⟨g1, o1, rfl, rfl, hg1⟩ := s2.out.block (by omega)
          have hc1 : 192 ≤ c := s2.out.1
          have s2' := hid (s2.out.chg c3 (fun _ _ h => h))
          have n1 : Hid (¬ F' g1) := hid (fun hh => by have := hD.out.1.lt _ hh; have := g2.out g1 rfl; have := hC.out.size; omega)
          have n3 : Hid (∀ g, G3 = some g → ¬ F' g) := hid (fun g hg hh => by have := hD.out.1.lt _ hh; have := g3 g hg; have := hC.out.size; have := c2.out.size; omega)
          have n4 : Hid (∀ g, G3 = some g → g ≠ g1) := hid (fun g hg hh => by have := g3 g hg; omega)
          replace s3 := hid s3
          clear s2 c2 g2 hB hC L3 B3 hZ hF hcw c3 g3
          go_wp2
          obtain ⟨wq, rfl⟩ : ∃ wq : World, wq = wo := ⟨_, rfl⟩
          go_loopw [60] (fun i wr => ∃ (k : Nat) (F2 : Nat → Prop) (zs2 : List Int), k ≤ 3 ∧ i = .int .i64 k ∧ Hid (DkW w wr F p n zs2 (M + k) F2) ∧ Hid (Sl wr 5 1 (some ⟨g1, o1, none⟩) 192 c (bys (foB ++ foC)) (some g1)) ∧ Hid (Sl wr 5 1 a3 32 32 (bys (ndB 2 493 1 1)) G3) ∧ Hid (¬ F2 g1) ∧ Hid (∀ g, G3 = some g → ¬ F2 g) ∧ Hid (∀ j, j < k → secS zs2 (1 + j) = secS (foB ++ foC) j) ∧ Hid (∀ j, j < n → (j = 0 ∨ k < j) → secS zs2 j = List.replicate 64 0)) (fun i _ => 3 - (intOf i).toNat)
          case atStart => exact ⟨0, F', List.replicate (n * 64) 0, by omega, rfl, D3.out, s2'.out, s3.out, n1.out, n3.out, fun j hj => absurd hj (by omega), fun j hj _ => secS_zero hj⟩
          case round =>
            clear D3 s2' s3 n1 n3
            obtain ⟨k, F2, zs2, hk, rfl, hD, hS, hT, m1, m3, hz1, hz2⟩ := hrel
            have hzl := hD.out.1.len
            replace hzl := hid hzl
            by_cases hlt4 : k < 3
            · have R3 := hS.out.rd.sub (lo := 64 * k) (k := 64) (by omega)
              rw [bys_sec] at R3
              have hsl : (secS (foB ++ foC) k).length = 64 := secS_len (n := 3) (by simp [foB, foC, numF_len, hasN_len]) hlt4
              have HW := hid (dkwrite_ok wr F2 p n zs2 (M + k) hD.out.1 (by omega) (1 + k) (by omega) _ _ _ _ R3 (fun g hg hh => m1.out (by injection hg with hg; rw [hg]; exact hh)))
              replace hsl := hid hsl
              have i3 : 64 * (k : Int) ≤ 192 := by omega
              have i4 : 64 * ((k : Int) + 1) ≤ 192 := by omega
              clear R3
              go_wp2_with fail
              rw [show 64 * (k + 1) - 64 * k = 64 by omega]
              refine HW.out.mono ?_
              rintro e w4 ⟨rfl, F3, u1, u2, u3⟩
              have D4 := hid (hD.out.step u1 u2 u3)
              replace u2 := hid u2
              replace u3 := hid u3
              clear u1
              go_wp2
              go_roundw
              case rel =>
                have l3 := hS.out.lt g1 rfl
                refine ⟨k + 1, F3, _, by omega, by go_num, D4.out, hS.out.chg u2.out (fun g hg hh => m1.out (by injection hg with hg; rw [hg]; exact hh)), hT.out.chg u2.out (fun g hg hh => m3.out g hg hh), fun hh => ?_, fun g hg hh => ?_, fun j hj => ?_, fun j hj hj2 => ?_⟩
                · rcases u3.out _ hh with h3 | h3
                  · exact m1.out h3
                  · omega
                · have := hT.out.lt g hg
                  rcases u3.out _ hh with h3 | h3
                  · exact m3.out g hg h3
                  · omega
                · rw [secS_put hzl.out (by omega) (by omega) hsl.out]
                  by_cases h : 1 + j = 1 + k
                  · rw [if_pos h, show j = k by omega]
                  · rw [if_neg h]; exact hz1.out j (by omega)
                · rw [secS_put hzl.out (by omega) hj hsl.out, if_neg (by omega)]
                  exact hz2.out j hj (by omega)
              case measure => simp [intOf]; omega
            · have hk3 : k = 3 := by omega
              have hz3 : sec3 zs2 3 = foB ++ foC := by
                have e1 := fun j hj => hz1.out j (by omega : j < k)
                have := e1 0 (by omega)
                have := e1 1 (by omega)
                have := e1 2 (by omega)
                have hl : (foB ++ foC).length = 192 := by simp [foB, foC, numF_len, hasN_len]
                exact sec3_all hl (e1 0 (by omega)) (e1 1 (by omega)) (e1 2 (by omega))
              have hz4 := hid (fun j hj (h : j = 0 ∨ 3 < j) => hz2.out j hj (by omega))
              replace hz3 := hid hz3
              have h3k : 3 ≤ k := by omega
              obtain ⟨M3, hM3⟩ : ∃ M3, M3 = M + k := ⟨_, rfl⟩
              rw [← hM3] at hD
              have hM33 : M3 ≤ 2003 := by omega
              clear hk3 hz1 hz2
              replace hM3 := hid hM3
              have h32 : (0 : Nat) < 32 := by omega
              have h64 : 32 + 32 ≤ 4294967296 := by omega
              go_wp2_with (at_builtin; refine wpList_append_zr rfl _ _ rfl a3 32 32 _ G3 rfl rfl hT.out h32 h64 ?_; intro c5 w5 y1 y2)
              have D5 := hD.out.quiet y2
              have R5 := y1.rd
              rw [zr_bys, bys_append] at R5
              have hwl : ∀ g, F2 g → g < wr.heap.size := hD.out.1.lt
              have hrl : (ndB 2 493 1 1 ++ List.replicate 32 (0 : Int)).length = 64 := rfl
              refine (dkwrite_ok w5 F2 p n zs2 M3 D5.1 (by omega) 37 (by omega) _ _ _ _ R5 (fun g hg hh => by have : wr.heap.size = g := (by injection hg); have := hwl g hh; omega)).mono ?_
              rintro e w6 ⟨rfl, F6, u1, u2, u3⟩
              have D6 := D5.step u1 u2 u3
              have hz6 : Hid (secS (putS zs2 37 (ndB 2 493 1 1 ++ List.replicate 32 0)) 37 = ndB 2 493 1 1 ++ List.replicate 32 0 ∧ ∀ j, j < n → j ≠ 37 → secS (putS zs2 37 (ndB 2 493 1 1 ++ List.replicate 32 0)) j = secS zs2 j) :=
                hid ⟨by rw [secS_put hzl.out (by omega) (by omega) hrl, if_pos rfl], fun j hj hj2 => by rw [secS_put hzl.out (by omega) hj hrl, if_neg hj2]⟩
              obtain ⟨zs6, hzs6⟩ : ∃ zs6, zs6 = putS zs2 37 (ndB 2 493 1 1 ++ List.replicate 32 0) := ⟨_, rfl⟩
              rw [← hzs6] at D6 hz6
              have HS6 := hid (dksize_ok w6 F6 p n zs6 _ D6.1)
              replace D6 := hid D6
              clear u1 u2 u3 D5 R5 y1 y2 hzs6 hwl hrl
              go_wp2_with (first | (go_at_call 43; refine HS6.out.mono ?_; rintro e w' ⟨rfl, rfl⟩) | (go_at_call 48; refine (mark_ok _ n (by omega)).mono ?_; rintro e w7 ⟨a7, c7, G7, rfl, s7, k7, g7⟩))
              have D7 := D6.out.quiet k7
              have hwl : ∀ g, F6 g → g < w6.heap.size := D6.out.1.lt
              refine (dkwrite_ok w7 F6 p n zs6 _ D7.1 (by omega) 0 (by omega) _ _ _ _ s7.rd (fun g hg hh => by have := g7 g hg; have := hwl g hh; omega)).mono ?_
              rintro e w8 ⟨rfl, F8, u1, u2, u3⟩
              have D8 := D7.step u1 u2 u3
              have hzl6 := D6.out.1.len
              have hz8 : Hid (NewZ n (putS zs6 0 (markB n))) := hid ⟨by rw [secS_put hzl6 (by omega) (by omega) (mark_len n), if_pos rfl], by
                rw [← hz3.out]
                unfold sec3
                simp only [List.range, List.range.loop, List.flatMap_cons, List.flatMap_nil]
                rw [secS_put hzl6 (by omega) (by omega) (mark_len n), secS_put hzl6 (by omega) (by omega) (mark_len n), secS_put hzl6 (by omega) (by omega) (mark_len n), if_neg (by omega), if_neg (by omega), if_neg (by omega), hz6.out.2 _ (by omega) (by omega), hz6.out.2 _ (by omega) (by omega), hz6.out.2 _ (by omega) (by omega)], by
                rw [secS_put hzl6 (by omega) (by omega) (mark_len n), if_neg (by omega), hz6.out.1], fun j h4 hj h37 => by
                rw [secS_put hzl6 (by omega) hj (mark_len n), if_neg (by omega), hz6.out.2 j hj h37, hz4.out j hj (by omega)]⟩
              replace D8 := hid D8
              clear u1 u2 u3 D7 s7 k7 g7 hwl hzl6
              go_wp2_with fail
              refine (dkflush_ok w8 F8 p n _ _ D8.out.1).mono ?_
              rintro e w9 ⟨rfl, v1, v2⟩
              go_wp2
              go_ret
              exact ⟨rfl, F8, _, v1, hz8.out, (D8.out.step v1 v2 (Grew.refl _ _)).2⟩
end Go.Proofs.YtdcbagmgflcemaaGreatDoor
namespace Go.Proofs.YtdcbagmgflcemaaGreatDoor
open Go.ChangeShapes Go.WideShapes Go.ChangeAt Go.RowKit
set_option linter.unusedVariables false
theorem eNd : ETy Tryz.prog 128 120 8 80 := ⟨Tryz.underlying128, info_of (z := .agg (ndCells 0 0 0 0).toArray) (by kernel_rfl) rfl, by decide⟩
/-- The bytes of the sector of nodes at a place. -/
def ndS (k : Nat) : List Int := (if k = 0 then ndB 2 493 1 1 else ndB 0 0 0 0) ++ ndB 0 0 0 0
theorem ndunpack_any (w : World) (R : Nat → Prop) (b : Option Addr) (c : Nat) (j : Nat) (h : Rd w R 1 b 32 c (bys (if j = 0 then ndB 2 493 1 1 else ndB 0 0 0 0))) :
    Calls Tryz.prog 115 #[.slice b 32 c] w fun e w' => e = .returned (.tuple #[ndV (ndQ j).1 (ndQ j).2.1 (ndQ j).2.2.1 (ndQ j).2.2.2, .int .i64 0]) ∧ Chg Nil w w' := by
  by_cases hj : j = 0
  · rw [if_pos hj] at h
    have := ndunpack_1 w R b c h
    rw [show ndQ j = (2, 493, 1, 1) by unfold ndQ; rw [if_pos hj]]
    exact this
  · rw [if_neg hj] at h
    have := ndunpack_0 w R b c (by rw [zr_bys]; exact h)
    rw [show ndQ j = (0, 0, 0, 0) by unfold ndQ; rw [if_neg hj]]
    exact this
set_option maxRecDepth 100000 in
set_option maxHeartbeats 2000000 in
theorem tree_ok (w : World) (F : Nat → Prop) (p n : Nat) (zs : List Int) (m : Nat) (h : DkAt w F p n zs m) (hn : 64 ≤ n) (hz : ∀ k, k < 16 → secS zs (37 + k) = ndS k) (cs : List Value) (hl : cs.length = 48) (hcs : ∀ k, k < 16 → cs[k]? = some (.int .i64 (37 + (k : Int)))) :
    Calls Tryz.prog 53 #[.iface 24 (.pointer (some ⟨p, 0, none⟩)), .agg cs.toArray] w fun e w' => ∃ a c G, e = .returned (.tuple #[.slice a 32 c, .int .i64 0]) ∧ Sl w' 120 8 a 32 c ((ndL 32).flatMap ndR) G ∧ Chg Nil w w' ∧ ∀ g, G = some g → w.heap.size ≤ g := by
  have B0 := hid (Blk.new w 113 cs)
  have L0 := run_loadAt_mid (P := Tryz.prog) _ w.heap.size 0 57 (part_ cs 0 16) _ (B0.out.range (by omega)) Tryz.underlying57 rfl (by rw [part_len (by omega)]; kernel_rfl)
  have H := hid h
  have HZ := hid hz
  have HCS := hid hcs
  clear h hz hcs
  go_enter Tryz.func53, Tryz.ntmps53
  go_wp2_with (refine wpList_load_run L0 (by rfl) (by rfl) (by rfl) ?_)
  clear L0
  go_loopw [6, 16] (fun s6 i wr => ∃ (k N : Nat) (a : Option Addr) (c : Nat) (G : Option Nat), k ≤ 16 ∧ N = k * 2 ∧ s6 = .slice a N c ∧ i = .int .i64 k ∧ Hid (Sl wr 120 8 a N c ((ndL N).flatMap ndR) G) ∧ Hid (Chg Nil w wr) ∧ Hid (∀ g, G = some g → w.heap.size ≤ g)) (fun _ i _ => 16 - (intOf i).toNat)
  case atStart => exact ⟨0, 0, none, 0, none, by omega, rfl, rfl, rfl, Sl.empty _ _ _ _, (Chg.refl Nil w).alloc _, fun g hg => by cases hg⟩
  case round =>
    obtain ⟨k, N, a, c, G, hk, hN, rfl, rfl, hS, hC, hG⟩ := hrel
    by_cases hlt : k < 16
    · have hix := fun w => index_arr (P := Tryz.prog) w Tryz.underlying57 (by kernel_rfl) (fun w => Tryz.isAgg3 w) hlt ((part_get (cs := cs) (lo := 0) (n := 16) (by omega) hlt).trans (by rw [Nat.zero_add]; exact HCS.out k hlt))
      have HR := hid (dkread_ok wr F p n zs m (H.out.nil hC.out) (37 + k) (by omega))
      rw [HZ.out k hlt] at HR
      go_wp2_with (go_at_call 50; refine HR.out.mono ?_; rintro e w2 ⟨a1, c1, G1, rfl, s1, d1, g1⟩; replace s1 := hid s1; replace d1 := hid d1; clear g1)
      obtain ⟨g1, o1, rfl, rfl, hg1⟩ := s1.out.block (by omega)
      replace hg1 := hid hg1
      have hc1 : 64 ≤ c1 := s1.out.1
      go_loopw [6, 27] (fun s6 i wr => ∃ (j M : Nat) (a : Option Addr) (c : Nat) (G : Option Nat), j ≤ 2 ∧ M = k * 2 + j ∧ s6 = .slice a M c ∧ i = .int .i64 j ∧ Hid (Sl wr 120 8 a M c ((ndL M).flatMap ndR) G) ∧ Hid (Chg Nil w wr) ∧ Hid (Rd wr (One g1) 1 (some ⟨g1, o1, none⟩) 64 c1 (bys (ndS k))) ∧ Hid (G ≠ some g1 ∧ g1 < wr.heap.size) ∧ Hid (∀ g, G = some g → w.heap.size ≤ g)) (fun _ i _ => 2 - (intOf i).toNat)
      case atStart =>
        refine ⟨0, k * 2, a, c, G, by omega, rfl, rfl, rfl, ?_, hC.out.trans d1.out (fun _ _ h => h), s1.out.rd.mono (fun g hg => by injection hg with hg; exact hg.symm), ⟨?_, hg1.out⟩, hG⟩
        · have := hS.out.chg d1.out (fun _ _ h => h)
          rwa [hN] at this
        · exact sl_apart s1.out (hS.out.chg d1.out (fun _ _ h => h)) (by decide) g1 rfl
      case round =>
        obtain ⟨j, M, a, c, G, hj, hM, rfl, rfl, hS, hC, hX1, hX2, hG⟩ := hrel
        by_cases hlt2 : j < 2
        · have hp : (List.drop (32 * j) (bys (ndS k))).take 32 = bys (if M = 0 then ndB 2 493 1 1 else ndB 0 0 0 0) := by
            rcases j with _ | _ | j
            · rw [Nat.add_zero] at hM
              by_cases hk0 : k = 0
              · rw [if_pos (by omega)]; unfold ndS; rw [if_pos hk0]; rfl
              · rw [if_neg (by omega)]; unfold ndS; rw [if_neg hk0]; rfl
            · rw [if_neg (by omega)]
              by_cases hk0 : k = 0
              · unfold ndS; rw [if_pos hk0]; rfl
              · unfold ndS; rw [if_neg hk0]; rfl
            · omega
          have R3 := hX1.out.sub (lo := 32 * j) (k := 32) (by omega)
          rw [hp] at R3
          have HU := ndunpack_any _ _ _ _ M R3
          obtain ⟨x, hx⟩ : ∃ x, x = ndQ M := ⟨_, rfl⟩
          rw [← hx] at HU
          obtain ⟨x1, x2, x3, x4⟩ := x
          unfold ndV at HU
          replace HU := hid HU
          replace hx := hid hx
          have i1 : 32 * (j : Int) ≤ 64 := by omega
          have i2 : 32 * ((j : Int) + 1) ≤ 64 := by omega
          clear R3 hp
          have hM32 : M ≤ 32 := by omega
          replace hM := hid hM
          go_wp2_with fail
          rw [show 32 * (j + 1) - 32 * j = 32 by omega]
          refine HU.out.mono ?_
          rintro e w3 ⟨rfl, c3⟩
          have c4 := hid ((c3.alloc (.cells (ndCells x1 x2 x3 x4).toArray 120)).alloc (.cells (ndCells x1 x2 x3 x4).toArray 120))
          have S4 := hid (hS.out.chg c4.out (fun _ _ h => h))
          have N4 : Hid (Rd ((w3.alloc (.cells (ndCells x1 x2 x3 x4).toArray 120)).alloc (.cells (ndCells x1 x2 x3 x4).toArray 120)) (One (w3.heap.size + 1)) 8 (some ⟨w3.heap.size + 1, 0, none⟩) 1 1 (ndR (x1, x2, x3, x4))) := by
            have := Blk.new (w3.alloc (.cells (ndCells x1 x2 x3 x4).toArray 120)) 120 (ndCells x1 x2 x3 x4)
            rw [show (w3.alloc (.cells (ndCells x1 x2 x3 x4).toArray 120)).heap.size = w3.heap.size + 1 by simp] at this
            exact hid (Rd.of_blk (n := 1) (s := 8) this rfl (by decide))
          clear c3
          go_wp2_with (at_builtin; refine wpList_append_sl rfl _ _ eNd rfl rfl rfl S4.out N4.out (ndR_one _) (by omega) (by omega) ?_; intro a' c' w4 G' y1 y2 y3; replace y1 := hid y1; replace y2 := hid y2; replace y3 := hid y3)
          go_roundw
          case rel =>
            have hM := hM.out
            refine ⟨j + 1, M + 1, a', c', G', by omega, by omega, rfl, by go_num, ?_, (hC.out.trans c4.out (fun _ _ h => h)).trans y2.out (fun i hi hh => absurd (hG.out i hh) (by omega)), ?_, ⟨?_, ?_⟩, ?_⟩
            · have := y1.out
              refine hid ?_
              rw [ndL_succ, List.flatMap_append, ← hx.out]
              simpa using this
            · exact (hX1.out.chg c4.out (fun _ _ _ h => h)).chg y2.out (fun g _ hg hh => hX2.out.1 (by rw [← show g = g1 from hg]; exact hh))
            · rcases y3.out with h3 | h3
              · rw [h3]; exact hX2.out.1
              · rw [h3]
                intro hh
                injection hh with hh
                have := hX2.out.2
                have := c4.out.size
                simp only [alloc_size] at hh this
                omega
            · have := hX2.out.2
              have := c4.out.size
              have := y2.out.size
              simp only [alloc_size] at *
              omega
            · intro g hg
              rcases y3.out with h3 | h3
              · exact hG.out g (by rw [← h3]; exact hg)
              · rw [hg] at h3
                injection h3 with h3
                have := hC.out.size
                have := c4.out.size
                simp only [alloc_size] at *
                omega
          case measure => simp [intOf]; omega
        · have hj2 : 2 ≤ j := by omega
          go_wp2
          go_roundw
          case rel => exact ⟨k + 1, M, a, c, G, by omega, by omega, rfl, by go_num, hS, hC, hG⟩
          case measure => simp [intOf]; omega
    · have hk16 : k = 16 := by omega
      have hN32 : N = 32 := by omega
      clear hk16
      go_wp2
      go_ret2
      subst hN32
      exact ⟨a, c, G, rfl, hS.out, hC.out, hG.out⟩
end Go.Proofs.YtdcbagmgflcemaaGreatDoor
namespace Go.Proofs.YtdcbagmgflcemaaGreatDoor
open Go.ChangeShapes Go.WideShapes Go.ChangeAt Go.RowKit
set_option linter.unusedVariables false
/-- A file system's cells. -/
def fsC (p q : Nat) (fo : List Value) (a : Option Addr) (c : Nat) (bt bh : Nat) : List Value := [.pointer (some ⟨p, 0, none⟩), .pointer (some ⟨q, 0, none⟩)] ++ fo ++ [.slice none 0 0, .slice a 32 c, .map (some bt), .map (some bh)]
theorem fs_built (w : World) (p q : Nat) (fo : List Value) (hfl : fo.length = 192) (a : Option Addr) (c bt bh : Nat) :
    (Instr.build 137 #[(0, .pointer (some ⟨p, 0, none⟩)), (1, .pointer (some ⟨q, 0, none⟩)), (2, .agg fo.toArray), (3, .slice none 0 0), (4, .slice a 32 c), (5, .map (some bt)), (6, .map (some bh))]).run Tryz.prog w = .ok (.agg (fsC p q fo a c bt bh).toArray) w := by
  refine run_build_struct (Z := [.pointer none, .pointer none] ++ foZ ++ [.slice none 0 0, .slice none 0 0, .map none, .map none]) (places := [(0, 1), (1, 1), (2, 192), (194, 1), (195, 1), (196, 1), (197, 1)]) w (by kernel_rfl) ?_
  have hz := foZ_len
  generalize foZ = z at hz ⊢
  rw [fill_cons (off := 0) (size := 1) (vs := [.pointer (some ⟨p, 0, none⟩)]) rfl rfl rfl (by simp)]
  rw [List.append_assoc, over_left (by simp)]
  rw [fill_cons (off := 1) (size := 1) (vs := [.pointer (some ⟨q, 0, none⟩)]) rfl rfl rfl (by simp [over_])]
  rw [over_left (by simp [over_])]
  rw [show over_ (over_ [Value.pointer none, .pointer none] 0 [.pointer (some ⟨p, 0, none⟩)]) 1 [.pointer (some ⟨q, 0, none⟩)] = [.pointer (some ⟨p, 0, none⟩), .pointer (some ⟨q, 0, none⟩)] from rfl]
  rw [fill_cons (off := 2) (size := 192) (vs := fo) rfl rfl hfl (by simp; omega)]
  rw [over_right (i := 0) (show 2 = List.length [Value.pointer (some ⟨p, 0, none⟩), .pointer (some ⟨q, 0, none⟩)] + 0 from rfl), over_left (by omega), over_whole (by omega)]
  rw [← List.append_assoc]
  have hl : ([Value.pointer (some ⟨p, 0, none⟩), .pointer (some ⟨q, 0, none⟩)] ++ fo).length = 194 := by simp; omega
  unfold fsC
  generalize [Value.pointer (some ⟨p, 0, none⟩), .pointer (some ⟨q, 0, none⟩)] ++ fo = y at hl ⊢
  rw [fill_cons (off := 194) (size := 1) (vs := [.slice none 0 0]) rfl rfl rfl (by simp; omega), over_right (i := 0) (by omega)]
  rw [fill_cons (off := 195) (size := 1) (vs := [.slice a 32 c]) rfl rfl rfl (by simp [over_]; omega), over_right (i := 1) (by omega)]
  rw [fill_cons (off := 196) (size := 1) (vs := [.map (some bt)]) rfl rfl rfl (by simp [over_]; omega), over_right (i := 2) (by omega)]
  rw [fill_cons (off := 197) (size := 1) (vs := [.map (some bh)]) rfl rfl rfl (by simp [over_]; omega), over_right (i := 3) (by omega)]
  rfl
/-- A new file system. -/
structure FsN (w : World) (f p q : Nat) (a : Option Addr) (c : Nat) (G : Option Nat) (bt bh : Nat) : Prop where
  blk : Blk w f 137 (fsC p q (foF 16) a c bt bh)
  log : Blk w q 231 (lgCells p)
  nodes : Sl w 120 8 a 32 c ((ndL 32).flatMap ndR) G
  todo : MpAt w Tryz.prog 3 bt 0 (fun _ => none)
  held : MpAt w Tryz.prog 3 bh 0 (fun _ => none)
theorem ndS_zero {n : Nat} {zs : List Int} (h : NewZ n zs) (hn : 64 ≤ n) : ∀ k, k < 16 → secS zs (37 + k) = ndS k := by
  intro k hk
  by_cases h0 : k = 0
  · subst h0
    rw [h.root]
    rfl
  · rw [h.rest _ (by omega) (by omega) (by omega)]
    unfold ndS
    rw [if_neg h0]
    rfl
set_option maxRecDepth 100000 in
set_option maxHeartbeats 4000000 in
theorem mount_ok (w : World) (F : Nat → Prop) (p n : Nat) (zs : List Int) (m : Nat) (h : DkAt w F p n zs m) (hn : 64 ≤ n) (hz : NewZ n zs) :
    Calls Tryz.prog 24 #[.pointer (some ⟨p, 0, none⟩)] w fun e w' => ∃ f q a c G bt bh, e = .returned (.tuple #[.pointer (some ⟨f, 0, none⟩), .int .i64 0]) ∧ FsN w' f p q a c G bt bh ∧ Chg Nil w w' ∧ w.heap.size ≤ f ∧ w.heap.size ≤ q ∧ w.heap.size ≤ bt ∧ bh = bt + 1 ∧ f = bt + 1 + 1 ∧ q < bt ∧ ∀ g, G = some g → w.heap.size ≤ g ∧ g < bt := by
  have hn2 := h.bd.2
  have l1 : ¬ (n : Int) < 64 := by omega
  have hmm := @run_makeMap Tryz.prog
  have HK := hid (fun w' (hc : Chg Nil w w') => h.nil hc)
  have HR0 := dkread_ok w F p n zs m h 0 (by omega)
  rw [hz.mark] at HR0
  replace HR0 := hid HR0
  have HZ := hid hz
  obtain ⟨fo, hfo⟩ : ∃ fo, fo = foF 16 := ⟨_, rfl⟩
  have hfl : fo.length = 192 := by rw [hfo, foF_len]
  have hf1 : Hid (∀ u ∈ fo, u.oneCell' = true) := hid (by rw [hfo]; exact foF_one 16)
  have hff : Hid (∀ i, i < 16 → fo[i]? = some (.int .i64 (37 + (i : Int)))) := hid (fun i hi => by rw [hfo]; exact foF_first hi)
  have HLD := hid (fun w h => load_ok w F p n zs m h (foF 16) foT foB foC foF_fob hz.forest rfl (fun k hk hT i hi => by rw [foB_get hk hi, if_pos (foT_true hT)]; omega))
  rw [← hfo] at HLD
  replace hfo := hid hfo
  clear h hz
  go_enter Tryz.func24, Tryz.ntmps24
  go_wp2_with fail
  refine HR0.out.mono ?_
  rintro e w1 ⟨a1, c1, G1, rfl, s1, d1, g1⟩
  have HS1 := hid (dksize_ok w1 F p n zs m (HK.out _ d1))
  have heq : eqI (markB n) (markB n) = true := eqI_true rfl
  replace d1 := hid d1
  replace s1 := hid s1
  clear g1 HR0
  go_wp2_with (first | (go_at_call 43; refine HS1.out.mono ?_; rintro e w' ⟨rfl, rfl⟩) | (go_at_call 48; refine (mark_ok _ n (by omega)).mono ?_; rintro e w2 ⟨a2, c2, G2, rfl, s2, d2, g2⟩; have HE := hid (equal_by _ _ _ _ 64 _ 64 _ _ _ w2 (s1.out.chg d2 (fun _ _ h => h)).rd s2.rd (by omega) (by omega)); replace d2 := hid d2; clear s2 g2) | (go_at_call 10; refine HE.out.mono ?_; rw [heq]; rintro e w3 ⟨rfl, k3, rfl⟩))
  have C3 := hid ((d1.out.trans d2.out (fun _ _ h => h)).drewN k3)
  refine (jopen_ok _ F p n zs m (HK.out _ C3.out) hn (HZ.out.rest 5 (by omega) (by omega) (by omega))).mono ?_
  rintro e w4 ⟨q, rfl, hq, bq, d4⟩
  have C4 := hid (C3.out.trans d4 (fun _ _ h => h))
  have hq2 : w.heap.size ≤ q := Nat.le_trans C3.out.size hq
  replace bq := hid bq
  clear s1 HS1 HE heq d2 hq d4 C3
  have HL := hid (HLD.out w4 (HK.out _ C4.out))
  go_wp2_with fail
  refine HL.out.mono ?_
  rintro e w5 ⟨rfl, d5⟩
  have B5 := Blk.new w5 115 foZ
  obtain ⟨S5, B6⟩ := store_blk (P := Tryz.prog) (ty := 115) B5 (vs := fo) (by rw [hfl, foZ_len]) (by rw [hfl]; kernel_rfl) hf1.out
  have C6 : Chg Nil w ((w5.alloc (.cells foZ.toArray 115)).setCells w5.heap.size 0 (fo)) := ((C4.out.trans d5 (fun _ _ h => h)).alloc _).one (.inr (Nat.le_trans C4.out.size d5.size)) (setCells_chg _ _ _ _ _ rfl)
  have bq6 : Blk ((w5.alloc (.cells foZ.toArray 115)).setCells w5.heap.size 0 (fo)) q 231 (lgCells p) := Blk.chg (F := One w5.heap.size) ((bq.out.chg d5 (fun h => h)).alloc _) (setCells_chg _ _ _ _ _ rfl) (fun hh => by have := bq.out.lt; have := d5.size; have : q = w5.heap.size := hh; omega)
  obtain ⟨W, hW⟩ : ∃ W, W = (w5.alloc (.cells foZ.toArray 115)).setCells w5.heap.size 0 (fo) := ⟨_, rfl⟩
  rw [← hW] at S5 B6 C6 bq6
  replace hW := hid hW
  have L6 := load_part (P := Tryz.prog) (lo := 0) (n := 48) B6 (by rw [hfl]; omega) Tryz.underlying113 rfl (by kernel_rfl)
  have HT := hid (tree_ok W F p n zs m (HK.out _ C6) hn (ndS_zero HZ.out hn) (part_ (fo) 0 48) (part_len (by rw [hfl]; omega)) (fun k hk => by rw [part_get (by rw [hfl]; omega) (by omega), Nat.zero_add, hff.out k hk]))
  replace B6 := hid B6
  replace C6 := hid C6
  replace bq6 := hid bq6
  clear B5 d5 C4 bq HL HLD
  go_wp2_with (first | (refine wpList_store_run S5 (by rfl) (by rfl) (by rfl) (by rfl) ?_) | (refine wpList_load_run L6 (by rfl) (by rfl) (by rfl) ?_))
  refine HT.out.mono ?_
  rintro e w7 ⟨a7, c7, G7, rfl, s7, d7, g7⟩
  have C7 := hid (C6.out.trans d7 (fun _ _ h => h))
  have gg7 := hid (fun g (hg : G7 = some g) => Nat.le_trans C6.out.size (g7 g hg))
  have HR4 := dkread_ok w7 F p n zs m (HK.out _ C7.out) 4 (by omega)
  rw [HZ.out.rest 4 (by omega) (by omega) (by omega)] at HR4
  replace HR4 := hid HR4
  have B7 := hid (B6.out.chg d7 (fun h => h))
  have bq7 := hid (bq6.out.chg d7 (fun h => h))
  replace s7 := hid s7
  clear S5 L6 HT B6 C6 bq6 d7 g7
  go_wp2_with fail
  refine HR4.out.mono ?_
  rintro e w8 ⟨a8, c8, G8, rfl, s8, d8, g8⟩
  have s8' := s8.rd
  rw [← zr_bys] at s8'
  have HQ := hid (qunpack_zero w8 _ _ _ s8')
  clear s8 s8' HR4
  go_wp2_with fail
  refine HQ.out.mono ?_
  rintro e w9 ⟨rfl, d9⟩
  have d79 := d8.trans d9 (fun _ _ h => h)
  have B9 := hid (B7.out.chg d79 (fun h => h))
  have bq9 := hid (bq7.out.chg d79 (fun h => h))
  have s9 := hid (s7.out.chg d79 (fun _ _ h => h))
  have C9 := hid (C7.out.trans d79 (fun _ _ h => h))
  have L9 := load_blk (P := Tryz.prog) B9.out Tryz.underlying115 rfl (by rw [hfl]; kernel_rfl)
  clear d8 d9 d79 B7 bq7 s7 C7 HQ g8
  have LB := fs_built ((w9.alloc (.map #[] 0)).alloc (.map #[] 0)) p q fo hfl a7 c7 w9.heap.size (w9.heap.size + 1)
  go_wp2_with (first | (refine wpList_load_run L9 (by rfl) (by rfl) (by rfl) ?_) | (refine wpList_build_run LB (by rfl) (by rfl) (by rfl) ?_))
  have W1 : Chg Nil w9 (((w9.alloc (.map #[] 0)).alloc (.map #[] 0)).alloc (.cells (fsC p q fo a7 c7 w9.heap.size (w9.heap.size + 1)).toArray 137)) := (((Chg.refl Nil w9).alloc _).alloc _).alloc _
  have F1 := Blk.new ((w9.alloc (.map #[] 0)).alloc (.map #[] 0)) 137 (fsC p q fo a7 c7 w9.heap.size (w9.heap.size + 1))
  have M1 := ((MpAt.made w9 Tryz.prog 3).alloc (.map #[] 0)).alloc (.cells (fsC p q fo a7 c7 w9.heap.size (w9.heap.size + 1)).toArray 137)
  have M2 := (MpAt.made (w9.alloc (.map #[] 0)) Tryz.prog 3).alloc (.cells (fsC p q fo a7 c7 w9.heap.size (w9.heap.size + 1)).toArray 137)
  rw [alloc_size, alloc_size] at F1
  rw [alloc_size] at M2
  have s10 := s9.out.chg W1 (fun _ _ h => h)
  have q10 := Blk.chg bq9.out W1 (fun h => h)
  have C10 := hid (C9.out.trans W1 (fun _ _ h => h))
  have hsz := Nat.le_trans C9.out.size (Nat.le_refl w9.heap.size)
  have gg9 := hid (fun g (hg : G7 = some g) => And.intro (gg7.out g hg) (s9.out.lt g hg))
  have hbt := hid hsz
  have hqt := hid (Blk.lt bq9.out)
  clear gg7
  have N : Hid (FsN (((w9.alloc (.map #[] 0)).alloc (.map #[] 0)).alloc (.cells (fsC p q fo a7 c7 w9.heap.size (w9.heap.size + 1)).toArray 137)) (w9.heap.size + 1 + 1) p q a7 c7 G7 w9.heap.size (w9.heap.size + 1)) := hid ⟨by rw [← hfo.out]; exact F1, q10, s10, M1, M2⟩
  refine (lost_ok _ _ _ _ s10.rd).mono ?_
  rintro e wl ⟨rfl, dl⟩
  replace N : Hid (FsN wl (w9.heap.size + 1 + 1) p q a7 c7 G7 w9.heap.size (w9.heap.size + 1)) := hid ⟨N.out.blk.chg dl (fun h => h), N.out.log.chg dl (fun h => h), N.out.nodes.chg dl (fun _ _ h => h), N.out.todo.chg dl (fun h => h), N.out.held.chg dl (fun h => h)⟩
  have CL := hid (C10.out.trans dl (fun _ _ h => h))
  have hf1 : w.heap.size ≤ w9.heap.size + 1 + 1 := by omega
  obtain ⟨f, hf⟩ : ∃ f, f = w9.heap.size + 1 + 1 := ⟨_, rfl⟩
  clear W1 F1 M1 M2 s10 q10 C10 LB L9 B9 bq9 s9 C9 hsz dl
  go_wp2
  go_loopw [88] (fun i wr => i = .int .i64 0 ∧ wr = wl) (fun _ _ => 0)
  case atStart => exact ⟨rfl, rfl⟩
  case round =>
    obtain ⟨rfl, rfl⟩ := hrel
    go_wp2
    go_ret2
    exact ⟨_, q, a7, c7, G7, _, _, rfl, N.out, CL.out, hf1, hq2, hbt.out, rfl, rfl, hqt.out, gg9.out⟩
end Go.Proofs.YtdcbagmgflcemaaGreatDoor
