/- Package dir: names, rows. Conditions: names of one letter · strings.Split and path.Split at the names used here. Conditions: one letter; or two letters with a slash between · Package dir: entries compared, looked for. Conditions: names of one letter. -/
import Derived.Test.YtdcbagmgflcemaaGreatDoorZ09
import Derived.Test.YtdcbagmgflcemaaGreatDoorZ28
import Derived.WalkLawsBesides
import Derived.Test.YtdcbagmgflcemaaGreatDoorZ29
import Derived.Test.YtdcbagmgflcemaaGreatDoorZ11
import Derived.StillTailTactics
import Derived.IntWalk
import Derived.Test.YtdcbagmgflcemaaGreatDoorZ05
namespace Go.Proofs.YtdcbagmgflcemaaGreatDoor
open Go.ChangeShapes Go.WideShapes Go.ChangeAt Go.RowKit
set_option linter.unusedVariables false
/-- The letters that are names here. -/
def IsNm (c : UInt8) : Prop := c = 97 ∨ c = 98 ∨ c = 102
set_option maxRecDepth 100000 in
theorem dname_ok (w : World) (c : UInt8) (h : IsNm c) : Calls Tryz.prog 204 #[.string ⟨#[c]⟩] w fun e w' => e = .returned (.bool true) ∧ w = w' := by
  have HI := fun (b : Int) => Tryz.strings_IndexByte ⟨#[c]⟩ b w
  rcases h with rfl | rfl | rfl
  all_goals
    have H0 := hid (HI 0)
    have H1 := hid (HI 47)
    clear HI
    go_enter Tryz.func204, Tryz.ntmps204
    go_wp2_with fail
    refine H0.out.mono ?_
    rintro e w' ⟨rfl, rfl⟩
    go_wp2_with fail
    refine H1.out.mono ?_
    rintro e w' ⟨rfl, rfl⟩
    go_wp2
    go_ret
    exact ⟨rfl, rfl⟩
/-- An entry's bytes. -/
def rowB (c : UInt8) (i : Nat) : List Int := (c.toNat : Int) :: (List.replicate 13 0 ++ [(i : Int), 0])
theorem rowB_len (c : UInt8) (i : Nat) : (rowB c i).length = 16 := by simp [rowB]
theorem trim_nm (c : UInt8) (h : IsNm c) : (⟨(Lib.trimRightB (strOfNums ((c.toNat : Int) :: List.replicate 13 0)).data.toList 0).toArray⟩ : ByteArray) = ⟨#[c]⟩ := by
  rcases h with rfl | rfl | rfl <;> kernel_rfl
set_option maxRecDepth 100000 in
set_option maxHeartbeats 1000000 in
theorem drow_ok (w : World) (R : Nat → Prop) (a : Option Addr) (n c : Nat) (bs : List Int) (h : Rd w R 1 a n c (bys bs)) (k : Nat) (hk : 16 * k + 16 ≤ n) (hn : n ≤ 64) (ch : UInt8) (hc : IsNm ch) (i : Nat) (hi : i ≤ 32) (hb : (bs.drop (16 * k)).take 16 = rowB ch i) :
    Calls Tryz.prog 269 #[.slice a n c, .int .i64 (k : Int)] w fun e w' => e = .returned (.agg #[.string ⟨#[ch]⟩, .int .i64 (i : Int)]) ∧ Chg Nil w w' := by
  obtain ⟨g, off, rfl, _, _, hcell⟩ := h.cellAt (by omega)
  have hl := h.ilen
  have k1 := hcell (16 * k + 14) (by omega)
  have hg : bs[16 * k + 14]? = some (i : Int) := by
    have : ((bs.drop (16 * k)).take 16)[14]? = some (i : Int) := by rw [hb]; simp [rowB]
    rwa [List.getElem?_take_of_lt (by omega), List.getElem?_drop] at this
  have hs : (bs.drop (16 * k)).take 14 = (ch.toNat : Int) :: List.replicate 13 0 := by
    have : ((bs.drop (16 * k)).take 16).take 14 = (rowB ch i).take 14 := by rw [hb]
    rwa [List.take_take, show min 14 16 = 14 from rfl] at this
  have hbg : (bys bs)[16 * k + 14]? = some (.int .u8 (i : Int)) := by
    simp only [ints, List.getElem?_map, hg, Option.map_some]
  rw [hbg] at k1
  have h2 := (h.alloc (.cells #[.string ⟨#[]⟩, .int .i64 0] 389)).sub (lo := 16 * k) (k := 14) (by omega)
  have e1 : (List.drop (16 * k) (bys bs)).take 14 = bys ((bs.drop (16 * k)).take 14) := by simp [ints, List.map_drop, List.map_take]
  rw [e1, hs] at h2
  have HCV := conv_rd (P := Tryz.prog) 22 5 9 Tryz.underlying22 Tryz.underlying5 Tryz.underlying9 h2
  have HT := fun w => Tryz.strings_TrimRight_one (strOfNums ((ch.toNat : Int) :: List.replicate 13 0)) 0 (by decide) w (by rw [strOfNums_size]; simp)
  rw [trim_nm ch hc] at HT
  replace HT := hid HT
  obtain ⟨ss, hss⟩ : ∃ ss, ss = strOfNums ((ch.toNat : Int) :: List.replicate 13 0) := ⟨_, rfl⟩
  rw [← hss] at HCV HT
  replace hss := hid hss
  have i1 : 16 * (k : Int) + 14 < (n : Int) := by omega
  have i2 : 16 * (k : Int) + 14 ≤ (c : Int) := by have := h.1; omega
  have i3 : 16 * (k : Int) ≤ 16 * (k : Int) + 14 := by omega
  clear h h2 hcell hb hs e1 hbg hg
  go_enter Tryz.func269, Tryz.ntmps269
  go_wp2
  have e1 : IntKind.i64.wrap (16 * (k : Int)) = 16 * (k : Int) := IntWalk.i64_in _ (by omega)
  have e2 : IntKind.i64.wrap (16 * (k : Int) + 14) = 16 * (k : Int) + 14 := IntWalk.i64_in _ (by omega)
  have e3 : 0 ≤ 16 * (k : Int) + 14 := by omega
  have e5 : IntKind.i64.wrap (i : Int) = (i : Int) := IntWalk.i64_in _ (by omega)
  have e4 : (16 * (k : Int) + 14).toNat = 16 * k + 14 := by omega
  have B0 := Blk.new w 389 [.string ⟨#[]⟩, .int .i64 0]
  go_region_law (go_simp; go_at_call 317; refine (HT.out _).mono ?_; rintro e w' ⟨rfl, rfl⟩)
  all_goals
    have B1 := (Blk.new w 389 [.string ⟨#[ch]⟩, .int .i64 (i : Int)]).drew
    go_wp2
    refine bodyPost_ret (results_blk rfl B1 rfl Tryz.underlying389 rfl (by kernel_rfl)) rfl ?_
    exact ⟨rfl, ((Chg.refl Nil w).alloc _).drew⟩
end Go.Proofs.YtdcbagmgflcemaaGreatDoor
namespace Go.Proofs.YtdcbagmgflcemaaGreatDoor
open Go.ChangeShapes Go.WideShapes Go.ChangeAt Go.RowKit
set_option linter.unusedVariables false
/-- The bytes of a name of one piece, or of two. -/
def nmB (l : List UInt8) : ByteArray := match l with
  | [c] => ⟨#[c]⟩
  | [c, d] => ⟨#[c, 47, d]⟩
  | _ => ⟨#[]⟩
def NmL (l : List UInt8) : Prop := l = [97] ∨ l = [98] ∨ l = [97, 102] ∨ l = [98, 102]
def nmV (l : List UInt8) : List Value := l.map fun c => .string ⟨#[c]⟩
set_option maxRecDepth 100000 in
theorem ssplit_ok (l : List UInt8) (h : NmL l) (w : World) :
    Calls Tryz.prog 125 #[.string (nmB l), .string ⟨#[47]⟩] w fun e w' => e = .returned (.slice (some ⟨w.heap.size, 0, none⟩) l.length l.length) ∧ w' = w.alloc (.cells (nmV l).toArray 9) := by
  have hg : Hid (Calls Tryz.prog 203 #[.string (nmB l), .string ⟨#[47]⟩, .int .i64 0, .int .i64 (-1)] w fun e w' => e = .returned (.slice (some ⟨w.heap.size, 0, none⟩) l.length l.length) ∧ w' = w.alloc (.cells (nmV l).toArray 9)) := by
    have hs : (nmB l).size < 4294967281 := by rcases h with rfl | rfl | rfl | rfl <;> decide
    have hI : ∀ (x : ByteArray), Lib.indexB x ⟨#[47]⟩ = Lib.indexByte x.data.toList 47 := fun x => Lib.index_one _ _
    have hC : Lib.countB (nmB l) ⟨#[47]⟩ = l.length - 1 := by
      rcases h with rfl | rfl | rfl | rfl <;> kernel_rfl
    have := Any.strings_genSplit_core Tryz.lays221 (by kernel_rfl) (nmB l) ⟨#[47]⟩ 0 (-1) l.length w hs (by decide) (by decide) (fun x c _ => by
      have := Tryz.strings_Index_one x 47 (w.alloc (.cells c 9))
      rw [← hI] at this
      exact this) (by
      have := Tryz.strings_Count_one (nmB l) 47 w
      rcases h with rfl | rfl | rfl | rfl <;> exact this) (by decide) (by decide) (by
      rcases h with rfl | rfl | rfl | rfl <;> decide)
    refine this.mono ?_
    rintro e w' ⟨rfl, rfl⟩
    rcases h with rfl | rfl | rfl | rfl <;> exact ⟨rfl, rfl⟩
  go_enter Tryz.func125, Tryz.ntmps125
  go_wp2_with fail
  refine hg.out.mono ?_
  rintro e w' ⟨rfl, rfl⟩
  go_wp2
  go_ret
  exact ⟨rfl, rfl⟩
theorem eStr : ETy Tryz.prog 27 9 1 16 := ⟨Tryz.underlying27, info_of (z := .string ⟨#[]⟩) (by kernel_rfl) rfl, by decide⟩
theorem nmV_len (l : List UInt8) : (nmV l).length = l.length := by simp [nmV]
/-- After k pieces. -/
def PsR (w : World) (l : List UInt8) (k : Nat) (s5 : Value) (wr : World) : Prop :=
  ∃ a c G, s5 = .slice a k c ∧ Sl wr 9 1 a k c (nmV (l.take k)) G ∧ (∀ g, G = some g → w.heap.size < g) ∧ Chg Nil w wr ∧ Rd wr (One w.heap.size) 1 (some ⟨w.heap.size, 0, none⟩) l.length l.length (nmV l) ∧ w.heap.size < wr.heap.size
set_option maxRecDepth 100000 in
set_option maxHeartbeats 2000000 in
theorem psplit_any (s : ByteArray) (l : List UInt8) (hs : s = ⟨#[97]⟩ ∨ s = ⟨#[98]⟩ ∨ s = ⟨#[97, 47, 102]⟩ ∨ s = ⟨#[98, 47, 102]⟩) (hnm : ∀ c, c ∈ l → IsNm c) (hlen : l.length ≤ 2) (w : World)
    (HS : Calls Tryz.prog 125 #[.string s, .string ⟨#[47]⟩] w fun e w' => e = .returned (.slice (some ⟨w.heap.size, 0, none⟩) l.length l.length) ∧ w' = w.alloc (.cells (nmV l).toArray 9)) :
    Calls Tryz.prog 59 #[.string s] w fun e w' => ∃ a c G, e = .returned (.tuple #[.bool false, .slice a l.length c, .int .i64 0]) ∧ Sl w' 9 1 a l.length c (nmV l) G ∧ Chg Nil w w' ∧ ∀ g, G = some g → w.heap.size ≤ g := by
  have HS' := hid HS
  have HN := hid hnm
  have B0 := hid (Blk.new w 9 (nmV l))
  clear HS hnm
  rcases hs with rfl | rfl | rfl | rfl
  all_goals
    go_enter Tryz.func59, Tryz.ntmps59
    go_wp2_with fail
    refine HS'.out.mono ?_
    rintro e w1 ⟨rfl, rfl⟩
    obtain ⟨W, hW⟩ : ∃ W, W = w.alloc (.cells (nmV l).toArray 9) := ⟨_, rfl⟩
    have C0 : Chg Nil w W := by rw [hW]; exact (Chg.refl Nil w).alloc _
    have hsz : w.heap.size < W.heap.size := by rw [hW]; simp
    have R0 : Rd W (One w.heap.size) 1 (some ⟨w.heap.size, 0, none⟩) l.length l.length (nmV l) := by rw [hW]; exact Rd.of_blk B0.out (by rw [nmV_len, Nat.mul_one]) (by unfold maxLen; omega)
    rw [← hW]
    replace hW := hid hW
    have St := hid (show PsR w l 0 (.slice none 0 0) W from ⟨none, 0, none, rfl, Sl.empty _ _ _ _, fun g hg => (by cases hg), C0, R0, hsz⟩)
    clear C0 hsz R0
    go_wp2
    go_loopw [5, 16] (fun s5 i wr => ∃ k : Nat, k ≤ l.length ∧ i = .int .i64 (k : Int) ∧ Hid (PsR w l k s5 wr)) (fun _ i _ => l.length - (intOf i).toNat)
    case atStart => exact ⟨0, Nat.zero_le _, rfl, St.out⟩
    case round =>
      obtain ⟨k, hk, rfl, hp⟩ := hrel
      by_cases hlt : k < l.length
      · obtain ⟨a, c, G, rfl, S1, hG, C1, R1, hz⟩ := hp.out
        obtain ⟨g, off, e1, hg1, hg2, hc⟩ := R1.cellAt (by omega)
        have z0 := hc k hlt
        clear hc
        have hx : (nmV l)[k]? = some (.string ⟨#[l[k]]⟩) := by simp [nmV, List.getElem?_eq_getElem hlt]
        rw [hx] at z0
        have hnk := HN.out l[k] (List.getElem_mem hlt)
        have htk : l.take (k + 1) = l.take k ++ [l[k]] := List.take_succ_eq_append_getElem hlt
        obtain ⟨x, hxx⟩ : ∃ x, x = l[k] := ⟨_, rfl⟩
        rw [← hxx] at z0 hnk htk
        injection e1 with e1
        injection e1 with e1 e2
        subst e2
        have e1' : w.heap.size = g := e1
        subst e1'
        rw [Nat.zero_add] at z0
        replace S1 := hid S1
        replace hG := hid hG
        replace C1 := hid C1
        replace R1 := hid R1
        replace htk := hid htk
        replace hxx := hid hxx
        clear hx hp
        have hb1 : ((⟨#[x]⟩ : ByteArray) == ⟨#[]⟩) = false := rfl
        have BN := hid (Rd.of_blk (n := 1) (s := 1) (Blk.new wr 9 [.string ⟨#[x]⟩]) rfl (by decide))
        have SN := hid (S1.out.alloc (.cells #[.string ⟨#[x]⟩] 9))
        go_wp2_with (at_builtin; refine wpList_append_sl rfl _ _ eStr rfl rfl rfl SN.out BN.out (fun u hu => by simp only [List.mem_cons, List.not_mem_nil, or_false] at hu; rw [hu]; rfl) (by omega) (by omega) ?_; intro a' c' w' G' y1 y2 y3; replace y1 := hid y1; replace y2 := hid y2; replace y3 := hid y3)
        go_roundw
        case rel =>
          refine ⟨k + 1, by omega, by go_num, hid ⟨a', c', G', rfl, ?_, fun g hg => ?_, ?_, ?_, ?_⟩⟩
          · have := y1.out
            rw [htk.out]
            simpa [nmV] using this
          · rcases y3.out with h3 | h3
            · exact hG.out g (by rw [← h3]; exact hg)
            · rw [h3] at hg
              injection hg with hg
              have : wr.heap.size + 1 = g ∨ wr.heap.size = g := by simp at hg; omega
              omega
          · exact (C1.out.alloc _).trans y2.out (fun k hk hh => by have := hG.out k hh; omega)
          · exact (R1.out.alloc _).chg y2.out (fun g hg1 hg hh => by
              have := hG.out g hh
              have h4 : g = w.heap.size := hg
              omega)
          · exact Nat.lt_of_lt_of_le hz (Nat.le_trans (by simp) y2.out.size)
        case measure => simp [intOf]; omega
      · obtain rfl : k = l.length := by omega
        obtain ⟨a, c, G, rfl, S1, hG, C1, R1, hz⟩ := hp.out
        rw [List.take_length] at S1
        replace S1 := hid S1
        replace hG := hid hG
        replace C1 := hid C1
        clear R1 hp
        go_wp2
        go_ret3
        exact ⟨a, c, G, rfl, S1.out, C1.out, fun g hg => Nat.le_of_lt (hG.out g hg)⟩
theorem psplit_ok (l : List UInt8) (h : NmL l) (w : World) :
    Calls Tryz.prog 59 #[.string (nmB l)] w fun e w' => ∃ a c G, e = .returned (.tuple #[.bool false, .slice a l.length c, .int .i64 0]) ∧ Sl w' 9 1 a l.length c (nmV l) G ∧ Chg Nil w w' ∧ ∀ g, G = some g → w.heap.size ≤ g :=
  psplit_any (nmB l) l (by rcases h with rfl | rfl | rfl | rfl <;> simp [nmB]) (by
    rcases h with rfl | rfl | rfl | rfl <;> intro c hc <;> simp at hc <;> unfold IsNm <;> rcases hc with rfl | rfl <;> simp) (by rcases h with rfl | rfl | rfl | rfl <;> simp) w (ssplit_ok l h w)
end Go.Proofs.YtdcbagmgflcemaaGreatDoor
namespace Go.Proofs.YtdcbagmgflcemaaGreatDoor
open Go.ChangeShapes Go.WideShapes Go.ChangeAt Go.RowKit
set_option linter.unusedVariables false
/-- An entry: its letter, its node. -/
structure En where
  c : UInt8
  i : Nat
def En.row (x : En) : List Value := [.string ⟨#[x.c]⟩, .int .i64 (x.i : Int)]
def enL (l : List En) : List Value := l.flatMap En.row
def EnOk (x : En) : Prop := IsNm x.c ∧ 1 ≤ x.i ∧ x.i ≤ 32
/-- Names of one letter, compared. -/
theorem nm_beq (c d : UInt8) : ((⟨#[c]⟩ : ByteArray) == ⟨#[d]⟩) = (c == d) := by
  show ((#[c] : Array UInt8) == #[d]) = (c == d)
  simp
def cmpN (c d : UInt8) : Int := if c < d then -1 else if d < c then 1 else 0
set_option maxRecDepth 100000 in
theorem cmpnan_ok (w : World) (c : UInt8) (h : IsNm c) : Calls Tryz.prog 318 #[.string ⟨#[c]⟩] w fun e w' => e = .returned (.bool false) ∧ w = w' := by
  rcases h with rfl | rfl | rfl
  all_goals
    go_enter Tryz.func318, Tryz.ntmps318
    go_wp2
    go_ret
    exact ⟨rfl, rfl⟩
set_option maxRecDepth 100000 in
theorem cmpstr_ok (w : World) (c d : UInt8) (hc : IsNm c) (hd : IsNm d) : Calls Tryz.prog 270 #[.string ⟨#[c]⟩, .string ⟨#[d]⟩] w fun e w' => e = .returned (.int .i64 (cmpN c d)) ∧ w = w' := by
  have H1 := hid (cmpnan_ok w c hc)
  have H2 := hid (cmpnan_ok w d hd)
  rcases hc with rfl | rfl | rfl <;> rcases hd with rfl | rfl | rfl
  all_goals
    go_enter Tryz.func270, Tryz.ntmps270
    go_wp2_with fail
    refine H1.out.mono ?_
    rintro e w' ⟨rfl, rfl⟩
    go_wp2_with fail
    refine H2.out.mono ?_
    rintro e w' ⟨rfl, rfl⟩
    go_wp2
    go_ret
    exact ⟨rfl, rfl⟩
set_option maxRecDepth 100000 in
theorem ecloR (x y : En) (q : Nat) (w : World) (hq : w.cell? ⟨q, 0, none⟩ = some (.string ⟨#[x.c]⟩)) :
    Calls Tryz.prog 354 #[.agg #[.string ⟨#[y.c]⟩, .int .i64 (y.i : Int)], .pointer (some ⟨q, 0, none⟩)] w fun e w' => e = .returned (.bool (x.c == y.c)) ∧ Chg Nil w w' := by
  have hlt := (lt_of_cell hq).1
  have hb := nm_beq x.c y.c
  go_enter Tryz.func354, Tryz.ntmps354
  go_wp2
  go_ret
  exact ⟨rfl, (Chg.refl _ _).alloc _⟩
set_option maxRecDepth 100000 in
set_option maxHeartbeats 1000000 in
theorem eindexR (R : Nat → Prop) (a : Option Addr) (n c q : Nat) (l : List En) (x : En) (w : World) (h : Rd w R 2 a n c (enL l)) (hn : n = l.length) (hl : n < 4294967296) (hq : w.cell? ⟨q, 0, none⟩ = some (.string ⟨#[x.c]⟩)) (hx : ∀ y, y ∈ l → (x.c == y.c) = false) :
    Calls Tryz.prog 331 #[.slice a n c, .func (.func 354) #[] #[.pointer (some ⟨q, 0, none⟩)]] w fun e w' => e = .returned (.int .i64 (-1)) ∧ Chg Nil w w' := by
  subst hn
  have H := hid h
  clear h
  go_enter Tryz.func331, Tryz.ntmps331
  go_wp2
  go_loopw [8] (fun i wr => ∃ k : Nat, k ≤ l.length ∧ i = .int .i64 k ∧ Hid (Chg Nil w wr)) (fun i _ => l.length - (intOf i).toNat)
  case atStart => exact ⟨0, Nat.zero_le _, rfl, Chg.refl _ _⟩
  case round =>
    obtain ⟨k, hk, rfl, hw⟩ := hrel
    by_cases hlt : k < l.length
    · obtain ⟨g, off, rfl, hg1, hg2, hc⟩ := (H.out.chg hw.out (fun _ _ _ h => h)).elem (f := En.row) (fun _ => rfl) rfl (by omega)
      have e0 := hc k hlt 0 (by omega)
      have e1 := hc k hlt 1 (by omega)
      clear hc
      simp only [En.row, List.getElem?_cons_succ, List.getElem?_cons_zero, Nat.add_zero] at e0 e1
      have hq' : wr.cell? ⟨q, 0, none⟩ = some (.string ⟨#[x.c]⟩) := (hw.out.cell (a := ⟨q, 0, none⟩) (lt_of_cell hq).1 (fun h => h)).trans hq
      have hb := hx l[k] (List.getElem_mem hlt)
      have HE := hid (ecloR x l[k] q wr hq')
      rw [hb] at HE
      go_wp2_with (go_at_call 354; refine HE.out.mono ?_; rintro e w1 ⟨rfl, q1⟩)
      go_roundw
      case rel => exact ⟨k + 1, by omega, by go_num, hw.out.trans q1 (fun _ _ h => h)⟩
      case measure => simp [intOf]; omega
    · go_wp2
      go_ret
      exact ⟨rfl, hw.out⟩
set_option maxRecDepth 100000 in
set_option maxHeartbeats 1000000 in
theorem econR (R : Nat → Prop) (a : Option Addr) (n c q : Nat) (l : List En) (x : En) (w : World) (h : Rd w R 2 a n c (enL l)) (hn : n = l.length) (hl : n < 4294967296) (hq : w.cell? ⟨q, 0, none⟩ = some (.string ⟨#[x.c]⟩)) (hx : ∀ y, y ∈ l → (x.c == y.c) = false) :
    Calls Tryz.prog 319 #[.slice a n c, .func (.func 354) #[] #[.pointer (some ⟨q, 0, none⟩)]] w fun e w' => e = .returned (.bool false) ∧ Chg Nil w w' := by
  have HI := hid (eindexR R a n c q l x w h hn hl hq hx)
  clear h hx hn hl hq
  go_enter Tryz.func319, Tryz.ntmps319
  go_wp2_with fail
  refine HI.out.mono ?_
  rintro e w1 ⟨rfl, q1⟩
  replace q1 := hid q1
  go_wp2
  go_ret
  exact ⟨rfl, q1.out⟩
set_option maxRecDepth 100000 in
theorem ecloP (x y : En) (q : Nat) (w : World) (hq : w.cell? ⟨q, 0, none⟩ = some (.string ⟨#[x.c]⟩)) :
    Calls Tryz.prog 320 #[.agg #[.string ⟨#[y.c]⟩, .int .i64 (y.i : Int)], .pointer (some ⟨q, 0, none⟩)] w fun e w' => e = .returned (.bool (x.c == y.c)) ∧ Chg Nil w w' := by
  have hlt := (lt_of_cell hq).1
  have hb := nm_beq x.c y.c
  go_enter Tryz.func320, Tryz.ntmps320
  go_wp2
  go_ret
  exact ⟨rfl, (Chg.refl _ _).alloc _⟩
set_option maxRecDepth 100000 in
set_option maxHeartbeats 1000000 in
theorem eindexP (R : Nat → Prop) (a : Option Addr) (n c q : Nat) (l : List En) (x : En) (w : World) (h : Rd w R 2 a n c (enL l)) (hn : n = l.length) (hl : n < 4294967296) (hq : w.cell? ⟨q, 0, none⟩ = some (.string ⟨#[x.c]⟩)) (hx : ∀ y, y ∈ l → (x.c == y.c) = false) :
    Calls Tryz.prog 331 #[.slice a n c, .func (.func 320) #[] #[.pointer (some ⟨q, 0, none⟩)]] w fun e w' => e = .returned (.int .i64 (-1)) ∧ Chg Nil w w' := by
  subst hn
  have H := hid h
  clear h
  go_enter Tryz.func331, Tryz.ntmps331
  go_wp2
  go_loopw [8] (fun i wr => ∃ k : Nat, k ≤ l.length ∧ i = .int .i64 k ∧ Hid (Chg Nil w wr)) (fun i _ => l.length - (intOf i).toNat)
  case atStart => exact ⟨0, Nat.zero_le _, rfl, Chg.refl _ _⟩
  case round =>
    obtain ⟨k, hk, rfl, hw⟩ := hrel
    by_cases hlt : k < l.length
    · obtain ⟨g, off, rfl, hg1, hg2, hc⟩ := (H.out.chg hw.out (fun _ _ _ h => h)).elem (f := En.row) (fun _ => rfl) rfl (by omega)
      have e0 := hc k hlt 0 (by omega)
      have e1 := hc k hlt 1 (by omega)
      clear hc
      simp only [En.row, List.getElem?_cons_succ, List.getElem?_cons_zero, Nat.add_zero] at e0 e1
      have hq' : wr.cell? ⟨q, 0, none⟩ = some (.string ⟨#[x.c]⟩) := (hw.out.cell (a := ⟨q, 0, none⟩) (lt_of_cell hq).1 (fun h => h)).trans hq
      have hb := hx l[k] (List.getElem_mem hlt)
      have HE := hid (ecloP x l[k] q wr hq')
      rw [hb] at HE
      go_wp2_with (go_at_call 320; refine HE.out.mono ?_; rintro e w1 ⟨rfl, q1⟩)
      go_roundw
      case rel => exact ⟨k + 1, by omega, by go_num, hw.out.trans q1 (fun _ _ h => h)⟩
      case measure => simp [intOf]; omega
    · go_wp2
      go_ret
      exact ⟨rfl, hw.out⟩
set_option maxRecDepth 100000 in
set_option maxHeartbeats 1000000 in
theorem econP (R : Nat → Prop) (a : Option Addr) (n c q : Nat) (l : List En) (x : En) (w : World) (h : Rd w R 2 a n c (enL l)) (hn : n = l.length) (hl : n < 4294967296) (hq : w.cell? ⟨q, 0, none⟩ = some (.string ⟨#[x.c]⟩)) (hx : ∀ y, y ∈ l → (x.c == y.c) = false) :
    Calls Tryz.prog 319 #[.slice a n c, .func (.func 320) #[] #[.pointer (some ⟨q, 0, none⟩)]] w fun e w' => e = .returned (.bool false) ∧ Chg Nil w w' := by
  have HI := hid (eindexP R a n c q l x w h hn hl hq hx)
  clear h hx hn hl hq
  go_enter Tryz.func319, Tryz.ntmps319
  go_wp2_with fail
  refine HI.out.mono ?_
  rintro e w1 ⟨rfl, q1⟩
  replace q1 := hid q1
  go_wp2
  go_ret
  exact ⟨rfl, q1.out⟩
end Go.Proofs.YtdcbagmgflcemaaGreatDoor
