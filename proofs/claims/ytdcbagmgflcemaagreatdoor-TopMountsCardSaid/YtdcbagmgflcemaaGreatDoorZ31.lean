/- Words for a file system in use: nodes, sectors that wait, the forest when so many sectors are taken. No program is walked here; no condition · Package fs: what there is. Conditions: a file system in use; numbers of nodes from 1 to 32 · Package mount where nothing is mounted. Conditions: just that; a number of an inode · Package mount where at most one thing is mounted. Conditions: just that; numbers of inodes · mount.Check, Down, Add, Out where at most one thing is mounted. Conditions: just that; numbers of inodes. -/
import Derived.Test.YtdcbagmgflcemaaGreatDoorZ27
import Derived.Test.YtdcbagmgflcemaaGreatDoorZ26
import Derived.Test.YtdcbagmgflcemaaGreatDoorZ05
import Derived.Test.YtdcbagmgflcemaaGreatDoorZ23
namespace Go.Proofs.YtdcbagmgflcemaaGreatDoor
open Go.ChangeShapes Go.WideShapes Go.ChangeAt Go.RowKit
set_option linter.unusedVariables false
/-- A node of the first user: its numbers; its sector (0: it has none); where that number lies. -/
structure Nd where
  kd : Nat
  md : Nat
  sz : Nat
  ln : Nat
  up : Nat
  pt : Nat
  pa : Option Addr
  pc : Nat
/-- No node. -/
def ndNo : Nd := ⟨0, 0, 0, 0, 0, 0, none, 0⟩
/-- How many sectors it has. -/
def Nd.pn (d : Nd) : Nat := if d.pt = 0 then 0 else 1
theorem Nd.pn0 {d : Nd} (h : d.pt = 0) : d.pn = 0 := by unfold Nd.pn; rw [if_pos h]
theorem Nd.pn1 {d : Nd} (h : 0 < d.pt) : d.pn = 1 := by unfold Nd.pn; rw [if_neg (by omega)]
def Nd.row (d : Nd) : List Value := [.int .i64 (d.kd : Int), .int .i64 (d.md : Int), .int .i64 0, .int .i64 0, .int .i64 (d.sz : Int), .int .i64 (d.ln : Int), .int .i64 (d.up : Int), .slice d.pa d.pn d.pc]
theorem Nd.row_len (d : Nd) : d.row.length = 8 := rfl
theorem Nd.row_one (d : Nd) : ∀ u ∈ d.row, u.oneCell' = true := by
  intro u hu
  simp only [Nd.row, List.mem_cons, List.not_mem_nil, or_false] at hu
  rcases hu with rfl | rfl | rfl | rfl | rfl | rfl | rfl | rfl <;> rfl
/-- Its sector's number lies where it says, in a block of R. -/
def NdAt (w : World) (R : Nat → Prop) (d : Nd) : Prop := (d.pt = 0 ∧ d.pa = none ∧ d.pc = 0) ∨ (0 < d.pt ∧ Rd w R 1 d.pa 1 d.pc [.int .i64 (d.pt : Int)])
theorem NdAt.chg {w w' : World} {R F : Nat → Prop} {d : Nd} (h : NdAt w R d) (hc : Chg F w w') (hF : ∀ g, g < w.heap.size → R g → ¬ F g) : NdAt w' R d := by
  rcases h with h | ⟨h1, h2⟩
  · exact .inl h
  · exact .inr ⟨h1, h2.chg hc hF⟩
theorem NdAt.mono {w : World} {R R' : Nat → Prop} {d : Nd} (h : NdAt w R d) (hR : ∀ g, R g → R' g) : NdAt w R' d := by
  rcases h with h | ⟨h1, h2⟩
  · exact .inl h
  · exact .inr ⟨h1, h2.mono hR⟩
theorem NdAt.no (w : World) (R : Nat → Prop) : NdAt w R ndNo := .inl ⟨rfl, rfl, rfl⟩
/-- A node as package inode lets it be. -/
def NdOk (d : Nd) : Prop := d = ndNo ∨ ((d.kd = 1 ∧ d.up = 0 ∨ d.kd = 2 ∧ 1 ≤ d.up ∧ d.up ≤ 32) ∧ d.md ≤ 511 ∧ d.sz ≤ 64 ∧ d.ln ≤ 200 ∧ d.pt < 256 ∧ (d.sz = 0 ↔ d.pt = 0))
/-- The bytes of a file's sectors. -/
def ptB (p : Nat) : List Int := if p = 0 then List.replicate 16 0 else (p : Int) :: 1 :: List.replicate 14 0
theorem ptB_len (p : Nat) : (ptB p).length = 16 := by unfold ptB; split <;> simp
def Nd.bytes (d : Nd) : List Int := [(d.kd : Int), ((d.md % 256 : Nat) : Int), ((d.md / 256 : Nat) : Int), 0, 0, ((d.sz % 256 : Nat) : Int), ((d.sz / 256 : Nat) : Int), (d.ln : Int), (d.up : Int)] ++ ptB d.pt ++ List.replicate 7 0
/-- 32 nodes' cells. -/
def ndsV (ns : Nat → Nd) (i : Nat) : Value := ((ns (i / 8)).row).getD (i % 8) undef
theorem ndsV_at (ns : Nat → Nd) {k j : Nat} (hj : j < 8) : some (ndsV ns (k * 8 + j)) = (ns k).row[j]? := by
  unfold ndsV
  rw [show (k * 8 + j) / 8 = k by omega, show (k * 8 + j) % 8 = j by omega, List.getD_eq_getElem?_getD, List.getElem?_eq_getElem (by rw [Nd.row_len]; omega)]
  rfl
def updN (ns : Nat → Nd) (k : Nat) (d : Nd) : Nat → Nd := fun j => if j = k then d else ns j
theorem nds_over (ns : Nat → Nd) {k : Nat} (hk : k < 32) (d : Nd) : over_ (tab 256 (ndsV ns)) (k * 8) d.row = tab 256 (ndsV (updN ns k d)) := by
  have e : d.row = tab 8 (fun j => d.row.getD j undef) := tab_of d.row_len (fun i hi => by
    rw [List.getD_eq_getElem?_getD, List.getElem?_eq_getElem (by rw [Nd.row_len]; omega)]; rfl)
  rw [e, tab_over (by omega)]
  refine tab_ext (fun i hi => ?_)
  unfold ndsV updN
  by_cases h : k * 8 ≤ i ∧ i < k * 8 + 8
  · rw [if_pos h, if_pos (by omega), show i % 8 = i - k * 8 by omega]
  · rw [if_neg h, if_neg (by omega)]
theorem nds_one (ns : Nat → Nd) : ∀ u ∈ tab 256 (ndsV ns), u.oneCell' = true := tab_one (fun i hi => by
  unfold ndsV
  have hl : i % 8 < (ns (i / 8)).row.length := by rw [Nd.row_len]; omega
  rw [List.getD_eq_getElem?_getD, List.getElem?_eq_getElem hl]
  exact Nd.row_one _ _ (List.getElem_mem hl))
/-- The nodes as they are mounted. -/
def ns0 (j : Nat) : Nd := if j = 0 then ⟨2, 493, 0, 1, 1, 0, none, 0⟩ else ndNo
theorem ns0_row (j : Nat) : (ns0 j).row = ndR (ndQ j) := by
  unfold ns0 ndQ
  by_cases h : j = 0
  · rw [if_pos h, if_pos h]; rfl
  · rw [if_neg h, if_neg h]; rfl
theorem ns0_cells : (ndL 32).flatMap ndR = tab 256 (ndsV ns0) := by
  refine tab_of (by rw [flat_len ndR 8 ndR_len, ndL_len]) (fun i hi => ?_)
  have h1 := flat_get ndR 8 ndR_len (ndL 32) (i / 8) (i % 8) (by rw [ndL_len]; omega) (by omega)
  rw [show i / 8 * 8 + i % 8 = i by omega, ndL_get, ← ns0_row, ← ndsV_at ns0 (by omega), show i / 8 * 8 + i % 8 = i by omega] at h1
  exact h1
/-- A sector that waits: its bytes, where they lie. -/
structure Sec where
  l : List Int
  a : Option Addr
  c : Nat
def Sec.val (s : Sec) : Value := .slice s.a 64 s.c
def SecAt (w : World) (R : Nat → Prop) (s : Sec) : Prop := Rd w R 1 s.a 64 s.c (bys s.l)
theorem SecAt.chg {w w' : World} {R F : Nat → Prop} {s : Sec} (h : SecAt w R s) (hc : Chg F w w') (hF : ∀ g, g < w.heap.size → R g → ¬ F g) : SecAt w' R s := Rd.chg h hc hF
theorem SecAt.mono {w : World} {R R' : Nat → Prop} {s : Sec} (h : SecAt w R s) (hR : ∀ g, R g → R' g) : SecAt w R' s := Rd.mono h hR
/-- What a map of sectors holds, as values. -/
def secM (f : Int → Option Sec) (k : Int) : Option Value := (f k).map Sec.val
def updS (f : Int → Option Sec) (k : Int) (s : Sec) : Int → Option Sec := fun j => if j = k then some s else f j
theorem secM_upd (f : Int → Option Sec) (k : Int) (s : Sec) : secM (updS f k s) = updM (secM f) k (some s.val) := by
  funext j
  unfold secM updS updM
  by_cases h : j = k
  · rw [if_pos h, if_pos h]; rfl
  · rw [if_neg h, if_neg h]
/-- The forest when m sectors are taken beside those of the nodes. -/
def foM (m : Nat) : List Value := (ints .i64 (numF 16) ++ bys (hasN (16 + m))) ++ (trZ ++ trZ ++ trZ)
def foMC (m : Nat) : List Int := hasN (16 + m) ++ List.replicate 96 0
theorem foM_zero : foM 0 = foF 16 := rfl
theorem foM_len (m : Nat) : (foM m).length = 192 := by
  simp only [foM, trZ, List.length_append, ints_length, numF_len, hasN_len, List.length_replicate, zr_len]
theorem foM_one (m : Nat) : ∀ u ∈ foM m, u.oneCell' = true := by
  intro u hu
  have hz : ∀ u ∈ trZ, u.oneCell' = true := by
    intro u hu
    unfold trZ at hu
    rw [List.mem_append] at hu
    rcases hu with hu | hu
    · rw [List.eq_of_mem_replicate hu]; rfl
    · rw [zr_bys] at hu; exact ints_one _ _ u hu
  simp only [foM, List.mem_append] at hu
  rcases hu with (hu | hu) | ((hu | hu) | hu)
  · exact ints_one _ _ u hu
  · exact ints_one _ _ u hu
  · exact hz u hu
  · exact hz u hu
  · exact hz u hu
theorem foM_first (m : Nat) {i : Nat} (hi : i < 16) : (foM m)[i]? = some (.int .i64 (37 + (i : Int))) := by
  unfold foM
  rw [List.append_assoc, List.getElem?_append_left (by rw [ints_length, numF_len]; omega), ints_get _ _ (by rw [numF_len]; omega)]
  simp [numF, hi]
theorem foM_rest (m : Nat) {k : Nat} (h1 : 1 ≤ k) (hk : k < 4) : part_ (foM m) (k * 48) 48 = trZ := by
  have hz : trZ.length = 48 := by simp [trZ, zr_len]
  have h4 : (ints .i64 (numF 16) ++ bys (hasN (16 + m))).length = 48 := by simp [ints_length, numF_len, hasN_len]
  unfold part_ foM
  generalize trZ = z at hz ⊢
  generalize (ints .i64 (numF 16) ++ bys (hasN (16 + m))) = y at h4 ⊢
  obtain rfl | rfl | rfl : k = 1 ∨ k = 2 ∨ k = 3 := by omega
  · rw [show 1 * 48 = y.length by omega, List.drop_left, List.append_assoc, List.take_append_of_le_length (by omega), List.take_of_length_le (by omega)]
  · rw [← List.append_assoc, ← List.append_assoc, show 2 * 48 = (y ++ z).length by rw [List.length_append]; omega, List.append_assoc (y ++ z), List.drop_left, List.take_append_of_le_length (by omega), List.take_of_length_le (by omega)]
  · rw [← List.append_assoc, ← List.append_assoc, show 3 * 48 = (y ++ z ++ z).length by simp only [List.length_append]; omega, List.drop_left, List.take_of_length_le (by omega)]
theorem foM_num (m : Nat) {k i : Nat} (hk : k < 4) (hi : i < 16) : (foM m)[k * 48 + i]? = some (.int .i64 (foB.getD (k * 16 + i) 0)) := by
  rw [foB_get hk hi]
  by_cases h : k = 0
  · subst h
    rw [if_pos rfl, Nat.zero_mul, Nat.zero_add, foM_first m hi]
  · rw [if_neg h, ← part_get (cs := foM m) (lo := k * 48) (n := 48) (by rw [foM_len]; omega) (by omega), foM_rest m (by omega) hk, trZ_num hi]
theorem foM_fo (m : Nat) : Fo (foM m) foT := by
  refine ⟨foM_len m, fun k hk i hi => ⟨_, foM_num m hk hi, ?_, ?_⟩, fun k hk => ⟨_, by have := foM_num m hk (i := 0) (by omega); rwa [Nat.add_zero] at this, ?_⟩, fun k hk ht => ?_⟩
  · rw [foB_get hk hi]; split <;> omega
  · rw [foB_get hk hi]; split <;> omega
  · have := foB_get hk (i := 0) (by omega)
    rw [Nat.add_zero] at this
    rw [Nat.add_zero, this]
    unfold foT
    by_cases h : k = 0
    · subst h; rfl
    · simp [h]
  · have : k ≠ 0 := by
      rintro rfl
      simp [foT] at ht
    exact foM_rest m (by omega) hk
theorem foM_fob (m : Nat) : FoB (foM m) foT foB (foMC m) := by
  refine ⟨foM_fo m, by simp [foB, numF_len], by simp [foMC, hasN_len], fun k hk i hi => ⟨foM_num m hk hi, ?_, ?_⟩, fun k hk => ?_⟩
  · rw [foB_get hk hi]; split <;> omega
  · rw [foB_get hk hi]; split <;> omega
  · unfold foMC
    by_cases h : k = 0
    · subst h
      have := foF_has (numF 16) (hasN (16 + m)) (numF_len 16) (hasN_len (16 + m))
      rw [Nat.zero_mul, Nat.zero_add, List.drop_zero, List.take_append_of_le_length (by rw [hasN_len]; omega), List.take_of_length_le (by rw [hasN_len]; omega)]
      exact this
    · have h1 := foM_rest m (k := k) (by omega) hk
      have e : part_ (foM m) (k * 48 + 16) 32 = (part_ (foM m) (k * 48) 48).drop 16 := by
        unfold part_
        rw [List.drop_take, List.drop_drop]
      rw [e, h1, show k * 32 = (hasN (16 + m)).length + (k * 32 - 32) by rw [hasN_len]; omega, drop_in, List.drop_replicate, List.take_replicate]
      unfold trZ
      rw [List.drop_append_of_le_length (by simp), List.drop_of_length_le (by simp), List.nil_append, zr_bys]
      congr 2
      omega
theorem foM_has (m : Nat) : part_ (foM m) 16 32 = bys (hasN (16 + m)) := foF_has (numF 16) (hasN (16 + m)) (numF_len 16) (hasN_len (16 + m))
theorem foM_over (m : Nat) : over_ (foM m) 16 (bys (hasN (16 + (m + 1)))) = foM (m + 1) := foF_over (numF 16) (hasN (16 + m)) (hasN (16 + (m + 1))) (numF_len 16) (hasN_len _) (hasN_len _)
theorem hasN_next (m : Nat) : withB (hasN (16 + m)) (53 + m) = hasN (16 + (m + 1)) := by
  show withB (hasN (16 + m)) (53 + m) = withB (hasN (16 + m)) (37 + (16 + m))
  rw [show 37 + (16 + m) = 53 + m by omega]
/-- A file system in use. -/
structure FX where
  ns : Nat → Nd
  na : Option Addr
  nc : Nat
  m : Nat
  td : Int → Option Sec
  hd : Int → Option Value
/-- What a sector has. -/
def FX.sec (X : FX) (zs : List Int) (p : Nat) : List Int := match X.td p with | some s => s.l | none => secS zs p
/-- All that a file system has, apart from what changes in place. -/
def Fr (FF : Nat → Prop) (f bt bh : Nat) : Nat → Prop := fun k => FF k ∧ k ≠ f ∧ k ≠ bt ∧ k ≠ bh
structure FsA (w : World) (FF FD : Nat → Prop) (f p q bt bh : Nat) (zs : List Int) (X : FX) : Prop where
  blk : Blk w f 137 (fsC p q (foM X.m) X.na X.nc bt bh)
  log : Blk w q 231 (lgCells p)
  dk : DkAt w FD p 256 zs 0
  nz : NewZ 256 zs
  nodes : Rd w (Fr FF f bt bh) 8 X.na 32 X.nc (tab 256 (ndsV X.ns))
  pts : ∀ i, i < 32 → NdAt w (Fr FF f bt bh) (X.ns i)
  nok : ∀ i, i < 32 → NdOk (X.ns i)
  todo : MpAt w Tryz.prog 3 bt 40 (secM X.td)
  tsec : ∀ k s, X.td k = some s → SecAt w (Fr FF f bt bh) s
  tkey : ∀ k, (X.td k).isSome = true → (1 ≤ k ∧ k ≤ 4) ∨ (37 ≤ k ∧ k < 53 + (X.m : Int))
  held : MpAt w Tryz.prog 3 bh 1000 X.hd
  mle : X.m ≤ 8
  inF : FF f ∧ FF bt ∧ FF bh
  inQ : Fr FF f bt bh q
  inD : ∀ k, FD k → Fr FF f bt bh k
  ne : f ≠ bt ∧ f ≠ bh ∧ bt ≠ bh
  lt : ∀ k, FF k → k < w.heap.size
theorem FsA.chg {w w' : World} {FF FD H : Nat → Prop} {f p q bt bh : Nat} {zs : List Int} {X : FX} (h : FsA w FF FD f p q bt bh zs X) (hc : Chg H w w') (hd : Dj FF H) : FsA w' FF FD f p q bt bh zs X :=
  ⟨h.blk.chg hc (hd f h.inF.1), h.log.chg hc (hd q h.inQ.1), h.dk.chg hc (fun k hk => hd k (h.inD k hk).1), h.nz, h.nodes.chg hc (fun g _ hg => hd g hg.1), fun i hi => (h.pts i hi).chg hc (fun g _ hg => hd g hg.1), h.nok, h.todo.chg hc (hd bt h.inF.2.1), fun k s hs => (h.tsec k s hs).chg hc (fun g _ hg => hd g hg.1), h.tkey, h.held.chg hc (hd bh h.inF.2.2), h.mle, h.inF, h.inQ, h.inD, h.ne, fun k hk => Nat.lt_of_lt_of_le (h.lt k hk) hc.size⟩
theorem FsA.nil {w w' : World} {FF FD : Nat → Prop} {f p q bt bh : Nat} {zs : List Int} {X : FX} (h : FsA w FF FD f p q bt bh zs X) (hc : Chg Nil w w') : FsA w' FF FD f p q bt bh zs X := h.chg hc (fun _ _ h => h)
end Go.Proofs.YtdcbagmgflcemaaGreatDoor
namespace Go.Proofs.YtdcbagmgflcemaaGreatDoor
open Go.ChangeShapes Go.WideShapes Go.ChangeAt Go.RowKit
set_option linter.unusedVariables false
theorem fsC_tail (p q : Nat) (fo : List Value) (hl : fo.length = 192) (a : Option Addr) (c bt bh j : Nat) : (fsC p q fo a c bt bh)[194 + j]? = [.slice none 0 0, .slice a 32 c, .map (some bt), .map (some bh)][j]? := by
  unfold fsC
  rw [List.getElem?_append_right (by simp; omega)]
  congr 1
  simp
  omega
section
variable {w : World} {FF FD : Nat → Prop} {f p q bt bh : Nat} {zs : List Int} {X : FX}
theorem FsA.nd (h : FsA w FF FD f p q bt bh zs X) {k : Nat} (hk : k < 32) : ∃ g off, X.na = some ⟨g, off, none⟩ ∧ ∀ j, j < 8 → w.cell? ⟨g, off + k * 8 + j, none⟩ = (X.ns k).row[j]? := by
  obtain ⟨g, off, r1, r2, r3, r4⟩ := h.nodes.2.2.2 (by omega)
  refine ⟨g, off, r1, fun j hj => ?_⟩
  rw [Nat.add_assoc, r4 _ (by omega), tab_get _ (by omega), ndsV_at _ hj]
theorem FsA.c0 (h : FsA w FF FD f p q bt bh zs X) : w.cell? ⟨f, 0, none⟩ = some (.pointer (some ⟨p, 0, none⟩)) := h.blk.cell 0
theorem FsA.c1 (h : FsA w FF FD f p q bt bh zs X) : w.cell? ⟨f, 1, none⟩ = some (.pointer (some ⟨q, 0, none⟩)) := h.blk.cell 1
theorem FsA.c194 (h : FsA w FF FD f p q bt bh zs X) : w.cell? ⟨f, 194, none⟩ = some (.slice none 0 0) := (h.blk.cell (194 + 0)).trans (fsC_tail _ _ _ (foM_len _) _ _ _ _ 0)
theorem FsA.c195 (h : FsA w FF FD f p q bt bh zs X) : w.cell? ⟨f, 195, none⟩ = some (.slice X.na 32 X.nc) := (h.blk.cell (194 + 1)).trans (fsC_tail _ _ _ (foM_len _) _ _ _ _ 1)
theorem FsA.c196 (h : FsA w FF FD f p q bt bh zs X) : w.cell? ⟨f, 196, none⟩ = some (.map (some bt)) := (h.blk.cell (194 + 2)).trans (fsC_tail _ _ _ (foM_len _) _ _ _ _ 2)
theorem FsA.c197 (h : FsA w FF FD f p q bt bh zs X) : w.cell? ⟨f, 197, none⟩ = some (.map (some bh)) := (h.blk.cell (194 + 3)).trans (fsC_tail _ _ _ (foM_len _) _ _ _ _ 3)
end
set_option maxRecDepth 100000 in
theorem fthere_ok {w : World} {FF FD : Nat → Prop} {f p q bt bh : Nat} {zs : List Int} {X : FX} (h : FsA w FF FD f p q bt bh zs X) (k : Nat) (hk : k < 32) (i : Int) (hi : i = (k : Int) + 1) (hkd : 0 < (X.ns k).kd) :
    Calls Tryz.prog 212 #[.pointer (some ⟨f, 0, none⟩), .int .i64 i] w fun e w' => e = .returned (.bool true) ∧ w = w' := by
  obtain ⟨g, off, hna, hc⟩ := h.nd hk
  have k1 := h.c195
  have k2 := hc 0 (by omega)
  rw [hna] at k1
  simp only [Nd.row, List.getElem?_cons_zero, Nat.add_zero] at k2
  generalize (X.ns k).kd = kd at hkd k2
  subst hi
  have i1 : (k : Int) + 1 ≤ 32 := by omega
  have i2 : ((kd : Int) != 0) = true := by rw [bne_iff_ne]; omega
  clear hc h hna
  go_enter Tryz.func212, Tryz.ntmps212
  go_wp2
  go_ret
  exact ⟨rfl, rfl⟩
set_option maxRecDepth 100000 in
theorem fdirectory_ok {w : World} {FF FD : Nat → Prop} {f p q bt bh : Nat} {zs : List Int} {X : FX} (h : FsA w FF FD f p q bt bh zs X) (k : Nat) (hk : k < 32) (i : Int) (hi : i = (k : Int) + 1) (hkd : (X.ns k).kd = 2) :
    Calls Tryz.prog 205 #[.pointer (some ⟨f, 0, none⟩), .int .i64 i] w fun e w' => e = .returned (.int .i64 0) ∧ w = w' := by
  obtain ⟨g, off, hna, hc⟩ := h.nd hk
  have HT := hid (fthere_ok h k hk i hi (by omega))
  have k1 := h.c195
  have k2 := hc 0 (by omega)
  rw [hna] at k1
  simp only [Nd.row, List.getElem?_cons_zero, Nat.add_zero, hkd] at k2
  subst hi
  have i1 : (k : Int) + 1 ≤ 32 := by omega
  clear hc h hna hkd
  go_enter Tryz.func205, Tryz.ntmps205
  go_wp2_with fail
  refine HT.out.mono ?_
  rintro e w' ⟨rfl, rfl⟩
  go_wp2
  go_ret
  exact ⟨rfl, rfl⟩
set_option maxRecDepth 100000 in
theorem ffile_ok {w : World} {FF FD : Nat → Prop} {f p q bt bh : Nat} {zs : List Int} {X : FX} (h : FsA w FF FD f p q bt bh zs X) (k : Nat) (hk : k < 32) (i : Int) (hi : i = (k : Int) + 1) (hkd : (X.ns k).kd = 1) :
    Calls Tryz.prog 129 #[.pointer (some ⟨f, 0, none⟩), .int .i64 i] w fun e w' => e = .returned (.int .i64 0) ∧ w = w' := by
  obtain ⟨g, off, hna, hc⟩ := h.nd hk
  have HT := hid (fthere_ok h k hk i hi (by omega))
  have k1 := h.c195
  have k2 := hc 0 (by omega)
  rw [hna] at k1
  simp only [Nd.row, List.getElem?_cons_zero, Nat.add_zero, hkd] at k2
  subst hi
  have i1 : (k : Int) + 1 ≤ 32 := by omega
  clear hc h hna hkd
  go_enter Tryz.func129, Tryz.ntmps129
  go_wp2_with fail
  refine HT.out.mono ?_
  rintro e w' ⟨rfl, rfl⟩
  go_wp2
  go_ret
  exact ⟨rfl, rfl⟩
set_option maxRecDepth 100000 in
theorem fwho_ok (w : World) : Calls Tryz.prog 127 #[.int .i64 0, .int .i64 0] w fun e w' => e = .returned (.bool true) ∧ w = w' := by
  go_enter Tryz.func127, Tryz.ntmps127
  go_wp2
  go_ret
  exact ⟨rfl, rfl⟩
/-- A node read whole. -/
theorem FsA.ndLoad {w : World} {FF FD : Nat → Prop} {f p q bt bh : Nat} {zs : List Int} {X : FX} (h : FsA w FF FD f p q bt bh zs X) {k : Nat} (hk : k < 32) {g off : Nat} (hna : X.na = some ⟨g, off, none⟩) :
    (Instr.loadAt 120 (.pointer (some ⟨g, off + k * 8, none⟩))).run Tryz.prog w = .ok (.agg (X.ns k).row.toArray) w := by
  obtain ⟨g', off', hna', hc⟩ := h.nd hk
  obtain ⟨rfl, rfl⟩ : g = g' ∧ off = off' := by
    rw [hna] at hna'
    simpa using hna'
  refine run_loadAt_mid (P := Tryz.prog) w g (off + k * 8) 120 (X.ns k).row _ (fun j v hv => ?_) Tryz.underlying120 rfl (by rw [Nd.row_len]; kernel_rfl)
  have hj : j < 8 := by have := (List.getElem?_eq_some_iff.1 hv).1; rwa [Nd.row_len] at this
  rw [hc j hj, hv]
set_option maxRecDepth 100000 in
set_option maxHeartbeats 1000000 in
theorem ffree_ok {w : World} {FF FD : Nat → Prop} {f p q bt bh : Nat} {zs : List Int} {X : FX} (h : FsA w FF FD f p q bt bh zs X) (m : Nat) (hm : m < 32) (h0 : (X.ns m).kd = 0) (h1 : ∀ k, k < m → 0 < (X.ns k).kd) :
    Calls Tryz.prog 209 #[.pointer (some ⟨f, 0, none⟩)] w fun e w' => e = .returned (.tuple #[.int .i64 ((m : Int) + 1), .int .i64 0]) ∧ Chg Nil w w' := by
  obtain ⟨g, off, hna, _⟩ := h.nd (k := 0) (by omega)
  have k1 := h.c195
  rw [hna] at k1
  have H := hid h
  have HN := hid hna
  have H1 := hid h1
  have H0 := hid h0
  clear h hna h1 h0
  go_enter Tryz.func209, Tryz.ntmps209
  go_wp2
  go_loopw [11] (fun i wr => ∃ k : Nat, k ≤ m ∧ i = .int .i64 k ∧ Hid (Chg Nil w wr)) (fun i _ => 32 - (intOf i).toNat)
  case atStart => exact ⟨0, by omega, rfl, Chg.refl _ _⟩
  case round =>
    obtain ⟨k, hk, rfl, hC⟩ := hrel
    have i1 : (k : Int) < 32 := by omega
    have L := (H.out.nil hC.out).ndLoad (k := k) (by omega) HN.out
    have hrow : ((X.ns k).row.toArray) = #[.int .i64 ((X.ns k).kd : Int), .int .i64 ((X.ns k).md : Int), .int .i64 0, .int .i64 0, .int .i64 ((X.ns k).sz : Int), .int .i64 ((X.ns k).ln : Int), .int .i64 ((X.ns k).up : Int), .slice (X.ns k).pa (X.ns k).pn (X.ns k).pc] := rfl
    rw [hrow] at L
    clear hrow
    by_cases hlt : k < m
    · have hp := H1.out k hlt
      have i2 : (((X.ns k).kd : Int) == 0) = false := by rw [beq_eq_false_iff_ne]; omega
      clear hp
      go_wp2_with (refine wpList_load_run L (by rfl) (by rfl) (by rfl) ?_)
      go_roundw
      case rel => exact ⟨k + 1, by omega, by go_num, hC.out.alloc _⟩
      case measure => simp [intOf]; omega
    · have hkm : k = m := by omega
      have i2 : (((X.ns k).kd : Int) == 0) = true := by rw [hkm, H0.out]; rfl
      replace hkm := hid hkm
      clear hk hlt
      go_wp2_with (refine wpList_load_run L (by rfl) (by rfl) (by rfl) ?_)
      go_ret2
      rw [hkm.out]
      exact ⟨rfl, hC.out.alloc _⟩
end Go.Proofs.YtdcbagmgflcemaaGreatDoor
namespace Go.Proofs.YtdcbagmgflcemaaGreatDoor
open Go.ChangeShapes Go.WideShapes Go.ChangeAt Go.RowKit
set_option linter.unusedVariables false
set_option maxRecDepth 100000 in
theorem moinode_ok (w : World) (n : Int) (h1 : 1 ≤ n) (h2 : n ≤ 32) : Calls Tryz.prog 294 #[.int .i64 n] w fun e w' => e = .returned (.bool true) ∧ w' = w := by
  have i1 : n ≥ 1 := h1
  go_enter Tryz.func294, Tryz.ntmps294
  go_wp2
  go_ret
  exact ⟨rfl, rfl⟩
end Go.Proofs.YtdcbagmgflcemaaGreatDoor
namespace Go.Proofs.YtdcbagmgflcemaaGreatDoor
open Go.ChangeShapes Go.WideShapes Go.ChangeAt Go.RowKit
set_option linter.unusedVariables false
set_option linter.unusedSimpArgs false
/-- A mount: at which inode which one is seen. -/
structure Mn where
  a : Nat
  r : Nat
def Mn.row (m : Mn) : List Value := [.int .i64 (m.a : Int), .int .i64 (m.r : Int)]
def moL (l : List Mn) : List Value := l.flatMap Mn.row
def MoS (l : List Mn) : Prop := l = [] ∨ ∃ m, l = [m] ∧ m.a ≠ m.r ∧ 1 ≤ m.a ∧ m.a ≤ 32 ∧ 1 ≤ m.r ∧ m.r ≤ 32
theorem moL_one (l : List Mn) : ∀ u ∈ moL l, u.oneCell' = true := by
  intro u hu
  unfold moL at hu
  rw [List.mem_flatMap] at hu
  obtain ⟨x, _, hx⟩ := hu
  simp only [Mn.row, List.mem_cons, List.not_mem_nil, or_false] at hx
  rcases hx with rfl | rfl <;> rfl
/-- Where one comes to. -/
def moDn (l : List Mn) (n : Nat) : Nat := match l with
  | [m] => if m.a = n then m.r else n
  | _ => n
theorem eMn : ETy Tryz.prog 56 285 2 16 := ⟨Tryz.underlying56, info_of (z := .agg #[.int .i64 0, .int .i64 0]) (by kernel_rfl) rfl, by decide⟩
set_option maxRecDepth 100000 in
theorem mclo_ok (m : Mn) (q : Nat) (n : Int) (b : Bool) (hb : ((m.a : Int) == n) = b) (w : World) (hq : w.cell? ⟨q, 0, none⟩ = some (.int .i64 n)) :
    Calls Tryz.prog 297 #[.agg #[.int .i64 (m.a : Int), .int .i64 (m.r : Int)], .pointer (some ⟨q, 0, none⟩)] w fun e w' => e = .returned (.bool b) ∧ Chg Nil w w' := by
  have hlt := (lt_of_cell hq).1
  go_enter Tryz.func297, Tryz.ntmps297
  go_wp2
  go_ret
  exact ⟨rfl, (Chg.refl _ _).alloc _⟩
set_option maxRecDepth 100000 in
theorem mindex_no (R : Nat → Prop) (a : Option Addr) (n c q : Nat) (l : List Mn) (x : Int) (w : World) (h : Rd w R 2 a n c (moL l)) (hn : n = l.length) (hl : n < 4294967296) (hq : w.cell? ⟨q, 0, none⟩ = some (.int .i64 x)) (hx : ∀ y, y ∈ l → ((y.a : Int) == x) = false) :
    Calls Tryz.prog 296 #[.slice a n c, .func (.func 297) #[] #[.pointer (some ⟨q, 0, none⟩)]] w fun e w' => e = .returned (.int .i64 (-1)) ∧ Chg Nil w w' := by
  subst hn
  have H := hid h
  clear h
  go_enter Tryz.func296, Tryz.ntmps296
  go_wp2
  go_loopw [8] (fun i wr => ∃ k : Nat, k ≤ l.length ∧ i = .int .i64 k ∧ Hid (Chg Nil w wr)) (fun i _ => l.length - (intOf i).toNat)
  case atStart => exact ⟨0, Nat.zero_le _, rfl, Chg.refl _ _⟩
  case round =>
    obtain ⟨k, hk, rfl, hw⟩ := hrel
    by_cases hlt : k < l.length
    · obtain ⟨g, off, rfl, hg1, hg2, hc⟩ := (H.out.chg hw.out (fun _ _ _ h => h)).elem (f := Mn.row) (fun _ => rfl) rfl (by omega)
      have e0 := hc k hlt 0 (by omega)
      have e1 := hc k hlt 1 (by omega)
      clear hc
      simp only [Mn.row, List.getElem?_cons_succ, List.getElem?_cons_zero, Nat.add_zero] at e0 e1
      have hq' : wr.cell? ⟨q, 0, none⟩ = some (.int .i64 x) := (hw.out.cell (a := ⟨q, 0, none⟩) (lt_of_cell hq).1 (fun h => h)).trans hq
      have hb := hx l[k] (List.getElem_mem hlt)
      have HE := hid (mclo_ok l[k] q x false hb wr hq')
      go_wp2_with (go_at_call 297; refine HE.out.mono ?_; rintro e w1 ⟨rfl, q1⟩)
      go_roundw
      case rel => exact ⟨k + 1, by omega, by go_num, hw.out.trans q1 (fun _ _ h => h)⟩
      case measure => simp [intOf]; omega
    · go_wp2
      go_ret
      exact ⟨rfl, hw.out⟩
set_option maxRecDepth 100000 in
theorem mindex_yes (R : Nat → Prop) (a : Option Addr) (c q : Nat) (m : Mn) (w : World) (h : Rd w R 2 a 1 c (moL [m])) (hq : w.cell? ⟨q, 0, none⟩ = some (.int .i64 (m.a : Int))) :
    Calls Tryz.prog 296 #[.slice a 1 c, .func (.func 297) #[] #[.pointer (some ⟨q, 0, none⟩)]] w fun e w' => e = .returned (.int .i64 0) ∧ Chg Nil w w' := by
  obtain ⟨g, off, rfl, hg1, hg2, hc⟩ := h.elem (f := Mn.row) (l := [m]) (fun _ => rfl) rfl (by omega)
  have e0 := hc 0 (by simp) 0 (by omega)
  have e1 := hc 0 (by simp) 1 (by omega)
  clear hc
  simp only [Mn.row, List.getElem_cons_zero, List.getElem?_cons_succ, List.getElem?_cons_zero, Nat.add_zero, Nat.zero_mul] at e0 e1
  have HE := hid (mclo_ok m q (m.a : Int) true (by simp) w hq)
  clear h
  go_enter Tryz.func296, Tryz.ntmps296
  go_wp2
  go_loopw [8] (fun i wr => i = .int .i64 0 ∧ Hid (wr = w)) (fun i _ => 0)
  case atStart => exact ⟨rfl, rfl⟩
  case round =>
    obtain ⟨rfl, hw⟩ := hrel
    have hw' := hw.out
    subst hw'
    clear hw
    go_wp2_with (go_at_call 297; refine HE.out.mono ?_; rintro e w1 ⟨rfl, q1⟩; replace q1 := hid q1)
    go_ret
    exact ⟨rfl, q1.out⟩
/-- What find tells: at most one mount. -/
def moFd (l : List Mn) (n : Nat) : Int := match l with
  | [m] => if m.a = n then 0 else -1
  | _ => -1
set_option maxRecDepth 100000 in
theorem mofind_ok (R : Nat → Prop) (a : Option Addr) (k c : Nat) (l : List Mn) (w : World) (h : Rd w R 2 a k c (moL l)) (hk : k = l.length) (hs : MoS l) (n : Nat) :
    Calls Tryz.prog 238 #[.slice a k c, .int .i64 (n : Int)] w fun e w' => e = .returned (.int .i64 (moFd l n)) ∧ Chg Nil w w' := by
  have hmf : ∀ (fn : Fn) (first cap : Array Value) (w : World), (Instr.makeFunc fn first cap).run Tryz.prog w = .ok (.func fn first cap) w := fun _ _ _ _ => rfl
  have HI : Hid (Calls Tryz.prog 296 #[.slice a k c, .func (.func 297) #[] #[.pointer (some ⟨w.heap.size, 0, none⟩)]] (w.alloc (.cells #[.int .i64 (n : Int)] 3)) fun e w' => e = .returned (.int .i64 (moFd l n)) ∧ Chg Nil w w') := by
    have hq := (Blk.new w 3 [.int .i64 (n : Int)]).cell 0
    simp only [List.getElem?_cons_zero] at hq
    have h1 := h.alloc (.cells #[.int .i64 (n : Int)] 3)
    have C := (Chg.refl Nil w).alloc (.cells #[.int .i64 (n : Int)] 3)
    rcases hs with rfl | ⟨m, rfl, _⟩
    · exact (mindex_no R a k c _ [] (n : Int) _ h1 hk (by rw [hk]; simp) hq (fun y hy => by cases hy)).mono (fun e w' ⟨h1, h2⟩ => ⟨h1, C.trans h2 (fun _ _ h => h)⟩)
    · by_cases he : m.a = n
      · subst he
        have : moFd [m] m.a = 0 := if_pos rfl
        rw [this]
        obtain rfl : k = 1 := hk
        exact (mindex_yes R a c _ m _ h1 hq).mono (fun e w' ⟨h1, h2⟩ => ⟨h1, C.trans h2 (fun _ _ h => h)⟩)
      · have : moFd [m] n = -1 := if_neg he
        rw [this]
        exact (mindex_no R a k c _ [m] (n : Int) _ h1 hk (by rw [hk]; simp) hq (fun y hy => by
          simp only [List.mem_cons, List.not_mem_nil, or_false] at hy
          subst hy
          rw [beq_eq_false_iff_ne]
          omega)).mono (fun e w' ⟨h1, h2⟩ => ⟨h1, C.trans h2 (fun _ _ h => h)⟩)
  clear h hk hs
  go_enter Tryz.func238, Tryz.ntmps238
  go_wp2_with fail
  refine HI.out.mono ?_
  rintro e w' ⟨rfl, d1⟩
  replace d1 := hid d1
  go_wp2
  go_ret
  exact ⟨rfl, d1.out⟩
set_option maxRecDepth 100000 in
set_option maxHeartbeats 1000000 in
theorem modown_ok (R : Nat → Prop) (a : Option Addr) (k c : Nat) (l : List Mn) (w : World) (h : Rd w R 2 a k c (moL l)) (hk : k = l.length) (hs : MoS l) (n : Nat) :
    Calls Tryz.prog 295 #[.slice a k c, .int .i64 (n : Int)] w fun e w' => e = .returned (.tuple #[.int .i64 (moDn l n : Int), .bool true]) ∧ Chg Nil w w' := by
  have HF := hid (fun W (hc : Chg Nil w W) (n : Nat) => mofind_ok R a k c l W (h.chg hc (fun _ _ _ h => h)) hk hs n)
  have hk2 : k ≤ 1 := by rcases hs with rfl | ⟨m, rfl, _⟩ <;> rw [hk] <;> simp
  have hk0 : (0 : Int) < (k : Int) + 1 := by omega
  by_cases hy : ∃ m, l = [m] ∧ m.a = n
  · obtain ⟨m, rfl, rfl⟩ := hy
    have f1 := HF.out w (Chg.refl _ _) m.a
    have e1 : moFd [m] m.a = 0 := if_pos rfl
    have e2 : moDn [m] m.a = m.r := if_pos rfl
    rw [e1] at f1
    rw [e2]
    have f1 := hid f1
    have hne : m.a ≠ m.r := by
      rcases hs with hs | ⟨m', hs, h1, _⟩
      · cases hs
      · injection hs with hs; subst hs; exact h1
    have e3 : moFd [m] m.r = -1 := if_neg hne
    have HG := hid (fun W (hc : Chg Nil w W) => by have := HF.out W hc m.r; rwa [e3] at this)
    have HR := hid h
    obtain rfl : k = 1 := hk
    clear h hs HF e1 e2 e3 hne
    go_enter Tryz.func295, Tryz.ntmps295
    go_wp2
    go_loopw [1, 10] (fun s1 i wr => (s1 = .int .i64 (m.a : Int) ∧ i = .int .i64 0 ∧ Hid (wr = w)) ∨ (s1 = .int .i64 (m.r : Int) ∧ i = .int .i64 1 ∧ Hid (Chg Nil w wr))) (fun _ i _ => 1 - (intOf i).toNat)
    case atStart => exact .inl ⟨rfl, rfl, rfl⟩
    case round =>
      rcases hrel with ⟨rfl, rfl, hw⟩ | ⟨rfl, rfl, hw⟩
      · have hw' := hw.out
        subst hw'
        clear hw
        go_wp2_with fail
        refine f1.out.mono ?_
        rintro e w1 ⟨rfl, d1⟩
        obtain ⟨g, off, rfl, hg1, hg2, hc⟩ := (HR.out.chg d1 (fun _ _ _ h => h)).elem (f := Mn.row) (l := [m]) (fun _ => rfl) rfl (by omega)
        have z1 := hc 0 (by simp) 1 (by omega)
        clear hc
        simp only [Mn.row, List.getElem_cons_zero, List.getElem?_cons_succ, List.getElem?_cons_zero, Nat.zero_mul, Nat.zero_add, Nat.add_zero] at z1
        replace d1 := hid d1
        go_wp2
        go_roundw
        case rel => exact .inr ⟨rfl, rfl, d1.out⟩
        case measure => simp [intOf]
      · have HQ := hid (HG.out _ hw.out)
        go_wp2_with fail
        refine HQ.out.mono ?_
        rintro e w1 ⟨rfl, d1⟩
        replace d1 := hid d1
        go_wp2
        go_ret2
        exact ⟨rfl, hw.out.trans d1.out (fun _ _ h => h)⟩
  · have e1 : moFd l n = -1 := by
      rcases hs with rfl | ⟨m, rfl, _⟩
      · rfl
      · exact if_neg (fun hh => hy ⟨m, rfl, hh⟩)
    have e2 : moDn l n = n := by
      rcases hs with rfl | ⟨m, rfl, _⟩
      · rfl
      · exact if_neg (fun hh => hy ⟨m, rfl, hh⟩)
    have f1 := HF.out w (Chg.refl _ _) n
    rw [e1] at f1
    rw [e2]
    replace f1 := hid f1
    clear h hs HF e1 e2 hy hk
    go_enter Tryz.func295, Tryz.ntmps295
    go_wp2
    go_loopw [1, 10] (fun s1 i wr => s1 = .int .i64 (n : Int) ∧ i = .int .i64 0 ∧ Hid (wr = w)) (fun _ i _ => 0)
    case atStart => exact ⟨rfl, rfl, rfl⟩
    case round =>
      obtain ⟨rfl, rfl, hw⟩ := hrel
      have hw' := hw.out
      subst hw'
      clear hw
      go_wp2_with fail
      refine f1.out.mono ?_
      rintro e w1 ⟨rfl, d1⟩
      replace d1 := hid d1
      go_wp2
      go_ret2
      exact ⟨rfl, d1.out⟩
end Go.Proofs.YtdcbagmgflcemaaGreatDoor
namespace Go.Proofs.YtdcbagmgflcemaaGreatDoor
open Go.ChangeShapes Go.WideShapes Go.ChangeAt Go.RowKit
set_option linter.unusedVariables false
set_option linter.unusedSimpArgs false
section
variable {P : Program}
theorem run_clear_s (w : World) (t e ty : TypeId) (z : Value) (ht : P.underlying t = some (.slice e)) (hv : ∀ w, (zeroValue e).run P w = .ok z w) (b o n c : Nat) (hn : 0 < n) (vs : List Value) (hvs : (Builtin.zeroCells z.cells n).toList = vs)
    (hc : ∀ j, j < vs.length → (w.cell? ⟨b, o + j, none⟩).isSome = true) (hf : ∀ j, j < vs.length → w.frozen? ⟨b, o + j, none⟩ = false) (h1 : ∀ v ∈ vs, v.oneCell' = true) :
    (Builtin.clear_ #[t] ty #[.slice (some ⟨b, o, none⟩) n c]).run P w = .ok (.tuple #[]) (w.setCells b o vs) := by
  have hst := run_storeCells_cells (P := P) b o vs 0 w (by simpa using hc) (by simpa using hf) h1
  simp only [Nat.add_zero] at hst
  obtain ⟨m, rfl⟩ : ∃ m, n = m + 1 := ⟨n - 1, by omega⟩
  simp [Builtin.clear_, run_underlying ht, hv, hvs, hst]
theorem step_append_run {ops : Array Oper} {o : Oper} {a : Act} {w : World} {K : Act → World → Prop} {Q : Exit → Act → World → Prop} {E : Prop}
    (hg : o.guard = none) (d x : Operand) (dT sT : TypeId) (hop : o.op = Op.call { callee := Callee.builtin Builtin.append, args := #[d, x], argTypes := #[dT, sT] })
    (v u : Value) (hd : a.eval d = v) (hx : a.eval x = u) {v' : Value} {w' : World} (hr : (Builtin.append_ #[dT, sT] o.type #[v, u]).run P w = .ok v' w') (hK : K (a.put o.dst v') w') :
    if Region.wanted o (yielded ops a.tmps) = true then Oper.wp P o a w K Q else E := by
  have hw : Region.wanted o (yielded ops a.tmps) = true := by simp [Region.wanted, hg]
  rw [if_pos hw]
  exact Lib.wp_append_run w d x dT sT hop v u hd hx v' w' hr hK
end
/-- append where there is room. -/
theorem run_append_in {P : Program} {w : World} {t ty e : TypeId} {s bytes n m c d g off : Nat} {b : Option Addr} {xs news : List Value} {G : Option Nat} {R : Nat → Prop} (T : ETy P t e s bytes) (h : Sl w e s (some ⟨g, off, Option.none⟩) n c xs G) (hG : G = some g) (hs : Rd w R s b m d news) (h1 : ∀ u ∈ news, u.oneCell' = true) (hroom : n + m ≤ c) :
    ∃ w', (Builtin.append_ #[t, t] ty #[.slice (some ⟨g, off, Option.none⟩) n c, .slice b m d]).run P w = .ok (.slice (some ⟨g, off, Option.none⟩) (n + m) c) w' ∧ Sl w' e s (some ⟨g, off, Option.none⟩) (n + m) c (xs ++ news) G ∧ Chg (Opt G) w w' := by
  obtain ⟨i, z, hi, hz, hsz, hby, hzs⟩ := T.info
  have hsrc : Src P i.size t (.slice b m d) m news w := by rw [hsz]; exact hs.src T.under h1
  subst hsz
  obtain ⟨q1, q2, q3, ⟨hc0, hbad⟩ | ⟨g', off', cur, r1, r2, hg, hfit, hcur⟩⟩ := h
  · rw [hG] at hbad; cases hbad
  injection r1 with r1
  injection r1 with r1 r1'
  subst r1; subst r1'
  have hnl : news.length = m * i.size := hs.len
  have hsum : (n + m) * i.size = n * i.size + m * i.size := Nat.add_mul _ _ _
  have hle : (n + m) * i.size ≤ c * i.size := Nat.mul_le_mul_right _ hroom
  have hcell : ∀ j, j < news.length → (w.cell? ⟨g, off + n * i.size + j, Option.none⟩).isSome = true := by
    intro j hj
    rw [cell_in w hg, Array.getElem?_eq_getElem (by omega)]
    rfl
  have hfr : ∀ j, j < news.length → w.frozen? ⟨g, off + n * i.size + j, Option.none⟩ = false := by
    intro j hj
    simp [World.frozen?, hg]
  have hr := run_append_room_src (P := P) w t t ty e i T.under hi g off n c (.slice b m d) m news hsrc hroom hcell hfr
  obtain ⟨cur', c1, c2, c3, c4⟩ := set_row w hg news (off + n * i.size) (by omega)
  refine ⟨_, hr, ⟨hroom, q2, by simp only [List.length_append, q3, hnl]; omega, .inr ⟨g, off, cur', rfl, r2, c1, by omega, fun j hj => ?_⟩⟩, setCells_chg _ _ _ _ _ r2⟩
  by_cases hjn : j < n * i.size
  · rw [c3 _ (by omega), hcur j hjn, List.getElem?_append_left (by rw [q3]; exact hjn)]
  · have := c4 (j - n * i.size) (by omega)
    rw [List.getElem?_append_right (by rw [q3]; omega), q3, ← this]
    congr 1; omega
/-- What lies in the spare room of a slice does not count. -/
theorem Sl.spare {w : World} {e : TypeId} {s n c g off : Nat} {xs : List Value} (h : Sl w e s (some ⟨g, off, Option.none⟩) n c xs (some g)) (vs : List Value) (hv : n * s + vs.length ≤ c * s) :
    (Sl (w.setCells g (off + n * s) vs) e s (some ⟨g, off, Option.none⟩) n c xs (some g) ∧ Chg (One g) w (w.setCells g (off + n * s) vs)) ∧ (∀ j, j < vs.length → (w.cell? ⟨g, off + n * s + j, Option.none⟩).isSome = true) ∧ ∀ j, w.frozen? ⟨g, j, Option.none⟩ = false := by
  obtain ⟨h1, h2, h3, ⟨_, hbad⟩ | ⟨g', off', cur, r1, r2, r3, r4, r5⟩⟩ := h
  · cases hbad
  injection r1 with r1
  injection r1 with r1 r1'
  subst r1; subst r1'
  obtain ⟨cur', c1, c2, c3, c4⟩ := set_row w r3 vs (off + n * s) (by omega)
  refine ⟨⟨⟨h1, h2, h3, .inr ⟨g, off, cur', rfl, rfl, c1, by omega, fun j hj => ?_⟩⟩, setCells_chg _ _ _ _ (One g) rfl⟩, fun j hj => ?_, fun j => by simp [World.frozen?, r3]⟩
  · rw [c3 _ (by omega), r5 j hj]
  · rw [cell_in w r3, Array.getElem?_eq_getElem (by omega)]; rfl
set_option maxRecDepth 100000 in
set_option maxHeartbeats 1000000 in
theorem mocheck_1 (R : Nat → Prop) (a : Option Addr) (c : Nat) (m : Mn) (w : World) (h : Rd w R 2 a 1 c (moL [m])) (hs : MoS [m]) :
    Calls Tryz.prog 237 #[.slice a 1 c] w fun e w' => e = .returned (.int .i64 0) ∧ Chg Nil w w' := by
  have hb : m.a ≠ m.r ∧ 1 ≤ m.a ∧ m.a ≤ 32 ∧ 1 ≤ m.r ∧ m.r ≤ 32 := by
    rcases hs with hs | ⟨m', hs, h1⟩
    · cases hs
    · injection hs with hs; subst hs; exact h1
  have HF := hid (fun W (hc : Chg Nil w W) => by
    have := mofind_ok R a 1 c [m] W (h.chg hc (fun _ _ _ h => h)) rfl hs m.a
    rwa [show moFd [m] m.a = 0 from if_pos rfl] at this)
  have HD := hid (fun W (hc : Chg Nil w W) => by
    have := modown_ok R a 1 c [m] W (h.chg hc (fun _ _ _ h => h)) rfl hs m.a
    rwa [show moDn [m] m.a = m.r from if_pos rfl] at this)
  have HI := hid (fun W => moinode_ok W (m.a : Int) (by omega) (by omega))
  have HJ := hid (fun W => moinode_ok W (m.r : Int) (by omega) (by omega))
  have HR := hid h
  clear h hs hb
  go_enter Tryz.func237, Tryz.ntmps237
  go_wp2
  go_loopw [14] (fun i wr => (i = .int .i64 0 ∧ Hid (Chg Nil w wr)) ∨ (i = .int .i64 1 ∧ Hid (Chg Nil w wr))) (fun i _ => 1 - (intOf i).toNat)
  case atStart => exact .inl ⟨rfl, Chg.refl _ _⟩
  case round =>
    rcases hrel with ⟨rfl, hw⟩ | ⟨rfl, hw⟩
    · obtain ⟨g, off, hg0, hg1, hg2, hc⟩ := (HR.out.chg hw.out (fun _ _ _ h => h)).elem (f := Mn.row) (l := [m]) (fun _ => rfl) rfl (by omega)
      have z0 := hc 0 (by simp) 0 (by omega)
      have z1 := hc 0 (by simp) 1 (by omega)
      clear hc
      simp only [Mn.row, List.getElem_cons_zero, List.getElem?_cons_succ, List.getElem?_cons_zero, Nat.zero_mul, Nat.zero_add, Nat.add_zero] at z0 z1
      subst hg0
      have C1 := hid (hw.out.alloc (.cells #[.int .i64 (m.a : Int), .int .i64 (m.r : Int)] 285))
      have HG := hid (HF.out _ C1.out)
      go_wp2_with fail
      refine (HI.out _).mono ?_
      rintro e w1 ⟨rfl, rfl⟩
      go_wp2_with fail
      refine (HJ.out _).mono ?_
      rintro e w1 ⟨rfl, rfl⟩
      go_wp2_with fail
      refine HG.out.mono ?_
      rintro e w1 ⟨rfl, d1⟩
      replace d1 := hid d1
      go_wp2
      go_roundw
      case rel => exact .inr ⟨rfl, C1.out.trans d1.out (fun _ _ h => h)⟩
      case measure => simp [intOf]
    · obtain ⟨wl, hwl⟩ : ∃ wl, wl = wr := ⟨_, rfl⟩
      subst hwl
      go_wp2
      go_loopw [38] (fun i wq => (i = .int .i64 0 ∧ Hid (Chg Nil w wq)) ∨ (i = .int .i64 1 ∧ Hid (Chg Nil w wq))) (fun i _ => 1 - (intOf i).toNat)
      case atStart => exact .inl ⟨rfl, hw.out⟩
      case round =>
        rcases hrel with ⟨rfl, hw2⟩ | ⟨rfl, hw2⟩
        · obtain ⟨g, off, hg0, hg1, hg2, hc⟩ := (HR.out.chg hw2.out (fun _ _ _ h => h)).elem (f := Mn.row) (l := [m]) (fun _ => rfl) rfl (by omega)
          have z0 := hc 0 (by simp) 0 (by omega)
          have z1 := hc 0 (by simp) 1 (by omega)
          clear hc
          simp only [Mn.row, List.getElem_cons_zero, List.getElem?_cons_succ, List.getElem?_cons_zero, Nat.zero_mul, Nat.zero_add, Nat.add_zero] at z0 z1
          subst hg0
          have C1 := hid (hw2.out.alloc (.cells #[.int .i64 (m.a : Int), .int .i64 (m.r : Int)] 285))
          have HG := hid (HD.out _ C1.out)
          go_wp2_with fail
          refine HG.out.mono ?_
          rintro e w1 ⟨rfl, d1⟩
          replace d1 := hid d1
          go_wp2
          go_roundw
          case rel => exact .inr ⟨rfl, C1.out.trans d1.out (fun _ _ h => h)⟩
          case measure => simp [intOf]
        · go_wp2
          go_ret
          exact ⟨rfl, hw2.out⟩
set_option maxRecDepth 100000 in
theorem mocheck_00 (a : Option Addr) (c : Nat) (w : World) : Calls Tryz.prog 237 #[.slice a 0 c] w fun e w' => e = .returned (.int .i64 0) ∧ w' = w := by
  go_enter Tryz.func237, Tryz.ntmps237
  go_wp2
  go_loopw [14] (fun i wr => i = .int .i64 0 ∧ Hid (wr = w)) (fun i _ => 0)
  case atStart => exact ⟨rfl, rfl⟩
  case round =>
    obtain ⟨rfl, hw⟩ := hrel
    have hw' := hw.out
    subst hw'
    clear hw
    go_wp2
    go_loopw [38] (fun i wq => i = .int .i64 0 ∧ Hid (wq = wr)) (fun i _ => 0)
    case atStart => exact ⟨rfl, rfl⟩
    case round =>
      obtain ⟨rfl, hw⟩ := hrel
      have hw' := hw.out
      subst hw'
      clear hw
      go_wp2
      go_ret
      exact ⟨rfl, rfl⟩
theorem mocheck_ok (R : Nat → Prop) (a : Option Addr) (k c : Nat) (l : List Mn) (w : World) (h : Rd w R 2 a k c (moL l)) (hk : k = l.length) (hs : MoS l) :
    Calls Tryz.prog 237 #[.slice a k c] w fun e w' => e = .returned (.int .i64 0) ∧ Chg Nil w w' := by
  rcases hs with rfl | ⟨m, rfl, h1⟩
  · subst hk
    exact (mocheck_00 a c w).mono (fun e w' ⟨h1, h2⟩ => ⟨h1, by rw [h2]; exact Chg.refl _ _⟩)
  · subst hk
    exact mocheck_1 R a c m w h (.inr ⟨m, rfl, h1⟩)
set_option maxRecDepth 100000 in
theorem moDown_ok (R : Nat → Prop) (a : Option Addr) (k c : Nat) (l : List Mn) (w : World) (h : Rd w R 2 a k c (moL l)) (hk : k = l.length) (hs : MoS l) (n : Nat) (h1 : 1 ≤ n) (h2 : n ≤ 32) :
    Calls Tryz.prog 300 #[.slice a k c, .int .i64 (n : Int)] w fun e w' => e = .returned (.tuple #[.int .i64 (moDn l n : Int), .int .i64 0]) ∧ Chg Nil w w' := by
  have HC := hid (mocheck_ok R a k c l w h hk hs)
  have HD := hid (fun W (hc : Chg Nil w W) => modown_ok R a k c l W (h.chg hc (fun _ _ _ h => h)) hk hs n)
  have HI := hid (fun W => moinode_ok W (n : Int) (by omega) (by omega))
  clear h hk hs h1 h2
  go_enter Tryz.func300, Tryz.ntmps300
  go_wp2_with fail
  refine HC.out.mono ?_
  rintro e w1 ⟨rfl, d1⟩
  have HE := hid (HD.out _ d1)
  replace d1 := hid d1
  go_wp2_with fail
  refine (HI.out _).mono ?_
  rintro e w2 ⟨rfl, rfl⟩
  go_wp2_with fail
  refine HE.out.mono ?_
  rintro e w3 ⟨rfl, d2⟩
  replace d2 := hid d2
  go_wp2
  go_ret2
  exact ⟨rfl, d1.out.trans d2.out (fun _ _ h => h)⟩
theorem mclone_nil (w : World) : Calls Tryz.prog 240 #[.slice none 0 0] w fun e w' => e = .returned (.slice none 0 0) ∧ w = w' := by
  have he := fun (w : World) (a : Option Addr) (n c : Nat) => Lib.run_eql_slice_nil (P := Tryz.prog) w 56 285 a n c 0 0 Tryz.underlying56
  go_enter Tryz.func240, Tryz.ntmps240
  go_wp2
  go_ret
  exact ⟨rfl, rfl⟩
theorem mclone_1 (R : Nat → Prop) (a : Option Addr) (n c : Nat) (xs : List Value) (w : World) (h : Rd w R 2 a n c xs) (hone : ∀ u ∈ xs, u.oneCell' = true) (h0 : 0 < n) (hn : n ≤ 4294967296) :
    Calls Tryz.prog 240 #[.slice a n c] w fun e w' => ∃ a' c' G, e = .returned (.slice a' n c') ∧ Sl w' 285 2 a' n c' xs G ∧ Chg Nil w w' ∧ ∀ g, G = some g → w.heap.size ≤ g := by
  have he := fun (w : World) (a : Option Addr) (n c : Nat) => Lib.run_eql_slice_nil (P := Tryz.prog) w 56 285 a n c 0 0 Tryz.underlying56
  cases a with
  | none =>
    have h1 : n = 0 := rd_none h
    omega
  | some x =>
    have H := hid (h.alloc (.cells #[] 285))
    have HO := hid hone
    clear h hone
    go_enter Tryz.func240, Tryz.ntmps240
    go_wp2_with (at_builtin; refine wpList_append_sl rfl _ _ eMn rfl rfl rfl (Sl.empty _ _ _ _) H.out HO.out (by omega) (by omega) ?_; intro a' c' w' G' q1 q2 q3)
    go_ret
    rw [Nat.zero_add, List.nil_append] at q1
    refine ⟨_, _, G', rfl, q1, ((Chg.refl Nil w).alloc _).trans q2 (fun i _ h => by cases h), fun g hg => ?_⟩
    rcases q3 with q3 | q3 <;> rw [q3] at hg
    · cases hg
    · injection hg with hg; rw [← hg]; simp
theorem zeroMn (w : World) : (zeroValue 285).run Tryz.prog w = .ok (.agg #[.int .i64 0, .int .i64 0]) w := by kernel_rfl
set_option maxHeartbeats 2000000 in
set_option maxRecDepth 100000 in
theorem mdel_1 (a : Option Addr) (c : Nat) (m : Mn) (G : Option Nat) (w : World) (h : Sl w 285 2 a 1 c (moL [m]) G) :
    Calls Tryz.prog 239 #[.slice a 1 c, .int .i64 0, .int .i64 1] w fun e w' => e = .returned (.slice a 0 c) ∧ Sl w' 285 2 a 0 c [] G ∧ Chg (Opt G) w w' := by
  obtain ⟨g, off, rfl, rfl, hgl⟩ := h.block (by omega)
  have hlc : 1 ≤ c := h.1
  have hcm : c ≤ 9223372036854775807 := h.2.1
  have hsl := run_from eMn (some ⟨g, off, none⟩) 1 c 1 1 (by omega) (by omega)
  have hsrc := h.rd.drop_n (k := 1) (by omega)
  obtain ⟨w1, e1, s1, c1⟩ := run_append_in (P := Tryz.prog) (ty := 56) eMn ((h.drewN 1).init (m := 0) (by omega)) rfl (hsrc.drewN 1) (fun u hu => moL_one [m] u (List.mem_of_mem_drop hu)) (by omega)
  have hz : List.take (0 * 2) (moL [m]) ++ List.drop (1 * 2) (moL [m]) = [] := rfl
  rw [hz] at s1
  obtain ⟨⟨s2, c2⟩, k1, k2⟩ := s1.spare [.int .i64 0, .int .i64 0] (by simp; omega)
  have hcl : ∀ ty dc, (Builtin.clear_ #[56] ty #[.slice (some ⟨g, off, none⟩) 1 dc]).run Tryz.prog w1 = .ok (.tuple #[]) (w1.setCells g off [.int .i64 0, .int .i64 0]) := fun ty dc => by
    have := run_clear_s (P := Tryz.prog) w1 _ _ ty _ eMn.under zeroMn g (off + (0 + (1 - 1)) * 2) 1 dc (by omega) _ (by kernel_rfl) k1 (fun j _ => k2 _) (fun v hv => by simp at hv; rcases hv with rfl | rfl <;> rfl)
    simpa using this
  have HS := hid s2
  have HC := hid (((Chg.refl (Opt (some g)) w).drew.trans c1 (fun _ _ h => h)).trans c2 (fun k _ hk => by rw [show k = g from hk]; rfl))
  have hcl1 : ¬ (c = 0) := by omega
  clear s1 s2 c1 c2 k1 k2 h hsrc
  go_enter Tryz.func239, Tryz.ntmps239
  go_wp2
  go_region_law (refine step_append_run rfl _ _ 56 56 rfl _ _ (by simp [Act.eval, Act.put]) (by simp [Act.eval, Act.put]) e1 ?_)
  all_goals
    go_wp2
    go_ret
    exact ⟨rfl, HS.out, HC.out⟩
set_option maxRecDepth 100000 in
set_option maxHeartbeats 1000000 in
theorem moadd_ok (m : Mn) (hs : MoS [m]) (w : World) :
    Calls Tryz.prog 168 #[.slice none 0 0, .int .i64 (m.a : Int), .int .i64 (m.r : Int)] w fun e w' => ∃ a c G, e = .returned (.tuple #[.slice a 1 c, .int .i64 0]) ∧ Sl w' 285 2 a 1 c (moL [m]) G ∧ Chg Nil w w' ∧ ∀ g, G = some g → w.heap.size ≤ g := by
  have HN := hid (Rd.of_blk (n := 1) (s := 2) (Blk.new w 285 [.int .i64 (m.a : Int), .int .i64 (m.r : Int)]) rfl (by decide))
  have hone : ∀ u ∈ [Value.int .i64 (m.a : Int), .int .i64 (m.r : Int)], u.oneCell' = true := moL_one [m]
  have HO := hid hone
  have HS := hid hs
  clear hone hs
  go_enter Tryz.func168, Tryz.ntmps168
  go_wp2_with fail
  refine (mocheck_00 none 0 w).mono ?_
  rintro e w1 ⟨rfl, rfl⟩
  go_wp2_with fail
  refine (mclone_nil _).mono ?_
  rintro e w1 ⟨rfl, rfl⟩
  go_wp2_with (at_builtin; refine wpList_append_sl rfl _ _ eMn rfl rfl rfl (Sl.empty _ _ _ _) HN.out HO.out (by omega) (by omega) ?_; intro a' c' w' G' q1 q2 q3; rw [Nat.zero_add, List.nil_append] at q1; rw [Nat.zero_add])
  have HC := hid (mocheck_1 _ a' c' m w' q1.rd HS.out)
  replace q1 := hid q1
  replace q2 := hid q2
  replace q3 := hid q3
  go_wp2_with fail
  refine HC.out.mono ?_
  rintro e w2 ⟨rfl, d1⟩
  replace d1 := hid d1
  go_wp2
  go_ret2
  refine ⟨_, _, G', rfl, q1.out.chg d1.out (fun _ _ h => h), (((Chg.refl Nil _).alloc _).trans q2.out (fun i _ h => by cases h)).trans d1.out (fun _ _ h => h), fun g hg => ?_⟩
  rcases q3.out with q3 | q3 <;> rw [q3] at hg
  · cases hg
  · injection hg with hg; rw [← hg]; simp
set_option maxRecDepth 100000 in
set_option maxHeartbeats 1000000 in
theorem moout_ok (R : Nat → Prop) (a : Option Addr) (c : Nat) (m : Mn) (hs : MoS [m]) (w : World) (h : Rd w R 2 a 1 c (moL [m])) :
    Calls Tryz.prog 167 #[.slice a 1 c, .int .i64 (m.a : Int)] w fun e w' => ∃ a' c', e = .returned (.tuple #[.slice a' 0 c', .int .i64 0]) ∧ c' ≤ maxLen ∧ Chg Nil w w' := by
  have HC := hid (mocheck_1 R a c m w h hs)
  have HF := hid (fun W (hc : Chg Nil w W) => by
    have := mofind_ok R a 1 c [m] W (h.chg hc (fun _ _ _ h => h)) rfl hs m.a
    rwa [show moFd [m] m.a = 0 from if_pos rfl] at this)
  have HL := hid (fun W (hc : Chg Nil w W) => mclone_1 R a 1 c (moL [m]) W (h.chg hc (fun _ _ _ h => h)) (moL_one _) (by omega) (by omega))
  clear h hs
  go_enter Tryz.func167, Tryz.ntmps167
  go_wp2_with fail
  refine HC.out.mono ?_
  rintro e w1 ⟨rfl, d1⟩
  have HF' := hid (HF.out _ d1)
  replace d1 := hid d1
  go_wp2_with fail
  refine HF'.out.mono ?_
  rintro e w2 ⟨rfl, d2⟩
  have D2 := d1.out.trans d2 (fun _ _ h => h)
  have HL' := hid (HL.out _ D2)
  have D2 := hid D2
  clear d2
  go_wp2_with fail
  refine HL'.out.mono ?_
  rintro e w3 ⟨a', c', G, rfl, s3, d3, g3⟩
  have HD := hid (mdel_1 a' c' m G w3 s3)
  have D3 := hid (D2.out.trans d3 (fun _ _ h => h))
  have hsz := hid D2.out.size
  replace g3 := hid g3
  clear s3 d3
  go_wp2_with fail
  refine HD.out.mono ?_
  rintro e w4 ⟨rfl, s4, d4⟩
  have hcl := hid s4.2.1
  replace d4 := hid d4
  clear s4
  go_wp2
  go_ret2
  exact ⟨a', c', rfl, hcl.out, D3.out.trans d4.out (fun k hk hh => by
    have := g3.out k hh
    have := hsz.out
    omega)⟩
end Go.Proofs.YtdcbagmgflcemaaGreatDoor
