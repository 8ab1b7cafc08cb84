/- Package fs: a sector as all that was done leaves it; how a change begins. Conditions: a file system in use; sectors of a disk of 256 · Package fs: a change, in memory; how it begins. Conditions: a file system in use · Package fs: a change: a node, and a node put anew. Conditions: a change that has begun; numbers of nodes from 1 to 32 · Packages bits and snap: which sectors are taken, the first that is not. Conditions: at most eight sectors are taken beside those of the nodes · Package snap: which sectors are taken; package fs: a sector that nobody has. Conditions: at most eight sectors are taken beside those of the nodes. -/
import Derived.Test.YtdcbagmgflcemaaGreatDoorZ31
import Derived.Test.YtdcbagmgflcemaaGreatDoorZ13
import Derived.Test.YtdcbagmgflcemaaGreatDoorZ32
import Derived.Deep.RegionHeld3
import Derived.Deep.DeepCutAuto
namespace Go.Proofs.YtdcbagmgflcemaaGreatDoor
open Go.ChangeShapes Go.WideShapes Go.ChangeAt Go.RowKit
set_option linter.unusedVariables false
theorem len_in {L : List Int} (h : L.Nodup) (lo : Int) (N : Nat) (hm : ∀ i, i ∈ L → lo ≤ i ∧ i < lo + (N : Int)) : L.length ≤ N := by
  have hK : ((List.range N).map (fun i : Nat => lo + (i : Int))).Nodup := by
    rw [List.Nodup, List.pairwise_map]
    exact List.nodup_range.imp (fun {a b} h => by omega)
  have hp : L.Perm (((List.range N).map (fun i : Nat => lo + (i : Int))).filter (fun i => decide (i ∈ L))) := by
    rw [List.perm_ext_iff_of_nodup h (hK.filter _)]
    intro i
    rw [List.mem_filter, List.mem_map]
    constructor
    · intro hi
      have := hm i hi
      exact ⟨⟨(i - lo).toNat, List.mem_range.2 (by omega), by omega⟩, by simpa using hi⟩
    · rintro ⟨_, hi⟩
      simpa using hi
  rw [hp.length_eq]
  refine Nat.le_trans (List.length_filter_le _ _) ?_
  simp
/-- A map whose keys lie within bounds has no more entries than these allow. -/
theorem MpAt.small {w : World} {P : Program} {k : TypeId} {b n : Nat} {f : Int → Option Value} {t e : TypeId} (h : MpAt w P k b n f) (hk : P.underlying k = some (.int .i64)) (ht : P.underlying t = some (.map k e)) (lo : Int) (N : Nat) (hm : ∀ i, (f i).isSome = true → lo ≤ i ∧ i < lo + (N : Int)) : MpAt w P k b N f := by
  obtain ⟨L, l1, l2, _⟩ := h.len hk ht
  have h1 := h.tight hk ht L l1 l2
  exact h1.mono (len_in l1 lo N (fun i hi => hm i ((l2 i).1 hi)))
set_option maxRecDepth 100000 in
set_option maxHeartbeats 1000000 in
/-- What a sector has, as a copy. -/
theorem fsector_ok {w : World} {FF FD : Nat → Prop} {f p q bt bh : Nat} {zs : List Int} {X : FX} (h : FsA w FF FD f p q bt bh zs X) (n : Nat) (hn : n < 256) (i : Int) (hi : i = (n : Int)) :
    Calls Tryz.prog 264 #[.pointer (some ⟨f, 0, none⟩), .int .i64 i] w fun e w' => ∃ a c G, e = .returned (.tuple #[.slice a 64 c, .int .i64 0]) ∧ Sl w' 5 1 a 64 c (bys (X.sec zs n)) G ∧ Chg Nil w w' ∧ ∀ g, G = some g → w.heap.size ≤ g := by
  subst hi
  have k0 := h.c0
  have k1 := h.c196
  have hwf : (Lit.int .i64 (n : Int)).wf = true := wf_key (by omega) (by omega)
  have HL := h.todo.look_ok (t := 134) (e := 22) (z := .slice none 0 0) Tryz.underlying3 Tryz.underlying134 (by kernel_rfl) (n : Int) hwf
  cases hs : X.td (n : Int) with
  | some s =>
    have HS := h.tsec _ _ hs
    have he : X.sec zs n = s.l := by unfold FX.sec; rw [hs]
    rw [he]
    unfold secM at HL
    rw [hs] at HL
    simp only [Option.map_some, Option.getD_some, Option.isSome_some, Sec.val] at HL
    unfold SecAt at HS
    replace HS := hid HS
    clear h hs he hwf
    go_enter Tryz.func264, Tryz.ntmps264
    go_wp2_with fail
    refine (clone_u8 _ _ _ _ _ w HS.out (ints_one _ _) (by omega)).mono ?_
    rintro e w' ⟨a, c, G, rfl, q1, q2, q3⟩
    replace q1 := hid q1
    replace q2 := hid q2
    replace q3 := hid q3
    clear HL k0 k1
    go_wp2
    go_ret2
    exact ⟨a, c, G, rfl, q1.out, q2.out, q3.out⟩
  | none =>
    have HR := hid (dkread_ok w FD p 256 zs 0 h.dk n hn)
    have he : X.sec zs n = secS zs n := by unfold FX.sec; rw [hs]
    rw [he]
    unfold secM at HL
    rw [hs] at HL
    simp only [Option.map_none, Option.getD_none, Option.isSome_none] at HL
    clear h hs he hwf
    go_enter Tryz.func264, Tryz.ntmps264
    go_wp2_with fail
    refine HR.out.mono ?_
    rintro e w' ⟨a, c, G, rfl, q1, q2, q3⟩
    replace q1 := hid q1
    replace q2 := hid q2
    replace q3 := hid q3
    clear HL k0 k1 HR
    go_wp2
    go_ret2
    exact ⟨a, c, G, rfl, q1.out, q2.out, q3.out⟩
set_option maxRecDepth 100000 in
/-- The file system, as check reads it. -/
theorem freader_ok {w : World} {FF FD : Nat → Prop} {f p q bt bh : Nat} {zs : List Int} {X : FX} (h : FsA w FF FD f p q bt bh zs X) (n : Nat) (hn : n < 256) (i : Int) (hi : i = (n : Int)) :
    Calls Tryz.prog 428 #[.agg #[.pointer (some ⟨f, 0, none⟩)], .int .i64 i] w fun e w' => ∃ a c G, e = .returned (.tuple #[.slice a 64 c, .int .i64 0]) ∧ Sl w' 5 1 a 64 c (bys (X.sec zs n)) G ∧ Chg Nil w w' ∧ ∀ g, G = some g → w.heap.size ≤ g := by
  have C0 : Chg Nil w (w.alloc (.cells #[.pointer (some ⟨f, 0, none⟩)] 351)) := (Chg.refl Nil w).alloc _
  have HS := hid (fsector_ok (h.nil C0) n hn i hi)
  have hsz := hid C0.size
  replace C0 := hid C0
  clear h hi
  go_enter Tryz.func428, Tryz.ntmps428
  go_wp2_with fail
  refine HS.out.mono ?_
  rintro e w' ⟨a, c, G, rfl, q1, q2, q3⟩
  replace q1 := hid q1
  replace q2 := hid q2
  replace q3 := hid q3
  clear HS
  go_wp2
  go_ret2
  exact ⟨a, c, G, rfl, q1.out, C0.out.trans q2.out (fun _ _ h => h), fun g hg => Nat.le_trans hsz.out (q3.out g hg)⟩
theorem clone_nd (R : Nat → Prop) (a : Option Addr) (n c : Nat) (xs : List Value) (w : World) (h : Rd w R 8 a n c xs) (hone : ∀ u ∈ xs, u.oneCell' = true) (h0 : 0 < n) (hn : n ≤ 4294967296) :
    Calls Tryz.prog 118 #[.slice a n c] w fun e w' => ∃ a' c' G, e = .returned (.slice a' n c') ∧ Sl w' 120 8 a' n c' xs G ∧ Chg Nil w w' ∧ ∀ g, G = some g → w.heap.size ≤ g := by
  have he := fun (w : World) (a : Option Addr) (n c : Nat) => Lib.run_eql_slice_nil (P := Tryz.prog) w 128 120 a n c 0 0 Tryz.underlying128
  cases a with
  | none =>
    have h1 : n = 0 := rd_none h
    omega
  | some x =>
    have H := hid (h.alloc (.cells #[] 120))
    have HO := hid hone
    clear h hone
    go_enter Tryz.func118, Tryz.ntmps118
    go_wp2_with (at_builtin; refine wpList_append_sl rfl _ _ eNd rfl rfl rfl (Sl.empty _ _ _ _) H.out HO.out (by omega) (by omega) ?_; intro a' c' w' G' q1 q2 q3)
    go_ret
    rw [Nat.zero_add, List.nil_append] at q1
    refine ⟨_, _, G', rfl, q1, ((Chg.refl Nil w).alloc _).trans q2 (fun i _ h => by cases h), fun g hg => ?_⟩
    rcases q3 with q3 | q3 <;> rw [q3] at hg
    · cases hg
    · injection hg with hg; rw [← hg]; simp
theorem clone_int_nil (w : World) : Calls Tryz.prog 130 #[.slice none 0 0] w fun e w' => e = .returned (.slice none 0 0) ∧ w = w' := by
  have he := fun (w : World) (a : Option Addr) (n c : Nat) => Lib.run_eql_slice_nil (P := Tryz.prog) w 53 3 a n c 0 0 Tryz.underlying53
  go_enter Tryz.func130, Tryz.ntmps130
  go_wp2
  go_ret
  exact ⟨rfl, rfl⟩
end Go.Proofs.YtdcbagmgflcemaaGreatDoor
namespace Go.Proofs.YtdcbagmgflcemaaGreatDoor
open Go.ChangeShapes Go.WideShapes Go.ChangeAt Go.RowKit
set_option linter.unusedVariables false
set_option linter.unusedSimpArgs false
/-- What a change will make of it. -/
structure TX where
  ns : Nat → Nd
  m : Nat
  dt : Int → Option Value
  pu : Int → Option Sec
/-- What a change writes in place. -/
def Mt (t gn bd bp : Nat) : Nat → Prop := fun k => k = t ∨ k = gn ∨ k = bd ∨ k = bp
def txC (f : Nat) (fo : List Value) (ga : Option Addr) (gc bd bp : Nat) : List Value := [.pointer (some ⟨f, 0, none⟩)] ++ fo ++ [.slice none 0 0, .slice ga 32 gc, .map (some bd), .map (some bp), .slice none 0 0, .bool false, .int .i64 256]
structure TxA (w : World) (FF FD : Nat → Prop) (f p q bt bh : Nat) (zs : List Int) (X : FX) (N : Nat) (R : Nat → Prop) (t gn go gc bd bp : Nat) (T : TX) : Prop where
  fs : FsA w FF FD f p q bt bh zs X
  blk : Blk w t 244 (txC f (foM T.m) (some ⟨gn, go, none⟩) gc bd bp)
  nodes : Sl w 120 8 (some ⟨gn, go, none⟩) 32 gc (tab 256 (ndsV T.ns)) (some gn)
  pts : ∀ i, i < 32 → NdAt w R (T.ns i)
  nok : ∀ i, i < 32 → NdOk (T.ns i)
  dirt : MpAt w Tryz.prog 3 bd 40 T.dt
  dkey : ∀ k, (T.dt k).isSome = true → 1 ≤ k ∧ k ≤ 32
  dval : ∀ k v, T.dt k = some v → v = .bool true
  put : MpAt w Tryz.prog 3 bp 80 (secM T.pu)
  psec : ∀ k s, T.pu k = some s → SecAt w R s
  pkey : ∀ k, (T.pu k).isSome = true → (1 ≤ k ∧ k ≤ 4) ∨ (37 ≤ k ∧ k < 53 + (T.m : Int))
  mle : T.m ≤ 8
  new : N ≤ t ∧ N ≤ gn ∧ N ≤ bd ∧ N ≤ bp
  old : ∀ k, FF k → k < N
  ne : t ≠ gn ∧ t ≠ bd ∧ t ≠ bp ∧ gn ≠ bd ∧ gn ≠ bp ∧ bd ≠ bp
  nr : ∀ k, R k → ¬ Mt t gn bd bp k
  rin : ∀ k, R k → Fr FF f bt bh k ∨ N ≤ k
  rup : ∀ k, Fr FF f bt bh k ∨ w.heap.size ≤ k → R k
section
variable {w w' : World} {FF FD : Nat → Prop} {f p q bt bh : Nat} {zs : List Int} {X : FX} {N : Nat} {R : Nat → Prop} {t gn go gc bd bp : Nat} {T : TX}
theorem TxA.nil (h : TxA w FF FD f p q bt bh zs X N R t gn go gc bd bp T) (hc : Chg Nil w w') : TxA w' FF FD f p q bt bh zs X N R t gn go gc bd bp T :=
  ⟨h.fs.nil hc, h.blk.chg hc (fun h => h), h.nodes.chg hc (fun _ _ h => h), fun i hi => (h.pts i hi).chg hc (fun _ _ _ h => h), h.nok, h.dirt.chg hc (fun h => h), h.dkey, h.dval, h.put.chg hc (fun h => h), fun k s hs => (h.psec k s hs).chg hc (fun _ _ _ h => h), h.pkey, h.mle, h.new, h.old, h.ne, h.nr, h.rin, fun k hk => h.rup k (hk.imp (fun h => h) (fun h => Nat.le_trans hc.size h))⟩
theorem TxA.lt (h : TxA w FF FD f p q bt bh zs X N R t gn go gc bd bp T) : t < w.heap.size ∧ gn < w.heap.size ∧ bd < w.heap.size ∧ bp < w.heap.size := ⟨h.blk.lt, h.nodes.lt gn rfl, h.dirt.lt, h.put.lt⟩
theorem TxA.dj (h : TxA w FF FD f p q bt bh zs X N R t gn go gc bd bp T) : Dj FF (Mt t gn bd bp) := fun k hk hm => by
  have h1 := h.old k hk
  have h2 := h.new
  rcases hm with h3 | h3 | h3 | h3 <;> omega
end
theorem txC_tail (f : Nat) (fo : List Value) (hl : fo.length = 192) (ga : Option Addr) (gc bd bp j : Nat) : (txC f fo ga gc bd bp)[193 + j]? = [.slice none 0 0, .slice ga 32 gc, .map (some bd), .map (some bp), .slice none 0 0, .bool false, .int .i64 256][j]? := by
  unfold txC
  rw [List.getElem?_append_right (by simp; omega)]
  congr 1
  simp
  omega
theorem txC_len (f : Nat) (fo : List Value) (hl : fo.length = 192) (ga : Option Addr) (gc bd bp : Nat) : (txC f fo ga gc bd bp).length = 200 := by
  unfold txC
  simp
  omega
theorem tx_built (w : World) (f : Nat) (fo : List Value) (hfl : fo.length = 192) (ga : Option Addr) (gc bd bp : Nat) :
    (Instr.build 244 #[(0, .pointer (some ⟨f, 0, none⟩)), (1, .agg fo.toArray), (2, .slice none 0 0), (3, .slice ga 32 gc), (4, .map (some bd)), (5, .map (some bp)), (8, .int .i64 256)]).run Tryz.prog w = .ok (.agg (txC f fo ga gc bd bp).toArray) w := by
  refine run_build_struct (Z := [.pointer none] ++ foZ ++ [.slice none 0 0, .slice none 0 0, .map none, .map none, .slice none 0 0, .bool false, .int .i64 0]) (places := [(0, 1), (1, 192), (193, 1), (194, 1), (195, 1), (196, 1), (197, 1), (198, 1), (199, 1)]) w (by kernel_rfl) ?_
  have hz := foZ_len
  generalize foZ = z at hz ⊢
  rw [fill_cons (off := 0) (size := 1) (vs := [.pointer (some ⟨f, 0, none⟩)]) rfl rfl rfl (by simp)]
  rw [List.append_assoc, over_left (by simp)]
  rw [show over_ [Value.pointer none] 0 [.pointer (some ⟨f, 0, none⟩)] = [.pointer (some ⟨f, 0, none⟩)] from rfl]
  rw [fill_cons (off := 1) (size := 192) (vs := fo) rfl rfl hfl (by simp; omega)]
  rw [over_right (i := 0) (show 1 = List.length [Value.pointer (some ⟨f, 0, none⟩)] + 0 from rfl), over_left (by omega), over_whole (by omega)]
  rw [← List.append_assoc]
  have hl : ([Value.pointer (some ⟨f, 0, none⟩)] ++ fo).length = 193 := by simp; omega
  unfold txC
  generalize [Value.pointer (some ⟨f, 0, none⟩)] ++ fo = y at hl ⊢
  rw [fill_cons (off := 193) (size := 1) (vs := [.slice none 0 0]) rfl rfl rfl (by simp; omega), over_right (i := 0) (by omega)]
  rw [fill_cons (off := 194) (size := 1) (vs := [.slice ga 32 gc]) rfl rfl rfl (by simp [over_]; omega), over_right (i := 1) (by omega)]
  rw [fill_cons (off := 195) (size := 1) (vs := [.map (some bd)]) rfl rfl rfl (by simp [over_]; omega), over_right (i := 2) (by omega)]
  rw [fill_cons (off := 196) (size := 1) (vs := [.map (some bp)]) rfl rfl rfl (by simp [over_]; omega), over_right (i := 3) (by omega)]
  rw [fill_cons (off := 199) (size := 1) (vs := [.int .i64 256]) rfl rfl rfl (by simp [over_]; omega), over_right (i := 6) (by omega)]
  rfl
/-- A part of a file system's own block: the forest. -/
theorem FsA.foLoad {w : World} {FF FD : Nat → Prop} {f p q bt bh : Nat} {zs : List Int} {X : FX} (h : FsA w FF FD f p q bt bh zs X) : (Instr.loadAt 115 (.pointer (some ⟨f, 2, none⟩))).run Tryz.prog w = .ok (.agg (foM X.m).toArray) w := by
  have hl := foM_len X.m
  have e : part_ (fsC p q (foM X.m) X.na X.nc bt bh) 2 192 = foM X.m := by
    unfold fsC part_
    generalize foM X.m = y at hl ⊢
    rw [List.append_assoc]
    show List.take 192 (y ++ _) = y
    exact List.take_left' hl
  have L := load_part (P := Tryz.prog) (ty := 115) (lo := 2) (n := 192) h.blk (by unfold fsC; simp; omega) Tryz.underlying115 rfl (by kernel_rfl)
  rwa [e] at L
/-- A change that has begun. -/
def BgPost (w : World) (FF FD : Nat → Prop) (f p q bt bh : Nat) (zs : List Int) (X : FX) (v : Value) (w' : World) : Prop :=
  ∃ R t gn go gc bd bp, v = .pointer (some ⟨t, 0, none⟩) ∧ TxA w' FF FD f p q bt bh zs X w.heap.size R t gn go gc bd bp ⟨X.ns, X.m, fun _ => none, fun _ => none⟩ ∧ Chg Nil w w'
theorem bg_of {w w' : World} {FF FD : Nat → Prop} {f p q bt bh : Nat} {zs : List Int} {X : FX} (h : FsA w FF FD f p q bt bh zs X) {t bd bp gc : Nat} {ga : Option Addr} {G : Option Nat}
    (hB : Blk w' t 244 (txC f (foM X.m) ga gc bd bp)) (hS : Sl w' 120 8 ga 32 gc (tab 256 (ndsV X.ns)) G) (hG : ∀ g, G = some g → w.heap.size ≤ g) (hd : MpAt w' Tryz.prog 3 bd 0 (fun _ => none)) (hp : MpAt w' Tryz.prog 3 bp 0 (fun _ => none))
    (h1 : w.heap.size ≤ t) (h2 : w.heap.size ≤ bd) (h3 : w.heap.size ≤ bp) (hne : bd ≠ bp) (hc : Chg Nil w w') : BgPost w FF FD f p q bt bh zs X (.pointer (some ⟨t, 0, none⟩)) w' := by
  obtain ⟨gn, go, rfl, rfl, hlt⟩ := hS.block (by omega)
  have hgn := hG gn rfl
  have hf := h.nil hc
  have e1 : t ≠ gn := fun hh => hS.ne_blk hB (by decide) (by rw [hh])
  have mapNe : ∀ (b : Nat) (fb : Int → Option Value) (k : Nat) (cs : Array Value) (ty : TypeId), MpAt w' Tryz.prog 3 b k fb → w'.heap[b]? ≠ some (.cells cs ty (0, 0)) := fun b fb k cs ty hm he => by
    obtain ⟨D, h1, _⟩ := hm
    obtain ⟨es, clock, hb, _⟩ := h1
    rw [hb] at he
    cases he
  have e2 : t ≠ bd := fun hh => by subst hh; exact mapNe _ _ _ _ _ hd hB
  have e3 : t ≠ bp := fun hh => by subst hh; exact mapNe _ _ _ _ _ hp hB
  obtain ⟨cur, hcur, _⟩ : ∃ cur, w'.heap[gn]? = some (.cells cur 120 (0, 0)) ∧ True := by
    obtain ⟨q1, _, _, ⟨h4, _⟩ | ⟨g', off', cur, r1, r2, r3, r4, r5⟩⟩ := id hS
    · omega
    · injection r2 with r2; subst r2; exact ⟨cur, r3, trivial⟩
  have e4 : gn ≠ bd := fun hh => by subst hh; exact mapNe _ _ _ _ _ hd hcur
  have e5 : gn ≠ bp := fun hh => by subst hh; exact mapNe _ _ _ _ _ hp hcur
  refine ⟨fun k => Fr FF f bt bh k ∨ (w.heap.size ≤ k ∧ ¬ Mt t gn bd bp k), t, gn, go, gc, bd, bp, rfl, ⟨hf, hB, hS, fun i hi => (hf.pts i hi).mono (fun k hk => .inl hk), h.nok, hd.mono (by omega), fun k hk => (by cases hk), fun k v hk => (by cases hk), hp.mono (by omega), fun k s hs => (by cases hs), fun k hk => (by cases hk), h.mle, ⟨h1, hgn, h2, h3⟩, h.lt, ⟨e1, e2, e3, e4, e5, hne⟩, fun k hk => ?_, fun k hk => hk.imp (fun h => h) (fun h => h.1), fun k hk => ?_⟩, hc⟩
  · rcases hk with hk | hk
    · have h5 := h.lt k hk.1
      rintro (h6 | h6 | h6 | h6) <;> omega
    · exact hk.2
  · rcases hk with hk | hk
    · exact .inl hk
    · have l1 := hB.lt
      have l2 := hd.lt
      have l3 := hp.lt
      refine .inr ⟨Nat.le_trans hc.size hk, ?_⟩
      rintro (h6 | h6 | h6 | h6) <;> omega
theorem drew_size (w : World) : w.drew.heap.size = w.heap.size := rfl
/-- A load whose run is known in every world that meets S. -/
theorem yieldsIf_load_run {P : Program} {ops : Array Oper} {S : World → Prop} {op : Oper} {a : Act} {ty : TypeId} {x : Operand} {v r : Value} (hS : ∀ w, S w → (Instr.loadAt ty v).run P w = .ok r w) (hw : Region.wanted op (yielded ops a.tmps) = true) (ho : op.op = .load ty x) (hx : a.eval x = v) : YieldsIf P ops S op r a :=
  .inl ⟨hw, fun w hw' => by
    unfold execOp
    simp only [ho, hx, Sem.run_bind, Sem.run_pure, Result.andThen_ok, hS w hw']⟩
/-- A struct that is built, whatever the world. -/
theorem yieldsIf_build_run {P : Program} {ops : Array Oper} {S : World → Prop} {op : Oper} {a : Act} {t : TypeId} {vals : Array (Nat × Value)} {parts : Array (Nat × Operand)} {r : Value} (L : ∀ w, (Instr.build t vals).run P w = .ok r w) (hw : Region.wanted op (yielded ops a.tmps) = true) (ho : op.op = .build t parts) (hp : (parts.toList.map fun x => (x.1, a.eval x.2)) = vals.toList) : YieldsIf P ops S op r a :=
  .inl ⟨hw, fun w _ => by
    have hp2 : (parts.map fun (i, x) => (i, a.eval x)) = vals := by
      apply Array.ext'
      rw [Array.toList_map]
      exact hp
    subst hp2
    unfold execOp
    simp only [ho, Sem.run_bind, L w, Result.andThen_ok, Sem.run_pure]⟩
set_option maxRecDepth 100000 in
set_option maxHeartbeats 4000000 in
theorem fbegin_ok {w : World} {FF FD : Nat → Prop} {f p q bt bh : Nat} {zs : List Int} {X : FX} (h : FsA w FF FD f p q bt bh zs X) :
    Calls Tryz.prog 56 #[.pointer (some ⟨f, 0, none⟩)] w fun e w' => ∃ v, e = .returned v ∧ BgPost w FF FD f p q bt bh zs X v w' := by
  have hmm := @run_makeMap Tryz.prog
  obtain ⟨fo, hfo⟩ : ∃ fo, fo = foM X.m := ⟨_, rfl⟩
  have hfl : fo.length = 192 := by rw [hfo, foM_len]
  have HS := hid (fun w' (hc : Chg Nil w w') => (⟨(h.nil hc).c194, (h.nil hc).c195⟩ : w'.cell? ⟨f, 194, none⟩ = some (.slice none 0 0) ∧ w'.cell? ⟨f, 195, none⟩ = some (.slice X.na 32 X.nc)))
  have HF := hid (fun w' (hc : Chg Nil w w') => (by rw [hfo]; exact (h.nil hc).foLoad : (Instr.loadAt 115 (.pointer (some ⟨f, 2, none⟩))).run Tryz.prog w' = .ok (.agg fo.toArray) w'))
  have HR := hid (fun w' (hc : Chg Nil w w') => (h.nil hc).nodes)
  have HB := hid (fun w ga gc bd bp => tx_built w f fo hfl ga gc bd bp)
  have H := hid h
  replace hfo := hid hfo
  clear h
  go_enter Tryz.func56, Tryz.ntmps56
  go_wp2_with fail
  go_cut [2] (fun s2 wx => Hid (BgPost w FF FD f p q bt bh zs X s2 wx))
  case first =>
    refine wp_region_held_drew (S := fun w' => w'.cell? ⟨f, 194, none⟩ = some (.slice none 0 0) ∧ w'.cell? ⟨f, 195, none⟩ = some (.slice X.na 32 X.nc) ∧ Hid (Chg Nil w w')) (by kernel_rfl) ⟨(HS.out _ (Chg.refl Nil w).drew).1, (HS.out _ (Chg.refl Nil w).drew).2, (Chg.refl Nil w).drew⟩ (fun hSn => ?_)
    simp only [List.size_toArray, List.length_cons, List.length_nil, Nat.reduceAdd, Array.replicate_succ, Array.replicate_zero, List.push_toArray, List.append_toArray, List.nil_append, List.cons_append]
    refine wpAnyH_take (i := 0) (v := .pointer (some ⟨f, 0, none⟩)) rfl (by kernel_rfl) (by kernel_rfl) (by kernel_rfl) (fun _ _ _ h => h) (Or.inl ⟨by rfl, by (intro w hSw; (try dsimp only at hSw); go_simp)⟩) (by assumption) ?_
    simp only [Act.put, List.setIfInBounds_toArray, List.set_cons_zero, List.set_cons_succ]
    refine wpAnyH_take (i := 1) (v := .pointer (some ⟨f, 0, none⟩)) rfl (by kernel_rfl) (by kernel_rfl) (by kernel_rfl) (fun _ _ _ h => h) (Or.inl ⟨by rfl, by (intro w hSw; (try dsimp only at hSw); go_simp)⟩) (by assumption) ?_
    simp only [Act.put, List.setIfInBounds_toArray, List.set_cons_zero, List.set_cons_succ]
    refine wpAnyH_take (i := 2) (v := .pointer (some ⟨f, 0, none⟩)) rfl (by kernel_rfl) (by kernel_rfl) (by kernel_rfl) (fun _ _ _ h => h) (Or.inl ⟨by rfl, by (intro w hSw; (try dsimp only at hSw); go_simp)⟩) (by assumption) ?_
    simp only [Act.put, List.setIfInBounds_toArray, List.set_cons_zero, List.set_cons_succ]
    refine wpAnyH_take (i := 3) (v := .pointer (some ⟨f, 2, none⟩)) rfl (by kernel_rfl) (by kernel_rfl) (by kernel_rfl) (fun _ _ _ h => h) (Or.inl ⟨by rfl, by (intro w hSw; (try dsimp only at hSw); go_simp)⟩) (by assumption) ?_
    simp only [Act.put, List.setIfInBounds_toArray, List.set_cons_zero, List.set_cons_succ]
    refine wpAnyH_take (i := 4) rfl (by kernel_rfl) (by kernel_rfl) (by kernel_rfl) (fun _ _ _ h => h) (yieldsIf_load_run (r := .agg fo.toArray) (fun w hS => HF.out w hS.2.2.out) (by rfl) (by rfl) (by rfl)) (by assumption) ?_
    simp only [Act.put, List.setIfInBounds_toArray, List.set_cons_zero, List.set_cons_succ]
    refine wpAnyH_take (i := 5) (v := .pointer (some ⟨f, 0, none⟩)) rfl (by kernel_rfl) (by kernel_rfl) (by kernel_rfl) (fun _ _ _ h => h) (Or.inl ⟨by rfl, by (intro w hSw; (try dsimp only at hSw); go_simp)⟩) (by assumption) ?_
    simp only [Act.put, List.setIfInBounds_toArray, List.set_cons_zero, List.set_cons_succ]
    refine wpAnyH_take (i := 6) (v := .pointer (some ⟨f, 0, none⟩)) rfl (by kernel_rfl) (by kernel_rfl) (by kernel_rfl) (fun _ _ _ h => h) (Or.inl ⟨by rfl, by (intro w hSw; (try dsimp only at hSw); go_simp)⟩) (by assumption) ?_
    simp only [Act.put, List.setIfInBounds_toArray, List.set_cons_zero, List.set_cons_succ]
    refine wpAnyH_take (i := 7) (v := .pointer (some ⟨f, 194, none⟩)) rfl (by kernel_rfl) (by kernel_rfl) (by kernel_rfl) (fun _ _ _ h => h) (Or.inl ⟨by rfl, by (intro w hSw; (try dsimp only at hSw); go_simp)⟩) (by assumption) ?_
    simp only [Act.put, List.setIfInBounds_toArray, List.set_cons_zero, List.set_cons_succ]
    refine wpAnyH_take (i := 8) (v := .slice none 0 0) rfl (by kernel_rfl) (by kernel_rfl) (by kernel_rfl) (fun _ _ _ h => h) (Or.inl ⟨by rfl, by (intro w hSw; (try dsimp only at hSw); go_simp)⟩) (by assumption) ?_
    simp only [Act.put, List.setIfInBounds_toArray, List.set_cons_zero, List.set_cons_succ]
    refine wpAnyH_take (i := 9) (v := .pointer (some ⟨f, 0, none⟩)) rfl (by kernel_rfl) (by kernel_rfl) (by kernel_rfl) (fun _ _ _ h => h) (Or.inl ⟨by rfl, by (intro w hSw; (try dsimp only at hSw); go_simp)⟩) (by assumption) ?_
    simp only [Act.put, List.setIfInBounds_toArray, List.set_cons_zero, List.set_cons_succ]
    refine wpAnyH_take (i := 10) (v := .pointer (some ⟨f, 0, none⟩)) rfl (by kernel_rfl) (by kernel_rfl) (by kernel_rfl) (fun _ _ _ h => h) (Or.inl ⟨by rfl, by (intro w hSw; (try dsimp only at hSw); go_simp)⟩) (by assumption) ?_
    simp only [Act.put, List.setIfInBounds_toArray, List.set_cons_zero, List.set_cons_succ]
    refine wpAnyH_take (i := 11) (v := .pointer (some ⟨f, 195, none⟩)) rfl (by kernel_rfl) (by kernel_rfl) (by kernel_rfl) (fun _ _ _ h => h) (Or.inl ⟨by rfl, by (intro w hSw; (try dsimp only at hSw); go_simp)⟩) (by assumption) ?_
    simp only [Act.put, List.setIfInBounds_toArray, List.set_cons_zero, List.set_cons_succ]
    refine wpAnyH_take (i := 12) (v := .slice X.na 32 X.nc) rfl (by kernel_rfl) (by kernel_rfl) (by kernel_rfl) (fun _ _ _ h => h) (Or.inl ⟨by rfl, by (intro w hSw; (try dsimp only at hSw); go_simp)⟩) (by assumption) ?_
    simp only [Act.put, List.setIfInBounds_toArray, List.set_cons_zero, List.set_cons_succ]
    -- branches
    refine wpAnyH_ready (rs := [13, 14, 15]) (by kernel_rfl) (by simp) ?_
    refine AllReadyH.cons rfl (fun K hK => ?_) ?_
    · go_simp
      go_at_call 118
      refine (clone_nd _ _ _ _ _ w.drew (HR.out _ hSn.2.2.out) (nds_one _) (by omega) (by omega)).mono ?_
      rintro e w1 ⟨a1, c1, G1, rfl, q1, q2, q3⟩
      have z1 := q2.size
      replace q1 := hid q1
      replace q3 := hid q3
      have q4 := hid (Nat.le_trans hSn.2.2.out.size (Nat.le_refl (w.drew).heap.size))
      replace q2 := hid q2
      refine hK.out _ _ (⟨(HS.out _ (hSn.2.2.out.trans q2.out (fun _ _ h => h))).1, (HS.out _ (hSn.2.2.out.trans q2.out (fun _ _ h => h))).2, (hSn.2.2.out.trans q2.out (fun _ _ h => h))⟩) (fun hSn => ?_)
      clear hK K
      try simp only [Act.put, List.setIfInBounds_toArray, List.set_cons_zero, List.set_cons_succ]
      refine wpAnyH_ready (rs := [14, 15]) (by kernel_rfl) (by simp) ?_
      refine AllReadyH.cons rfl (fun K hK => ?_) ?_
      · go_simp
        have z14 := hid hSn.2.2.out.size
        refine hK.out _ _ (⟨(HS.out _ (hSn.2.2.out.alloc _)).1, (HS.out _ (hSn.2.2.out.alloc _)).2, (hSn.2.2.out.alloc _)⟩) (fun hSn => ?_)
        clear hK K
        try simp only [Act.put, List.setIfInBounds_toArray, List.set_cons_zero, List.set_cons_succ]
        refine wpAnyH_ready (rs := [15]) (by kernel_rfl) (by simp) ?_
        refine AllReadyH.cons rfl (fun K hK => ?_) ?_
        · go_simp
          have z15 := hid hSn.2.2.out.size
          refine hK.out _ _ (⟨(HS.out _ (hSn.2.2.out.alloc _)).1, (HS.out _ (hSn.2.2.out.alloc _)).2, (hSn.2.2.out.alloc _)⟩) (fun hSn => ?_)
          clear hK K
          try simp only [Act.put, List.setIfInBounds_toArray, List.set_cons_zero, List.set_cons_succ]
          have CF : Chg Nil w ((((w1.alloc (.map #[] 0)).alloc (.map #[] 0))).alloc (.cells (txC f fo a1 c1 (w1.heap.size) (w1.heap.size + 1)).toArray 244)) := hSn.2.2.out.alloc _
          have MA : MpAt ((((w1.alloc (.map #[] 0)).alloc (.map #[] 0))).alloc (.cells (txC f fo a1 c1 (w1.heap.size) (w1.heap.size + 1)).toArray 244)) Tryz.prog 3 (w1.heap.size) 0 (fun _ => none) := by have := (MpAt.made (w1) Tryz.prog 3).chg (w' := (((w1.alloc (.map #[] 0)).alloc (.map #[] 0))).alloc (.cells (txC f fo a1 c1 (w1.heap.size) (w1.heap.size + 1)).toArray 244)) (F := Nil) (by repeat (first | exact Chg.refl _ _ | apply Chg.alloc | apply Chg.drew | (refine Chg.trans ?_ q2.out (fun _ _ h => h)))) (fun h => h); simpa only [alloc_size, drew_size] using this
          have MB : MpAt ((((w1.alloc (.map #[] 0)).alloc (.map #[] 0))).alloc (.cells (txC f fo a1 c1 (w1.heap.size) (w1.heap.size + 1)).toArray 244)) Tryz.prog 3 (w1.heap.size + 1) 0 (fun _ => none) := by have := (MpAt.made ((w1.alloc (.map #[] 0))) Tryz.prog 3).chg (w' := (((w1.alloc (.map #[] 0)).alloc (.map #[] 0))).alloc (.cells (txC f fo a1 c1 (w1.heap.size) (w1.heap.size + 1)).toArray 244)) (F := Nil) (by repeat (first | exact Chg.refl _ _ | apply Chg.alloc | apply Chg.drew | (refine Chg.trans ?_ q2.out (fun _ _ h => h)))) (fun h => h); simpa only [alloc_size, drew_size] using this
          have SF := q1.out.chg (w' := (((w1.alloc (.map #[] 0)).alloc (.map #[] 0))).alloc (.cells (txC f fo a1 c1 (w1.heap.size) (w1.heap.size + 1)).toArray 244)) (F := Nil) (by repeat (first | exact Chg.refl _ _ | apply Chg.alloc | apply Chg.drew | (refine Chg.trans ?_ q2.out (fun _ _ h => h)))) (fun _ _ h => h)
          have BF := Blk.new (((w1.alloc (.map #[] 0)).alloc (.map #[] 0))) 244 (txC f fo a1 c1 (w1.heap.size) (w1.heap.size + 1))
          try simp only [alloc_size, drew_size] at BF
          have z14o := z14.out
          have z15o := z15.out
          have zW := hSn.2.2.out.size
          have z1o := q2.out.size
          try simp only [alloc_size, drew_size] at z14o
          try simp only [alloc_size, drew_size] at z15o
          try simp only [alloc_size, drew_size] at zW
          try simp only [alloc_size, drew_size] at z1o
          have FIN : Hid (BgPost w FF FD f p q bt bh zs X (.pointer (some ⟨w1.heap.size + 1 + 1, 0, none⟩)) ((((w1.alloc (.map #[] 0)).alloc (.map #[] 0))).alloc (.cells (txC f fo a1 c1 (w1.heap.size) (w1.heap.size + 1)).toArray 244))) := hid (bg_of H.out (hfo.out ▸ BF) SF (fun g hg => Nat.le_trans q4.out (q3.out g hg)) MA MB zW z14o z15o (by omega) CF)
          clear MA MB SF BF CF z14o z15o zW z1o
          refine wpAnyH_take (i := 16) rfl (by kernel_rfl) (by kernel_rfl) (by kernel_rfl) (fun _ _ _ h => h) (yieldsIf_build_run (r := .agg (txC f fo a1 c1 (w1.heap.size) (w1.heap.size + 1)).toArray) (fun wz => HB.out wz a1 c1 (w1.heap.size) (w1.heap.size + 1)) (by rfl) (by rfl) (by rfl)) (by assumption) ?_
          try simp only [Act.put, List.setIfInBounds_toArray, List.set_cons_zero, List.set_cons_succ]
          refine wpAnyH_ready (rs := [17]) (by kernel_rfl) (by simp) ?_
          refine AllReadyH.cons rfl (fun K hK => ?_) AllReadyH.nil
          go_simp
          refine hK.out _ _ (⟨(HS.out _ (hSn.2.2.out.alloc _)).1, (HS.out _ (hSn.2.2.out.alloc _)).2, hSn.2.2.out.alloc _⟩) (fun hSn => ?_)
          clear hK K
          try simp only [Act.put, List.setIfInBounds_toArray, List.set_cons_zero, List.set_cons_succ]
          refine wpAnyH_ready (rs := [18]) (by kernel_rfl) (by simp) ?_
          refine AllReadyH.cons rfl (fun K hK => ?_) AllReadyH.nil
          go_simp
          refine hK.out _ _ hSn (fun hSn => ?_)
          clear hK K
          refine wpAnyH_done (by kernel_rfl) ?_ _
          go_wp2
          go_meet
          exact FIN
        exact AllReadyH.nil
      refine AllReadyH.cons rfl (fun K hK => ?_) ?_
      · go_simp
        have z15 := hid hSn.2.2.out.size
        refine hK.out _ _ (⟨(HS.out _ (hSn.2.2.out.alloc _)).1, (HS.out _ (hSn.2.2.out.alloc _)).2, (hSn.2.2.out.alloc _)⟩) (fun hSn => ?_)
        clear hK K
        try simp only [Act.put, List.setIfInBounds_toArray, List.set_cons_zero, List.set_cons_succ]
        refine wpAnyH_ready (rs := [14]) (by kernel_rfl) (by simp) ?_
        refine AllReadyH.cons rfl (fun K hK => ?_) ?_
        · go_simp
          have z14 := hid hSn.2.2.out.size
          refine hK.out _ _ (⟨(HS.out _ (hSn.2.2.out.alloc _)).1, (HS.out _ (hSn.2.2.out.alloc _)).2, (hSn.2.2.out.alloc _)⟩) (fun hSn => ?_)
          clear hK K
          try simp only [Act.put, List.setIfInBounds_toArray, List.set_cons_zero, List.set_cons_succ]
          have CF : Chg Nil w ((((w1.alloc (.map #[] 0)).alloc (.map #[] 0))).alloc (.cells (txC f fo a1 c1 (w1.heap.size + 1) (w1.heap.size)).toArray 244)) := hSn.2.2.out.alloc _
          have MA : MpAt ((((w1.alloc (.map #[] 0)).alloc (.map #[] 0))).alloc (.cells (txC f fo a1 c1 (w1.heap.size + 1) (w1.heap.size)).toArray 244)) Tryz.prog 3 (w1.heap.size + 1) 0 (fun _ => none) := by have := (MpAt.made ((w1.alloc (.map #[] 0))) Tryz.prog 3).chg (w' := (((w1.alloc (.map #[] 0)).alloc (.map #[] 0))).alloc (.cells (txC f fo a1 c1 (w1.heap.size + 1) (w1.heap.size)).toArray 244)) (F := Nil) (by repeat (first | exact Chg.refl _ _ | apply Chg.alloc | apply Chg.drew | (refine Chg.trans ?_ q2.out (fun _ _ h => h)))) (fun h => h); simpa only [alloc_size, drew_size] using this
          have MB : MpAt ((((w1.alloc (.map #[] 0)).alloc (.map #[] 0))).alloc (.cells (txC f fo a1 c1 (w1.heap.size + 1) (w1.heap.size)).toArray 244)) Tryz.prog 3 (w1.heap.size) 0 (fun _ => none) := by have := (MpAt.made (w1) Tryz.prog 3).chg (w' := (((w1.alloc (.map #[] 0)).alloc (.map #[] 0))).alloc (.cells (txC f fo a1 c1 (w1.heap.size + 1) (w1.heap.size)).toArray 244)) (F := Nil) (by repeat (first | exact Chg.refl _ _ | apply Chg.alloc | apply Chg.drew | (refine Chg.trans ?_ q2.out (fun _ _ h => h)))) (fun h => h); simpa only [alloc_size, drew_size] using this
          have SF := q1.out.chg (w' := (((w1.alloc (.map #[] 0)).alloc (.map #[] 0))).alloc (.cells (txC f fo a1 c1 (w1.heap.size + 1) (w1.heap.size)).toArray 244)) (F := Nil) (by repeat (first | exact Chg.refl _ _ | apply Chg.alloc | apply Chg.drew | (refine Chg.trans ?_ q2.out (fun _ _ h => h)))) (fun _ _ h => h)
          have BF := Blk.new (((w1.alloc (.map #[] 0)).alloc (.map #[] 0))) 244 (txC f fo a1 c1 (w1.heap.size + 1) (w1.heap.size))
          try simp only [alloc_size, drew_size] at BF
          have z14o := z14.out
          have z15o := z15.out
          have zW := hSn.2.2.out.size
          have z1o := q2.out.size
          try simp only [alloc_size, drew_size] at z14o
          try simp only [alloc_size, drew_size] at z15o
          try simp only [alloc_size, drew_size] at zW
          try simp only [alloc_size, drew_size] at z1o
          have FIN : Hid (BgPost w FF FD f p q bt bh zs X (.pointer (some ⟨w1.heap.size + 1 + 1, 0, none⟩)) ((((w1.alloc (.map #[] 0)).alloc (.map #[] 0))).alloc (.cells (txC f fo a1 c1 (w1.heap.size + 1) (w1.heap.size)).toArray 244))) := hid (bg_of H.out (hfo.out ▸ BF) SF (fun g hg => Nat.le_trans q4.out (q3.out g hg)) MA MB zW z14o z15o (by omega) CF)
          clear MA MB SF BF CF z14o z15o zW z1o
          refine wpAnyH_take (i := 16) rfl (by kernel_rfl) (by kernel_rfl) (by kernel_rfl) (fun _ _ _ h => h) (yieldsIf_build_run (r := .agg (txC f fo a1 c1 (w1.heap.size + 1) (w1.heap.size)).toArray) (fun wz => HB.out wz a1 c1 (w1.heap.size + 1) (w1.heap.size)) (by rfl) (by rfl) (by rfl)) (by assumption) ?_
          try simp only [Act.put, List.setIfInBounds_toArray, List.set_cons_zero, List.set_cons_succ]
          refine wpAnyH_ready (rs := [17]) (by kernel_rfl) (by simp) ?_
          refine AllReadyH.cons rfl (fun K hK => ?_) AllReadyH.nil
          go_simp
          refine hK.out _ _ (⟨(HS.out _ (hSn.2.2.out.alloc _)).1, (HS.out _ (hSn.2.2.out.alloc _)).2, hSn.2.2.out.alloc _⟩) (fun hSn => ?_)
          clear hK K
          try simp only [Act.put, List.setIfInBounds_toArray, List.set_cons_zero, List.set_cons_succ]
          refine wpAnyH_ready (rs := [18]) (by kernel_rfl) (by simp) ?_
          refine AllReadyH.cons rfl (fun K hK => ?_) AllReadyH.nil
          go_simp
          refine hK.out _ _ hSn (fun hSn => ?_)
          clear hK K
          refine wpAnyH_done (by kernel_rfl) ?_ _
          go_wp2
          go_meet
          exact FIN
        exact AllReadyH.nil
      exact AllReadyH.nil
    refine AllReadyH.cons rfl (fun K hK => ?_) ?_
    · go_simp
      have z14 := hid hSn.2.2.out.size
      refine hK.out _ _ (⟨(HS.out _ (hSn.2.2.out.alloc _)).1, (HS.out _ (hSn.2.2.out.alloc _)).2, (hSn.2.2.out.alloc _)⟩) (fun hSn => ?_)
      clear hK K
      try simp only [Act.put, List.setIfInBounds_toArray, List.set_cons_zero, List.set_cons_succ]
      refine wpAnyH_ready (rs := [13, 15]) (by kernel_rfl) (by simp) ?_
      refine AllReadyH.cons rfl (fun K hK => ?_) ?_
      · go_simp
        go_at_call 118
        refine (clone_nd _ _ _ _ _ (w.drew.alloc (.map #[] 0)) (HR.out _ hSn.2.2.out) (nds_one _) (by omega) (by omega)).mono ?_
        rintro e w1 ⟨a1, c1, G1, rfl, q1, q2, q3⟩
        have z1 := q2.size
        replace q1 := hid q1
        replace q3 := hid q3
        have q4 := hid (Nat.le_trans hSn.2.2.out.size (Nat.le_refl ((w.drew.alloc (.map #[] 0))).heap.size))
        replace q2 := hid q2
        refine hK.out _ _ (⟨(HS.out _ (hSn.2.2.out.trans q2.out (fun _ _ h => h))).1, (HS.out _ (hSn.2.2.out.trans q2.out (fun _ _ h => h))).2, (hSn.2.2.out.trans q2.out (fun _ _ h => h))⟩) (fun hSn => ?_)
        clear hK K
        try simp only [Act.put, List.setIfInBounds_toArray, List.set_cons_zero, List.set_cons_succ]
        refine wpAnyH_ready (rs := [15]) (by kernel_rfl) (by simp) ?_
        refine AllReadyH.cons rfl (fun K hK => ?_) ?_
        · go_simp
          have z15 := hid hSn.2.2.out.size
          refine hK.out _ _ (⟨(HS.out _ (hSn.2.2.out.alloc _)).1, (HS.out _ (hSn.2.2.out.alloc _)).2, (hSn.2.2.out.alloc _)⟩) (fun hSn => ?_)
          clear hK K
          try simp only [Act.put, List.setIfInBounds_toArray, List.set_cons_zero, List.set_cons_succ]
          have CF : Chg Nil w (((w1.alloc (.map #[] 0))).alloc (.cells (txC f fo a1 c1 (w.heap.size) (w1.heap.size)).toArray 244)) := hSn.2.2.out.alloc _
          have MA : MpAt (((w1.alloc (.map #[] 0))).alloc (.cells (txC f fo a1 c1 (w.heap.size) (w1.heap.size)).toArray 244)) Tryz.prog 3 (w.heap.size) 0 (fun _ => none) := by have := (MpAt.made (w.drew) Tryz.prog 3).chg (w' := ((w1.alloc (.map #[] 0))).alloc (.cells (txC f fo a1 c1 (w.heap.size) (w1.heap.size)).toArray 244)) (F := Nil) (by repeat (first | exact Chg.refl _ _ | apply Chg.alloc | apply Chg.drew | (refine Chg.trans ?_ q2.out (fun _ _ h => h)))) (fun h => h); simpa only [alloc_size, drew_size] using this
          have MB : MpAt (((w1.alloc (.map #[] 0))).alloc (.cells (txC f fo a1 c1 (w.heap.size) (w1.heap.size)).toArray 244)) Tryz.prog 3 (w1.heap.size) 0 (fun _ => none) := by have := (MpAt.made (w1) Tryz.prog 3).chg (w' := ((w1.alloc (.map #[] 0))).alloc (.cells (txC f fo a1 c1 (w.heap.size) (w1.heap.size)).toArray 244)) (F := Nil) (by repeat (first | exact Chg.refl _ _ | apply Chg.alloc | apply Chg.drew | (refine Chg.trans ?_ q2.out (fun _ _ h => h)))) (fun h => h); simpa only [alloc_size, drew_size] using this
          have SF := q1.out.chg (w' := ((w1.alloc (.map #[] 0))).alloc (.cells (txC f fo a1 c1 (w.heap.size) (w1.heap.size)).toArray 244)) (F := Nil) (by repeat (first | exact Chg.refl _ _ | apply Chg.alloc | apply Chg.drew | (refine Chg.trans ?_ q2.out (fun _ _ h => h)))) (fun _ _ h => h)
          have BF := Blk.new ((w1.alloc (.map #[] 0))) 244 (txC f fo a1 c1 (w.heap.size) (w1.heap.size))
          try simp only [alloc_size, drew_size] at BF
          have z14o := z14.out
          have z15o := z15.out
          have zW := hSn.2.2.out.size
          have z1o := q2.out.size
          try simp only [alloc_size, drew_size] at z14o
          try simp only [alloc_size, drew_size] at z15o
          try simp only [alloc_size, drew_size] at zW
          try simp only [alloc_size, drew_size] at z1o
          have FIN : Hid (BgPost w FF FD f p q bt bh zs X (.pointer (some ⟨w1.heap.size + 1, 0, none⟩)) (((w1.alloc (.map #[] 0))).alloc (.cells (txC f fo a1 c1 (w.heap.size) (w1.heap.size)).toArray 244))) := hid (bg_of H.out (hfo.out ▸ BF) SF (fun g hg => Nat.le_trans q4.out (q3.out g hg)) MA MB zW z14o z15o (by omega) CF)
          clear MA MB SF BF CF z14o z15o zW z1o
          refine wpAnyH_take (i := 16) rfl (by kernel_rfl) (by kernel_rfl) (by kernel_rfl) (fun _ _ _ h => h) (yieldsIf_build_run (r := .agg (txC f fo a1 c1 (w.heap.size) (w1.heap.size)).toArray) (fun wz => HB.out wz a1 c1 (w.heap.size) (w1.heap.size)) (by rfl) (by rfl) (by rfl)) (by assumption) ?_
          try simp only [Act.put, List.setIfInBounds_toArray, List.set_cons_zero, List.set_cons_succ]
          refine wpAnyH_ready (rs := [17]) (by kernel_rfl) (by simp) ?_
          refine AllReadyH.cons rfl (fun K hK => ?_) AllReadyH.nil
          go_simp
          refine hK.out _ _ (⟨(HS.out _ (hSn.2.2.out.alloc _)).1, (HS.out _ (hSn.2.2.out.alloc _)).2, hSn.2.2.out.alloc _⟩) (fun hSn => ?_)
          clear hK K
          try simp only [Act.put, List.setIfInBounds_toArray, List.set_cons_zero, List.set_cons_succ]
          refine wpAnyH_ready (rs := [18]) (by kernel_rfl) (by simp) ?_
          refine AllReadyH.cons rfl (fun K hK => ?_) AllReadyH.nil
          go_simp
          refine hK.out _ _ hSn (fun hSn => ?_)
          clear hK K
          refine wpAnyH_done (by kernel_rfl) ?_ _
          go_wp2
          go_meet
          exact FIN
        exact AllReadyH.nil
      refine AllReadyH.cons rfl (fun K hK => ?_) ?_
      · go_simp
        have z15 := hid hSn.2.2.out.size
        refine hK.out _ _ (⟨(HS.out _ (hSn.2.2.out.alloc _)).1, (HS.out _ (hSn.2.2.out.alloc _)).2, (hSn.2.2.out.alloc _)⟩) (fun hSn => ?_)
        clear hK K
        try simp only [Act.put, List.setIfInBounds_toArray, List.set_cons_zero, List.set_cons_succ]
        refine wpAnyH_ready (rs := [13]) (by kernel_rfl) (by simp) ?_
        refine AllReadyH.cons rfl (fun K hK => ?_) ?_
        · go_simp
          go_at_call 118
          refine (clone_nd _ _ _ _ _ ((w.drew.alloc (.map #[] 0)).alloc (.map #[] 0)) (HR.out _ hSn.2.2.out) (nds_one _) (by omega) (by omega)).mono ?_
          rintro e w1 ⟨a1, c1, G1, rfl, q1, q2, q3⟩
          have z1 := q2.size
          replace q1 := hid q1
          replace q3 := hid q3
          have q4 := hid (Nat.le_trans hSn.2.2.out.size (Nat.le_refl (((w.drew.alloc (.map #[] 0)).alloc (.map #[] 0))).heap.size))
          replace q2 := hid q2
          refine hK.out _ _ (⟨(HS.out _ (hSn.2.2.out.trans q2.out (fun _ _ h => h))).1, (HS.out _ (hSn.2.2.out.trans q2.out (fun _ _ h => h))).2, (hSn.2.2.out.trans q2.out (fun _ _ h => h))⟩) (fun hSn => ?_)
          clear hK K
          try simp only [Act.put, List.setIfInBounds_toArray, List.set_cons_zero, List.set_cons_succ]
          have CF : Chg Nil w ((w1).alloc (.cells (txC f fo a1 c1 (w.heap.size) (w.heap.size + 1)).toArray 244)) := hSn.2.2.out.alloc _
          have MA : MpAt ((w1).alloc (.cells (txC f fo a1 c1 (w.heap.size) (w.heap.size + 1)).toArray 244)) Tryz.prog 3 (w.heap.size) 0 (fun _ => none) := by have := (MpAt.made (w.drew) Tryz.prog 3).chg (w' := (w1).alloc (.cells (txC f fo a1 c1 (w.heap.size) (w.heap.size + 1)).toArray 244)) (F := Nil) (by repeat (first | exact Chg.refl _ _ | apply Chg.alloc | apply Chg.drew | (refine Chg.trans ?_ q2.out (fun _ _ h => h)))) (fun h => h); simpa only [alloc_size, drew_size] using this
          have MB : MpAt ((w1).alloc (.cells (txC f fo a1 c1 (w.heap.size) (w.heap.size + 1)).toArray 244)) Tryz.prog 3 (w.heap.size + 1) 0 (fun _ => none) := by have := (MpAt.made ((w.drew.alloc (.map #[] 0))) Tryz.prog 3).chg (w' := (w1).alloc (.cells (txC f fo a1 c1 (w.heap.size) (w.heap.size + 1)).toArray 244)) (F := Nil) (by repeat (first | exact Chg.refl _ _ | apply Chg.alloc | apply Chg.drew | (refine Chg.trans ?_ q2.out (fun _ _ h => h)))) (fun h => h); simpa only [alloc_size, drew_size] using this
          have SF := q1.out.chg (w' := (w1).alloc (.cells (txC f fo a1 c1 (w.heap.size) (w.heap.size + 1)).toArray 244)) (F := Nil) (by repeat (first | exact Chg.refl _ _ | apply Chg.alloc | apply Chg.drew | (refine Chg.trans ?_ q2.out (fun _ _ h => h)))) (fun _ _ h => h)
          have BF := Blk.new (w1) 244 (txC f fo a1 c1 (w.heap.size) (w.heap.size + 1))
          try simp only [alloc_size, drew_size] at BF
          have z14o := z14.out
          have z15o := z15.out
          have zW := hSn.2.2.out.size
          have z1o := q2.out.size
          try simp only [alloc_size, drew_size] at z14o
          try simp only [alloc_size, drew_size] at z15o
          try simp only [alloc_size, drew_size] at zW
          try simp only [alloc_size, drew_size] at z1o
          have FIN : Hid (BgPost w FF FD f p q bt bh zs X (.pointer (some ⟨w1.heap.size, 0, none⟩)) ((w1).alloc (.cells (txC f fo a1 c1 (w.heap.size) (w.heap.size + 1)).toArray 244))) := hid (bg_of H.out (hfo.out ▸ BF) SF (fun g hg => Nat.le_trans q4.out (q3.out g hg)) MA MB zW z14o z15o (by omega) CF)
          clear MA MB SF BF CF z14o z15o zW z1o
          refine wpAnyH_take (i := 16) rfl (by kernel_rfl) (by kernel_rfl) (by kernel_rfl) (fun _ _ _ h => h) (yieldsIf_build_run (r := .agg (txC f fo a1 c1 (w.heap.size) (w.heap.size + 1)).toArray) (fun wz => HB.out wz a1 c1 (w.heap.size) (w.heap.size + 1)) (by rfl) (by rfl) (by rfl)) (by assumption) ?_
          try simp only [Act.put, List.setIfInBounds_toArray, List.set_cons_zero, List.set_cons_succ]
          refine wpAnyH_ready (rs := [17]) (by kernel_rfl) (by simp) ?_
          refine AllReadyH.cons rfl (fun K hK => ?_) AllReadyH.nil
          go_simp
          refine hK.out _ _ (⟨(HS.out _ (hSn.2.2.out.alloc _)).1, (HS.out _ (hSn.2.2.out.alloc _)).2, hSn.2.2.out.alloc _⟩) (fun hSn => ?_)
          clear hK K
          try simp only [Act.put, List.setIfInBounds_toArray, List.set_cons_zero, List.set_cons_succ]
          refine wpAnyH_ready (rs := [18]) (by kernel_rfl) (by simp) ?_
          refine AllReadyH.cons rfl (fun K hK => ?_) AllReadyH.nil
          go_simp
          refine hK.out _ _ hSn (fun hSn => ?_)
          clear hK K
          refine wpAnyH_done (by kernel_rfl) ?_ _
          go_wp2
          go_meet
          exact FIN
        exact AllReadyH.nil
      exact AllReadyH.nil
    refine AllReadyH.cons rfl (fun K hK => ?_) ?_
    · go_simp
      have z15 := hid hSn.2.2.out.size
      refine hK.out _ _ (⟨(HS.out _ (hSn.2.2.out.alloc _)).1, (HS.out _ (hSn.2.2.out.alloc _)).2, (hSn.2.2.out.alloc _)⟩) (fun hSn => ?_)
      clear hK K
      try simp only [Act.put, List.setIfInBounds_toArray, List.set_cons_zero, List.set_cons_succ]
      refine wpAnyH_ready (rs := [13, 14]) (by kernel_rfl) (by simp) ?_
      refine AllReadyH.cons rfl (fun K hK => ?_) ?_
      · go_simp
        go_at_call 118
        refine (clone_nd _ _ _ _ _ (w.drew.alloc (.map #[] 0)) (HR.out _ hSn.2.2.out) (nds_one _) (by omega) (by omega)).mono ?_
        rintro e w1 ⟨a1, c1, G1, rfl, q1, q2, q3⟩
        have z1 := q2.size
        replace q1 := hid q1
        replace q3 := hid q3
        have q4 := hid (Nat.le_trans hSn.2.2.out.size (Nat.le_refl ((w.drew.alloc (.map #[] 0))).heap.size))
        replace q2 := hid q2
        refine hK.out _ _ (⟨(HS.out _ (hSn.2.2.out.trans q2.out (fun _ _ h => h))).1, (HS.out _ (hSn.2.2.out.trans q2.out (fun _ _ h => h))).2, (hSn.2.2.out.trans q2.out (fun _ _ h => h))⟩) (fun hSn => ?_)
        clear hK K
        try simp only [Act.put, List.setIfInBounds_toArray, List.set_cons_zero, List.set_cons_succ]
        refine wpAnyH_ready (rs := [14]) (by kernel_rfl) (by simp) ?_
        refine AllReadyH.cons rfl (fun K hK => ?_) ?_
        · go_simp
          have z14 := hid hSn.2.2.out.size
          refine hK.out _ _ (⟨(HS.out _ (hSn.2.2.out.alloc _)).1, (HS.out _ (hSn.2.2.out.alloc _)).2, (hSn.2.2.out.alloc _)⟩) (fun hSn => ?_)
          clear hK K
          try simp only [Act.put, List.setIfInBounds_toArray, List.set_cons_zero, List.set_cons_succ]
          have CF : Chg Nil w (((w1.alloc (.map #[] 0))).alloc (.cells (txC f fo a1 c1 (w1.heap.size) (w.heap.size)).toArray 244)) := hSn.2.2.out.alloc _
          have MA : MpAt (((w1.alloc (.map #[] 0))).alloc (.cells (txC f fo a1 c1 (w1.heap.size) (w.heap.size)).toArray 244)) Tryz.prog 3 (w1.heap.size) 0 (fun _ => none) := by have := (MpAt.made (w1) Tryz.prog 3).chg (w' := ((w1.alloc (.map #[] 0))).alloc (.cells (txC f fo a1 c1 (w1.heap.size) (w.heap.size)).toArray 244)) (F := Nil) (by repeat (first | exact Chg.refl _ _ | apply Chg.alloc | apply Chg.drew | (refine Chg.trans ?_ q2.out (fun _ _ h => h)))) (fun h => h); simpa only [alloc_size, drew_size] using this
          have MB : MpAt (((w1.alloc (.map #[] 0))).alloc (.cells (txC f fo a1 c1 (w1.heap.size) (w.heap.size)).toArray 244)) Tryz.prog 3 (w.heap.size) 0 (fun _ => none) := by have := (MpAt.made (w.drew) Tryz.prog 3).chg (w' := ((w1.alloc (.map #[] 0))).alloc (.cells (txC f fo a1 c1 (w1.heap.size) (w.heap.size)).toArray 244)) (F := Nil) (by repeat (first | exact Chg.refl _ _ | apply Chg.alloc | apply Chg.drew | (refine Chg.trans ?_ q2.out (fun _ _ h => h)))) (fun h => h); simpa only [alloc_size, drew_size] using this
          have SF := q1.out.chg (w' := ((w1.alloc (.map #[] 0))).alloc (.cells (txC f fo a1 c1 (w1.heap.size) (w.heap.size)).toArray 244)) (F := Nil) (by repeat (first | exact Chg.refl _ _ | apply Chg.alloc | apply Chg.drew | (refine Chg.trans ?_ q2.out (fun _ _ h => h)))) (fun _ _ h => h)
          have BF := Blk.new ((w1.alloc (.map #[] 0))) 244 (txC f fo a1 c1 (w1.heap.size) (w.heap.size))
          try simp only [alloc_size, drew_size] at BF
          have z14o := z14.out
          have z15o := z15.out
          have zW := hSn.2.2.out.size
          have z1o := q2.out.size
          try simp only [alloc_size, drew_size] at z14o
          try simp only [alloc_size, drew_size] at z15o
          try simp only [alloc_size, drew_size] at zW
          try simp only [alloc_size, drew_size] at z1o
          have FIN : Hid (BgPost w FF FD f p q bt bh zs X (.pointer (some ⟨w1.heap.size + 1, 0, none⟩)) (((w1.alloc (.map #[] 0))).alloc (.cells (txC f fo a1 c1 (w1.heap.size) (w.heap.size)).toArray 244))) := hid (bg_of H.out (hfo.out ▸ BF) SF (fun g hg => Nat.le_trans q4.out (q3.out g hg)) MA MB zW z14o z15o (by omega) CF)
          clear MA MB SF BF CF z14o z15o zW z1o
          refine wpAnyH_take (i := 16) rfl (by kernel_rfl) (by kernel_rfl) (by kernel_rfl) (fun _ _ _ h => h) (yieldsIf_build_run (r := .agg (txC f fo a1 c1 (w1.heap.size) (w.heap.size)).toArray) (fun wz => HB.out wz a1 c1 (w1.heap.size) (w.heap.size)) (by rfl) (by rfl) (by rfl)) (by assumption) ?_
          try simp only [Act.put, List.setIfInBounds_toArray, List.set_cons_zero, List.set_cons_succ]
          refine wpAnyH_ready (rs := [17]) (by kernel_rfl) (by simp) ?_
          refine AllReadyH.cons rfl (fun K hK => ?_) AllReadyH.nil
          go_simp
          refine hK.out _ _ (⟨(HS.out _ (hSn.2.2.out.alloc _)).1, (HS.out _ (hSn.2.2.out.alloc _)).2, hSn.2.2.out.alloc _⟩) (fun hSn => ?_)
          clear hK K
          try simp only [Act.put, List.setIfInBounds_toArray, List.set_cons_zero, List.set_cons_succ]
          refine wpAnyH_ready (rs := [18]) (by kernel_rfl) (by simp) ?_
          refine AllReadyH.cons rfl (fun K hK => ?_) AllReadyH.nil
          go_simp
          refine hK.out _ _ hSn (fun hSn => ?_)
          clear hK K
          refine wpAnyH_done (by kernel_rfl) ?_ _
          go_wp2
          go_meet
          exact FIN
        exact AllReadyH.nil
      refine AllReadyH.cons rfl (fun K hK => ?_) ?_
      · go_simp
        have z14 := hid hSn.2.2.out.size
        refine hK.out _ _ (⟨(HS.out _ (hSn.2.2.out.alloc _)).1, (HS.out _ (hSn.2.2.out.alloc _)).2, (hSn.2.2.out.alloc _)⟩) (fun hSn => ?_)
        clear hK K
        try simp only [Act.put, List.setIfInBounds_toArray, List.set_cons_zero, List.set_cons_succ]
        refine wpAnyH_ready (rs := [13]) (by kernel_rfl) (by simp) ?_
        refine AllReadyH.cons rfl (fun K hK => ?_) ?_
        · go_simp
          go_at_call 118
          refine (clone_nd _ _ _ _ _ ((w.drew.alloc (.map #[] 0)).alloc (.map #[] 0)) (HR.out _ hSn.2.2.out) (nds_one _) (by omega) (by omega)).mono ?_
          rintro e w1 ⟨a1, c1, G1, rfl, q1, q2, q3⟩
          have z1 := q2.size
          replace q1 := hid q1
          replace q3 := hid q3
          have q4 := hid (Nat.le_trans hSn.2.2.out.size (Nat.le_refl (((w.drew.alloc (.map #[] 0)).alloc (.map #[] 0))).heap.size))
          replace q2 := hid q2
          refine hK.out _ _ (⟨(HS.out _ (hSn.2.2.out.trans q2.out (fun _ _ h => h))).1, (HS.out _ (hSn.2.2.out.trans q2.out (fun _ _ h => h))).2, (hSn.2.2.out.trans q2.out (fun _ _ h => h))⟩) (fun hSn => ?_)
          clear hK K
          try simp only [Act.put, List.setIfInBounds_toArray, List.set_cons_zero, List.set_cons_succ]
          have CF : Chg Nil w ((w1).alloc (.cells (txC f fo a1 c1 (w.heap.size + 1) (w.heap.size)).toArray 244)) := hSn.2.2.out.alloc _
          have MA : MpAt ((w1).alloc (.cells (txC f fo a1 c1 (w.heap.size + 1) (w.heap.size)).toArray 244)) Tryz.prog 3 (w.heap.size + 1) 0 (fun _ => none) := by have := (MpAt.made ((w.drew.alloc (.map #[] 0))) Tryz.prog 3).chg (w' := (w1).alloc (.cells (txC f fo a1 c1 (w.heap.size + 1) (w.heap.size)).toArray 244)) (F := Nil) (by repeat (first | exact Chg.refl _ _ | apply Chg.alloc | apply Chg.drew | (refine Chg.trans ?_ q2.out (fun _ _ h => h)))) (fun h => h); simpa only [alloc_size, drew_size] using this
          have MB : MpAt ((w1).alloc (.cells (txC f fo a1 c1 (w.heap.size + 1) (w.heap.size)).toArray 244)) Tryz.prog 3 (w.heap.size) 0 (fun _ => none) := by have := (MpAt.made (w.drew) Tryz.prog 3).chg (w' := (w1).alloc (.cells (txC f fo a1 c1 (w.heap.size + 1) (w.heap.size)).toArray 244)) (F := Nil) (by repeat (first | exact Chg.refl _ _ | apply Chg.alloc | apply Chg.drew | (refine Chg.trans ?_ q2.out (fun _ _ h => h)))) (fun h => h); simpa only [alloc_size, drew_size] using this
          have SF := q1.out.chg (w' := (w1).alloc (.cells (txC f fo a1 c1 (w.heap.size + 1) (w.heap.size)).toArray 244)) (F := Nil) (by repeat (first | exact Chg.refl _ _ | apply Chg.alloc | apply Chg.drew | (refine Chg.trans ?_ q2.out (fun _ _ h => h)))) (fun _ _ h => h)
          have BF := Blk.new (w1) 244 (txC f fo a1 c1 (w.heap.size + 1) (w.heap.size))
          try simp only [alloc_size, drew_size] at BF
          have z14o := z14.out
          have z15o := z15.out
          have zW := hSn.2.2.out.size
          have z1o := q2.out.size
          try simp only [alloc_size, drew_size] at z14o
          try simp only [alloc_size, drew_size] at z15o
          try simp only [alloc_size, drew_size] at zW
          try simp only [alloc_size, drew_size] at z1o
          have FIN : Hid (BgPost w FF FD f p q bt bh zs X (.pointer (some ⟨w1.heap.size, 0, none⟩)) ((w1).alloc (.cells (txC f fo a1 c1 (w.heap.size + 1) (w.heap.size)).toArray 244))) := hid (bg_of H.out (hfo.out ▸ BF) SF (fun g hg => Nat.le_trans q4.out (q3.out g hg)) MA MB zW z14o z15o (by omega) CF)
          clear MA MB SF BF CF z14o z15o zW z1o
          refine wpAnyH_take (i := 16) rfl (by kernel_rfl) (by kernel_rfl) (by kernel_rfl) (fun _ _ _ h => h) (yieldsIf_build_run (r := .agg (txC f fo a1 c1 (w.heap.size + 1) (w.heap.size)).toArray) (fun wz => HB.out wz a1 c1 (w.heap.size + 1) (w.heap.size)) (by rfl) (by rfl) (by rfl)) (by assumption) ?_
          try simp only [Act.put, List.setIfInBounds_toArray, List.set_cons_zero, List.set_cons_succ]
          refine wpAnyH_ready (rs := [17]) (by kernel_rfl) (by simp) ?_
          refine AllReadyH.cons rfl (fun K hK => ?_) AllReadyH.nil
          go_simp
          refine hK.out _ _ (⟨(HS.out _ (hSn.2.2.out.alloc _)).1, (HS.out _ (hSn.2.2.out.alloc _)).2, hSn.2.2.out.alloc _⟩) (fun hSn => ?_)
          clear hK K
          try simp only [Act.put, List.setIfInBounds_toArray, List.set_cons_zero, List.set_cons_succ]
          refine wpAnyH_ready (rs := [18]) (by kernel_rfl) (by simp) ?_
          refine AllReadyH.cons rfl (fun K hK => ?_) AllReadyH.nil
          go_simp
          refine hK.out _ _ hSn (fun hSn => ?_)
          clear hK K
          refine wpAnyH_done (by kernel_rfl) ?_ _
          go_wp2
          go_meet
          exact FIN
        exact AllReadyH.nil
      exact AllReadyH.nil
    exact AllReadyH.nil
  case rest =>
    go_wp2
    go_ret
    exact ⟨_, rfl, hcut.out⟩
end Go.Proofs.YtdcbagmgflcemaaGreatDoor
namespace Go.Proofs.YtdcbagmgflcemaaGreatDoor
open Go.ChangeShapes Go.WideShapes Go.ChangeAt Go.RowKit
set_option linter.unusedVariables false
set_option linter.unusedSimpArgs false
section
variable {w w' : World} {FF FD : Nat → Prop} {f p q bt bh : Nat} {zs : List Int} {X : FX} {N : Nat} {R : Nat → Prop} {t gn go gc bd bp : Nat} {T : TX}
theorem TxA.c0 (h : TxA w FF FD f p q bt bh zs X N R t gn go gc bd bp T) : w.cell? ⟨t, 0, none⟩ = some (.pointer (some ⟨f, 0, none⟩)) := h.blk.cell 0
theorem TxA.c193 (h : TxA w FF FD f p q bt bh zs X N R t gn go gc bd bp T) : w.cell? ⟨t, 193, none⟩ = some (.slice none 0 0) := (h.blk.cell (193 + 0)).trans (txC_tail _ _ (foM_len _) _ _ _ _ 0)
theorem TxA.c194 (h : TxA w FF FD f p q bt bh zs X N R t gn go gc bd bp T) : w.cell? ⟨t, 194, none⟩ = some (.slice (some ⟨gn, go, none⟩) 32 gc) := (h.blk.cell (193 + 1)).trans (txC_tail _ _ (foM_len _) _ _ _ _ 1)
theorem TxA.c195 (h : TxA w FF FD f p q bt bh zs X N R t gn go gc bd bp T) : w.cell? ⟨t, 195, none⟩ = some (.map (some bd)) := (h.blk.cell (193 + 2)).trans (txC_tail _ _ (foM_len _) _ _ _ _ 2)
theorem TxA.c196 (h : TxA w FF FD f p q bt bh zs X N R t gn go gc bd bp T) : w.cell? ⟨t, 196, none⟩ = some (.map (some bp)) := (h.blk.cell (193 + 3)).trans (txC_tail _ _ (foM_len _) _ _ _ _ 3)
theorem TxA.c197 (h : TxA w FF FD f p q bt bh zs X N R t gn go gc bd bp T) : w.cell? ⟨t, 197, none⟩ = some (.slice none 0 0) := (h.blk.cell (193 + 4)).trans (txC_tail _ _ (foM_len _) _ _ _ _ 4)
theorem TxA.c198 (h : TxA w FF FD f p q bt bh zs X N R t gn go gc bd bp T) : w.cell? ⟨t, 198, none⟩ = some (.bool false) := (h.blk.cell (193 + 5)).trans (txC_tail _ _ (foM_len _) _ _ _ _ 5)
/-- A node of the change, read whole. -/
theorem TxA.ndLoad (h : TxA w FF FD f p q bt bh zs X N R t gn go gc bd bp T) {k : Nat} (hk : k < 32) : (Instr.loadAt 120 (.pointer (some ⟨gn, go + k * 8, none⟩))).run Tryz.prog w = .ok (.agg (T.ns k).row.toArray) w := by
  obtain ⟨g', off', e, r2, r3, r4⟩ := h.nodes.rd.2.2.2 (by omega)
  obtain ⟨rfl, rfl⟩ : gn = g' ∧ go = off' := by simpa using e
  refine run_loadAt_mid (P := Tryz.prog) w gn (go + k * 8) 120 (T.ns k).row _ (fun j v hv => ?_) Tryz.underlying120 rfl (by rw [Nd.row_len]; kernel_rfl)
  have hj : j < 8 := by have := (List.getElem?_eq_some_iff.1 hv).1; rwa [Nd.row_len] at this
  rw [Nat.add_assoc, r4 _ (by omega), tab_get _ (by omega), ndsV_at _ hj, hv]
end
/-- A row of s cells is put into a slice of one's own. -/
theorem Sl.putRow {w : World} {e : TypeId} {s n c g off k : Nat} {xs vs : List Value} (h : Sl w e s (some ⟨g, off, none⟩) n c xs (some g)) (hk : k < n) (hv : vs.length = s) :
    Sl (w.setCells g (off + k * s) vs) e s (some ⟨g, off, none⟩) n c (over_ xs (k * s) vs) (some g) ∧ w.there g (off + k * s) s := by
  obtain ⟨h1, h2, h3, ⟨h4, h5⟩ | ⟨g', off', cur, r1, r2, r3, r4, r5⟩⟩ := h
  · cases h5
  · obtain ⟨rfl, rfl⟩ : g = g' ∧ off = off' := by simpa using r1
    have hks : (k + 1) * s ≤ n * s := Nat.mul_le_mul_right _ hk
    have hnc : n * s ≤ c * s := Nat.mul_le_mul_right _ h1
    rw [Nat.succ_mul] at hks
    have hB : Blk w g e cur.toList := by unfold Blk; simpa using r3
    have hB2 := hB.cells (lo := off + k * s) (vs := vs) (by simp; omega)
    refine ⟨⟨h1, h2, by rw [over_len (by omega)]; exact h3, .inr ⟨g, off, (over_ cur.toList (off + k * s) vs).toArray, rfl, rfl, hB2, ?_, fun j hj => ?_⟩⟩, ?_⟩
    · rw [List.size_toArray, over_len (by simp; omega)]; simpa using r4
    · rw [List.getElem?_toArray, over_get (by simp; omega), over_get (by omega)]
      by_cases c1 : j < k * s
      · rw [if_pos (by omega), if_pos c1, Array.getElem?_toList, r5 j hj]
      · rw [if_neg (by omega), if_neg c1]
        by_cases c2 : j < k * s + vs.length
        · rw [if_pos (by omega), if_pos c2]; congr 1; omega
        · rw [if_neg (by omega), if_neg c2, Array.getElem?_toList, r5 j hj]
    · exact hB.there (by simp; omega)
set_option maxRecDepth 100000 in
set_option maxHeartbeats 1000000 in
theorem fnode_ok {w : World} {FF FD : Nat → Prop} {f p q bt bh : Nat} {zs : List Int} {X : FX} {N : Nat} {R : Nat → Prop} {t gn go gc bd bp : Nat} {T : TX} (h : TxA w FF FD f p q bt bh zs X N R t gn go gc bd bp T) (k : Nat) (hk : k < 32) (i : Int) (hi : i = (k : Int) + 1) :
    Calls Tryz.prog 119 #[.pointer (some ⟨t, 0, none⟩), .int .i64 i] w fun e w' => e = .returned (.agg (T.ns k).row.toArray) ∧ Chg Nil w w' := by
  subst hi
  have C0 : Chg Nil w (w.alloc (.cells (ndCells 0 0 0 0).toArray 120)) := (Chg.refl Nil w).alloc _
  have h0 := h.nil C0
  have k194 := h0.c194
  have L := h0.ndLoad hk
  have B0 := Blk.new w 120 (ndCells 0 0 0 0)
  obtain ⟨r, hr⟩ : ∃ r, r = (T.ns k).row := ⟨_, rfl⟩
  have hl : r.length = 8 := by rw [hr, Nd.row_len]
  have h1 : ∀ u ∈ r, u.oneCell' = true := by rw [hr]; exact Nd.row_one _
  rw [← hr] at L ⊢
  obtain ⟨S1, B1⟩ := store_blk (P := Tryz.prog) (ty := 120) B0 (vs := r) (by rw [hl]; rfl) (by rw [hl]; kernel_rfl) h1
  have hC := hid (C0.one (.inr (Nat.le_refl _)) (setCells_chg (w.alloc (.cells (ndCells 0 0 0 0).toArray 120)) w.heap.size 0 r (One w.heap.size) rfl))
  replace hr := hid hr
  replace h1 := hid h1
  have i1 : (k : Int) < 32 := by omega
  clear h0 C0 h B0
  obtain ⟨W, hW⟩ : ∃ W, W = (w.alloc (.cells (ndCells 0 0 0 0).toArray 120)).setCells w.heap.size 0 r := ⟨_, rfl⟩
  rw [← hW] at S1 B1 hC
  replace hW := hid hW
  replace B1 := hid B1
  simp only [ndCells] at k194 L S1
  go_enter Tryz.func119, Tryz.ntmps119
  go_wp2_with (first | (refine wpList_load_run L (by rfl) (by rfl) (by rfl) ?_) | (refine wpList_store_run S1 (by rfl) (by rfl) (by rfl) (by rfl) ?_))
  refine bodyPost_ret (results_blk rfl B1.out rfl Tryz.underlying120 rfl (by rw [hl]; kernel_rfl)) rfl ?_
  exact ⟨rfl, hC.out⟩
/-- The change goes on: what it wrote. -/
theorem TxA.step {w w' : World} {FF FD : Nat → Prop} {f p q bt bh : Nat} {zs : List Int} {X : FX} {N : Nat} {R : Nat → Prop} {t gn go gc bd bp : Nat} {T T' : TX} (h : TxA w FF FD f p q bt bh zs X N R t gn go gc bd bp T) (hc : Chg (Mt t gn bd bp) w w')
    (h1 : Blk w' t 244 (txC f (foM T'.m) (some ⟨gn, go, none⟩) gc bd bp)) (h2 : Sl w' 120 8 (some ⟨gn, go, none⟩) 32 gc (tab 256 (ndsV T'.ns)) (some gn)) (h3 : ∀ i, i < 32 → NdAt w' R (T'.ns i)) (h4 : ∀ i, i < 32 → NdOk (T'.ns i))
    (h5 : MpAt w' Tryz.prog 3 bd 40 T'.dt) (h6 : ∀ k, (T'.dt k).isSome = true → 1 ≤ k ∧ k ≤ 32) (h7 : ∀ k v, T'.dt k = some v → v = .bool true) (h8 : MpAt w' Tryz.prog 3 bp 80 (secM T'.pu)) (h9 : ∀ k s, T'.pu k = some s → SecAt w' R s)
    (h10 : ∀ k, (T'.pu k).isSome = true → (1 ≤ k ∧ k ≤ 4) ∨ (37 ≤ k ∧ k < 53 + (T'.m : Int))) (h11 : T'.m ≤ 8) : TxA w' FF FD f p q bt bh zs X N R t gn go gc bd bp T' :=
  ⟨h.fs.chg hc h.dj, h1, h2, h3, h4, h5, h6, h7, h8, h9, h10, h11, h.new, h.old, h.ne, h.nr, h.rin, fun k hk => h.rup k (hk.imp (fun h => h) (fun h => Nat.le_trans hc.size h))⟩
theorem TxA.pts' {w w' : World} {FF FD : Nat → Prop} {f p q bt bh : Nat} {zs : List Int} {X : FX} {N : Nat} {R : Nat → Prop} {t gn go gc bd bp : Nat} {T : TX} (h : TxA w FF FD f p q bt bh zs X N R t gn go gc bd bp T) (hc : Chg (Mt t gn bd bp) w w') {d : Nd} (hd : NdAt w R d) : NdAt w' R d := hd.chg hc (fun g _ hg => h.nr g hg)
theorem TxA.sec' {w w' : World} {FF FD : Nat → Prop} {f p q bt bh : Nat} {zs : List Int} {X : FX} {N : Nat} {R : Nat → Prop} {t gn go gc bd bp : Nat} {T : TX} (h : TxA w FF FD f p q bt bh zs X N R t gn go gc bd bp T) (hc : Chg (Mt t gn bd bp) w w') {d : Sec} (hd : SecAt w R d) : SecAt w' R d := hd.chg hc (fun g _ hg => h.nr g hg)
theorem one_mt {t gn bd bp k : Nat} (h : Mt t gn bd bp k) : ∀ i, One k i → Mt t gn bd bp i := fun i hi => by rw [show i = k from hi]; exact h
def TX.set (T : TX) (k : Nat) (d : Nd) : TX := ⟨updN T.ns k d, T.m, updM T.dt ((k : Int) + 1) (some (.bool true)), T.pu⟩
theorem TxA.setNd {w w1 w2 : World} {FF FD : Nat → Prop} {f p q bt bh : Nat} {zs : List Int} {X : FX} {N : Nat} {R : Nat → Prop} {t gn go gc bd bp : Nat} {T : TX} (h : TxA w FF FD f p q bt bh zs X N R t gn go gc bd bp T) {k : Nat} (hk : k < 32) {d : Nd} (hd : NdAt w R d) (hok : NdOk d)
    (h1 : Sl w1 120 8 (some ⟨gn, go, none⟩) 32 gc (over_ (tab 256 (ndsV T.ns)) (k * 8) d.row) (some gn)) (c1 : Chg (One gn) w w1) (n : Nat) (h2 : MpAt w2 Tryz.prog 3 bd n (updM T.dt ((k : Int) + 1) (some (.bool true)))) (c2 : Chg (One bd) w1 w2) :
    TxA w2 FF FD f p q bt bh zs X N R t gn go gc bd bp (T.set k d) ∧ Chg (Mt t gn bd bp) w w2 := by
  have hne := h.ne
  have C : Chg (Mt t gn bd bp) w w2 := (c1.mono (fun i _ hi => one_mt (Or.inr (.inl rfl)) i hi)).trans c2 (fun i _ hi => one_mt (Or.inr (.inr (.inl rfl))) i hi)
  refine ⟨h.step C ((h.blk.chg c1 (fun hh => hne.1 hh)).chg c2 (fun hh => hne.2.1 hh)) ?_ (fun i hi => ?_) (fun i hi => ?_) ?_ (fun j hj => ?_) (fun j v hj => ?_) ((h.put.chg c1 (fun hh => hne.2.2.2.2.1 hh.symm)).chg c2 (fun hh => hne.2.2.2.2.2 hh.symm)) (fun j s hj => h.sec' C (h.psec j s hj)) h.pkey h.mle, C⟩
  · rw [nds_over _ hk] at h1
    exact h1.chg c2 (fun g hg hh => by injection hg with hg; exact hne.2.2.2.1 (hg.trans hh))
  · show NdAt _ _ (updN T.ns k d i)
    unfold updN
    split
    · exact h.pts' C hd
    · exact h.pts' C (h.pts i hi)
  · show NdOk (updN T.ns k d i)
    unfold updN
    split
    · exact hok
    · exact h.nok i hi
  · exact (h2.small (t := 242) (e := 4) Tryz.underlying3 Tryz.underlying242 1 32 (fun j hj => by
      unfold updM at hj
      split at hj
      · omega
      · have := h.dkey j hj; omega)).mono (by omega)
  · have hj' : (updM T.dt ((k : Int) + 1) (some (.bool true)) j).isSome = true := hj
    unfold updM at hj'
    split at hj'
    · omega
    · exact h.dkey j hj'
  · have hj' : updM T.dt ((k : Int) + 1) (some (.bool true)) j = some v := hj
    unfold updM at hj'
    split at hj'
    · injection hj' with hj'; exact hj'.symm
    · exact h.dval j v hj'
set_option maxRecDepth 100000 in
set_option maxHeartbeats 2000000 in
theorem fset_ok {w : World} {FF FD : Nat → Prop} {f p q bt bh : Nat} {zs : List Int} {X : FX} {N : Nat} {R : Nat → Prop} {t gn go gc bd bp : Nat} {T : TX} (h : TxA w FF FD f p q bt bh zs X N R t gn go gc bd bp T) (k : Nat) (hk : k < 32) (i : Int) (hi : i = (k : Int) + 1) (d : Nd) (hd : NdAt w R d) (hok : NdOk d) :
    Calls Tryz.prog 120 #[.pointer (some ⟨t, 0, none⟩), .int .i64 i, .agg d.row.toArray] w fun e w' => e = .returned (.tuple #[]) ∧ TxA w' FF FD f p q bt bh zs X N R t gn go gc bd bp (T.set k d) ∧ Chg (Mt t gn bd bp) w w' := by
  subst hi
  obtain ⟨r, hr⟩ : ∃ r, r = d.row := ⟨_, rfl⟩
  have hl : r.length = 8 := by rw [hr, Nd.row_len]
  have h1 : ∀ u ∈ r, u.oneCell' = true := by rw [hr]; exact Nd.row_one _
  rw [← hr]
  have C0 : Chg Nil w (w.alloc (.cells r.toArray 120)).drew := ((Chg.refl Nil w).alloc _).drew
  have h0 := h.nil C0
  have k194 := h0.c194
  have LB := load_blk (P := Tryz.prog) (ty := 120) (Blk.new w 120 r).drew Tryz.underlying120 rfl (by rw [hl]; kernel_rfl)
  have BX := Blk.new w 120 r
  obtain ⟨V, hV⟩ : ∃ V, V = w.alloc (.cells r.toArray 120) := ⟨_, rfl⟩
  rw [← hV] at C0 h0 k194 LB BX
  obtain ⟨P1, P2⟩ := h0.nodes.putRow (k := k) (vs := r) hk hl
  have S2 : (storeCells ⟨gn, go + k * 8, none⟩ r).run Tryz.prog V.drew = .ok () (V.drew.setCells gn (go + k * 8) r) :=
    run_storeCells_cells gn (go + k * 8) r 0 V.drew (fun j hj => (P2 j (by omega)).1) (fun j hj => (P2 j (by omega)).2) h1
  obtain ⟨W, hW⟩ : ∃ W, W = V.drew.setCells gn (go + k * 8) r := ⟨_, rfl⟩
  have hW1 := setCells_chg V.drew gn (go + k * 8) r (One gn) rfl
  rw [← hW] at S2 P1 hW1
  have k195 : W.cell? ⟨t, 195, none⟩ = some (.map (some bd)) := (Blk.chg h0.blk hW1 (fun hh => h.ne.1 hh)).cell (193 + 2) |>.trans (txC_tail _ _ (foM_len _) _ _ _ _ 2)
  have k194W : W.cell? ⟨t, 194, none⟩ = some (.slice (some ⟨gn, go, none⟩) 32 gc) := (Blk.chg h0.blk hW1 (fun hh => h.ne.1 hh)).cell (193 + 1) |>.trans (txC_tail _ _ (foM_len _) _ _ _ _ 1)
  have LBW := load_blk (P := Tryz.prog) (ty := 120) (BX.drew.chg hW1 (fun hh => by have := h.lt.2.1; rw [show w.heap.size = gn from hh] at this; omega)) Tryz.underlying120 rfl (by rw [hl]; kernel_rfl)
  have M1 := h0.dirt.chg hW1 (fun hh => h.ne.2.2.2.1 hh.symm)
  have HF := hid (fun w2 n => h0.setNd (w1 := W) (w2 := w2) hk (hd.chg C0 (fun _ _ _ h => h)) hok (by rw [← hr]; exact P1) hW1 n)
  have hwf : (Lit.int .i64 ((k : Int) + 1)).wf = true := wf_key (by omega) (by omega)
  replace M1 := hid M1
  replace hW := hid hW
  replace hV := hid hV
  replace hr := hid hr
  have i1 : (k : Int) < 32 := by omega
  have e1 : IntKind.i64.wrap ((k : Int) + 1 - 1) = (k : Int) := by rw [Int.add_sub_cancel]; exact IntWalk.i64_in _ (by omega)
  have e2 : IntKind.i64.wrap (k : Int) = (k : Int) := IntWalk.i64_in _ (by omega)
  replace C0 := hid C0
  clear h0 h hd hok P1 P2 hW1
  go_enter Tryz.func120, Tryz.ntmps120
  go_upto_region 1 with fail
  rw [← hV.out]
  refine wp_region_held_drew (S := fun w' => w'.cell? ⟨t, 194, none⟩ = some (.slice (some ⟨gn, go, none⟩) 32 gc) ∧ (Instr.loadAt 120 (.pointer (some ⟨w.heap.size, 0, none⟩))).run Tryz.prog w' = .ok (.agg r.toArray) w') (by kernel_rfl) ⟨k194, LB⟩ (fun hSn => ?_)
  simp only [List.size_toArray, List.length_cons, List.length_nil, Nat.reduceAdd, Array.replicate_succ, Array.replicate_zero, List.push_toArray, List.nil_append, List.cons_append]
  refine wpAnyH_take (i := 0) (v := .pointer (some ⟨t, 0, none⟩)) rfl (by kernel_rfl) (by kernel_rfl) (by kernel_rfl) (fun _ _ _ h => h) (Or.inl ⟨by rfl, by (intro w hSw; (try dsimp only at hSw); go_simp)⟩) (by assumption) ?_
  try simp only [Act.put, List.setIfInBounds_toArray, List.set_cons_zero, List.set_cons_succ]
  refine wpAnyH_take (i := 1) (v := .pointer (some ⟨t, 0, none⟩)) rfl (by kernel_rfl) (by kernel_rfl) (by kernel_rfl) (fun _ _ _ h => h) (Or.inl ⟨by rfl, by (intro w hSw; (try dsimp only at hSw); go_simp)⟩) (by assumption) ?_
  try simp only [Act.put, List.setIfInBounds_toArray, List.set_cons_zero, List.set_cons_succ]
  refine wpAnyH_take (i := 2) (v := .pointer (some ⟨t, 194, none⟩)) rfl (by kernel_rfl) (by kernel_rfl) (by kernel_rfl) (fun _ _ _ h => h) (Or.inl ⟨by rfl, by (intro w hSw; (try dsimp only at hSw); go_simp)⟩) (by assumption) ?_
  try simp only [Act.put, List.setIfInBounds_toArray, List.set_cons_zero, List.set_cons_succ]
  refine wpAnyH_take (i := 3) (v := .slice (some ⟨gn, go, none⟩) 32 gc) rfl (by kernel_rfl) (by kernel_rfl) (by kernel_rfl) (fun _ _ _ h => h) (Or.inl ⟨by rfl, by (intro w hSw; (try dsimp only at hSw); go_simp)⟩) (by assumption) ?_
  try simp only [Act.put, List.setIfInBounds_toArray, List.set_cons_zero, List.set_cons_succ]
  refine wpAnyH_take (i := 4) (v := .int .i64 ((k : Int) + 1)) rfl (by kernel_rfl) (by kernel_rfl) (by kernel_rfl) (fun _ _ _ h => h) (Or.inl ⟨by rfl, by (intro w hSw; (try dsimp only at hSw); go_simp)⟩) (by assumption) ?_
  try simp only [Act.put, List.setIfInBounds_toArray, List.set_cons_zero, List.set_cons_succ]
  refine wpAnyH_take (i := 5) (v := .int .i64 (k : Int)) rfl (by kernel_rfl) (by kernel_rfl) (by kernel_rfl) (fun _ _ _ h => h) (Or.inl ⟨by rfl, by (intro w hSw; (try dsimp only at hSw); go_simp)⟩) (by assumption) ?_
  try simp only [Act.put, List.setIfInBounds_toArray, List.set_cons_zero, List.set_cons_succ]
  refine wpAnyH_take (i := 6) rfl (by kernel_rfl) (by kernel_rfl) (by kernel_rfl) (fun _ _ _ h => h) (yieldsIf_load_run (r := .agg r.toArray) (fun w hS => hS.2) (by rfl) (by rfl) (by rfl)) (by assumption) ?_
  try simp only [Act.put, List.setIfInBounds_toArray, List.set_cons_zero, List.set_cons_succ]
  refine wpAnyH_take (i := 7) (v := .pointer (some ⟨gn, go + k * 8, none⟩)) rfl (by kernel_rfl) (by kernel_rfl) (by kernel_rfl) (fun _ _ _ h => h) (Or.inl ⟨by rfl, by (intro w hSw; (try dsimp only at hSw); go_simp)⟩) (by assumption) ?_
  try simp only [Act.put, List.setIfInBounds_toArray, List.set_cons_zero, List.set_cons_succ]
  refine wpAnyH_ready (rs := [8]) (by kernel_rfl) (by simp) ?_
  refine AllReadyH.cons (o := { dst := none, op := Op.store 120 (Operand.tmp 13) (Operand.tmp 12), type := 0, pos := "txn.go:37", after := #[{ on := 7, ground := Ground.data }, { on := 6, ground := Ground.data }, { on := 0, ground := Ground.phase }, { on := 1, ground := Ground.phase }, { on := 2, ground := Ground.phase }, { on := 3, ground := Ground.phase }, { on := 4, ground := Ground.phase }, { on := 5, ground := Ground.phase }, { on := 6, ground := Ground.phase }], guard := none }) rfl (fun K hK => ?_) AllReadyH.nil
  go_simp
  refine hK.out _ _ ⟨k194W, LBW⟩ (fun hSn => ?_)
  clear hK K
  refine wpAnyH_done (by kernel_rfl) ?_ _
  clear k194 k194W LB LBW S2 e1 e2
  go_wp2_with (at_mapUpdate; refine wpList_store _ (by rfl) _ _ _ 242 (by rfl) Tryz.underlying3 Tryz.underlying242 bd 40 T.dt (by rfl) M1.out (by omega) ((k : Int) + 1) (.bool true) (by rfl) (by rfl) hwf ?_; intro w2 q1 q2; have H2 := hid (HF.out _ _ q1 q2); clear q1 q2)
  go_end0
  exact ⟨rfl, H2.out.1, (C0.out.mono (fun _ _ h => h.elim)).trans H2.out.2 (fun _ _ h => h)⟩
end Go.Proofs.YtdcbagmgflcemaaGreatDoor
namespace Go.Proofs.YtdcbagmgflcemaaGreatDoor
open Go.ChangeShapes Go.WideShapes Go.ChangeAt Go.RowKit
set_option linter.unusedVariables false
/-- Is a sector in a set? -/
def hasB (bs : List Int) (n : Nat) : Bool := bits BinOp.and IntKind.u8 (bs.getD (n / 8) 0 / 2 ^ (n % 8)) 1 == 1
theorem hasN_all {m : Nat} (hm : m ≤ 8) : (hasN (16 + m)).all (fun x => decide (0 ≤ x) && decide (x < 256)) = true ∧ (List.range 62).all (fun n => decide (n < 37) || decide (53 + m < n) || (hasB (hasN (16 + m)) n == decide (n < 53 + m)) && (!(decide (n % 8 = 0) && ((hasN (16 + m)).getD (n / 8) 0 == 255)) || decide (n + 8 ≤ 53 + m))) = true := by
  obtain rfl | rfl | rfl | rfl | rfl | rfl | rfl | rfl | rfl : m = 0 ∨ m = 1 ∨ m = 2 ∨ m = 3 ∨ m = 4 ∨ m = 5 ∨ m = 6 ∨ m = 7 ∨ m = 8 := by omega
  all_goals exact ⟨by kernel_rfl, by kernel_rfl⟩
theorem hasN_byte {m : Nat} (hm : m ≤ 8) (i : Nat) : 0 ≤ (hasN (16 + m)).getD i 0 ∧ (hasN (16 + m)).getD i 0 < 256 := by
  have h := (hasN_all hm).1
  rw [List.all_eq_true] at h
  by_cases hi : i < (hasN (16 + m)).length
  · have := h _ (List.getElem_mem hi)
    rw [List.getD_eq_getElem?_getD, List.getElem?_eq_getElem hi]
    simpa using this
  · rw [List.getD_eq_getElem?_getD, List.getElem?_eq_none (by omega)]
    exact ⟨by decide, by decide⟩
theorem hasN_row {m n : Nat} (hm : m ≤ 8) (h1 : 37 ≤ n) (h2 : n ≤ 53 + m) : hasB (hasN (16 + m)) n = decide (n < 53 + m) ∧ (n % 8 = 0 → (hasN (16 + m)).getD (n / 8) 0 = 255 → n + 8 ≤ 53 + m) := by
  have h := (hasN_all hm).2
  rw [List.all_eq_true] at h
  have := h n (List.mem_range.2 (by omega))
  rw [decide_eq_false (by omega), decide_eq_false (by omega)] at this
  simp only [Bool.false_or, Bool.and_eq_true, beq_iff_eq, Bool.or_eq_true, Bool.not_eq_true', decide_eq_true_eq, Bool.and_eq_false_iff, decide_eq_false_iff_not] at this
  refine ⟨this.1, fun h3 h4 => ?_⟩
  rcases this.2 with (h5 | h5) | h5
  · exact absurd h3 h5
  · rw [h4] at h5; cases h5
  · exact h5
set_option maxRecDepth 100000 in
theorem has_ok (w : World) (bs : List Int) (hb : bs.length = 32) (n : Nat) (hn : n < 256) (hx : 0 ≤ bs.getD (n / 8) 0 ∧ bs.getD (n / 8) 0 < 256) :
    Calls Tryz.prog 263 #[.agg (bys bs).toArray, .int .i64 n] w fun e w' => e = .returned (.bool (hasB bs n)) ∧ Chg Nil w w' := by
  have hd : n / 8 < 32 := by omega
  have B0 := Blk.new w 111 (bys bs)
  have k0 : (w.alloc (.cells (bys bs).toArray 111)).cell? ⟨w.heap.size, n / 8, none⟩ = some (.int .u8 (bs.getD (n / 8) 0)) := by
    rw [B0.cell, ints_get _ _ (by omega)]
    simp [List.getD, show n / 8 < bs.length by omega]
  unfold hasB
  generalize bs.getD (n / 8) 0 = x at k0 hx
  obtain ⟨hx1, hx2⟩ := hx
  go_enter Tryz.func263, Tryz.ntmps263
  go_wp2
  go_ret
  exact ⟨rfl, (Chg.refl Nil w).alloc _⟩
theorem or_zero {x : Int} (h1 : 0 ≤ x) (h2 : x < 256) : bits BinOp.or IntKind.u8 0 x = x := by
  have h : (List.range 256).all (fun n => bits BinOp.or IntKind.u8 0 (n : Int) == (n : Int)) = true := by kernel_rfl
  rw [List.all_eq_true] at h
  have := h x.toNat (List.mem_range.2 (by omega))
  rw [beq_iff_eq, Int.toNat_of_nonneg h1] at this
  exact this
set_option maxRecDepth 100000 in
set_option maxHeartbeats 1000000 in
theorem first_ok (w : World) (m : Nat) (hm : m ≤ 8) :
    Calls Tryz.prog 262 #[.agg (bys (hasN (16 + m))).toArray, .int .i64 37, .int .i64 256] w fun e w' => e = .returned (.tuple #[.int .i64 ((53 + m : Nat) : Int), .int .i64 0]) ∧ Chg Nil w w' := by
  have hb := hasN_len (16 + m)
  have HB := hid (fun i => hasN_byte hm i)
  have HR := hid (fun n h1 h2 => hasN_row (n := n) hm h1 h2)
  obtain ⟨bs, hbs⟩ : ∃ bs, bs = hasN (16 + m) := ⟨_, rfl⟩
  rw [← hbs] at hb HB HR ⊢
  replace hbs := hid hbs
  have B0 := hid (Blk.new w 111 (bys bs))
  have HH := hid (fun w n hn => has_ok w bs hb n hn (HB.out _))
  go_enter Tryz.func262, Tryz.ntmps262
  go_wp2
  go_loopw [8] (fun i wr => ∃ n : Nat, 37 ≤ n ∧ n ≤ 53 + m ∧ i = .int .i64 n ∧ Hid (Blk wr w.heap.size 111 (bys bs)) ∧ Hid (Chg Nil w wr)) (fun i _ => 100 - (intOf i).toNat)
  case atStart => exact ⟨37, by omega, by omega, rfl, B0.out, (Chg.refl Nil w).alloc _⟩
  case round =>
    obtain ⟨n, h1, h2, rfl, hB, hC⟩ := hrel
    have hlt : (n : Int) < 256 := by omega
    have k0 : wr.cell? ⟨w.heap.size, n / 8, none⟩ = some (.int .u8 (bs.getD (n / 8) 0)) := by
      rw [hB.out.cell, ints_get _ _ (by omega)]
      simp [List.getD, show n / 8 < bs.length by omega]
    obtain ⟨hr1, hr2⟩ := HR.out n h1 h2
    have L := load_blk (P := Tryz.prog) (ty := 111) hB.out Tryz.underlying111 rfl (by rw [ints_length, hb]; kernel_rfl)
    have HH2 := HH.out wr n (by omega)
    by_cases hA : n % 8 = 0 ∧ bs.getD (n / 8) 0 = 255
    · have h8 := hr2 hA.1 hA.2
      have t1 : ((n : Int) % 8 == 0) = true := by rw [beq_iff_eq]; omega
      rw [hA.2] at k0
      clear hr1 hr2 hA HH2 L
      go_wp2
      go_roundw
      case rel => exact ⟨n + 8, by omega, by omega, by go_num, hB, hC⟩
      case measure => simp [intOf]; omega
    · have t0 : ((n : Int) % 8 == 0) = decide (n % 8 = 0) := by
        rw [Bool.eq_iff_iff, beq_iff_eq, decide_eq_true_eq]; omega
      have t2 : n % 8 = 0 → (bs.getD (n / 8) 0 == 255) = false := fun hh => by rw [beq_eq_false_iff_ne]; exact fun hh2 => hA ⟨hh, hh2⟩
      rw [hr1] at HH2
      generalize bs.getD (n / 8) 0 = x at k0 t2
      by_cases hn0 : n % 8 = 0
      · have t3 := t2 hn0
        have t1 : ((n : Int) % 8 == 0) = true := by rw [t0, decide_eq_true hn0]
        clear t0 t2 hr1 hr2 hA hn0
        by_cases hlt2 : n < 53 + m
        · rw [decide_eq_true hlt2] at HH2
          replace HH2 := hid HH2
          go_wp2_with (first | (refine wpList_load_run L (by rfl) (by rfl) (by rfl) ?_) | (go_at_call 263; refine HH2.out.mono ?_; rintro e w2 ⟨rfl, c2⟩; replace c2 := hid c2))
          go_roundw
          case rel => exact ⟨n + 1, by omega, by omega, by go_num, hB.out.chg c2.out (fun h => h), hC.out.trans c2.out (fun _ _ h => h)⟩
          case measure => simp [intOf]; omega
        · rw [decide_eq_false hlt2] at HH2
          replace HH2 := hid HH2
          have hnm : n = 53 + m := by omega
          replace hnm := hid hnm
          go_wp2_with (first | (refine wpList_load_run L (by rfl) (by rfl) (by rfl) ?_) | (go_at_call 263; refine HH2.out.mono ?_; rintro e w2 ⟨rfl, c2⟩; replace c2 := hid c2))
          go_ret2
          exact ⟨by rw [hnm.out]; rfl, hC.out.trans c2.out (fun _ _ h => h)⟩
      · have t1 : ((n : Int) % 8 == 0) = false := by rw [t0, decide_eq_false hn0]
        clear t0 t2 hr1 hr2 hA hn0 k0
        by_cases hlt2 : n < 53 + m
        · rw [decide_eq_true hlt2] at HH2
          replace HH2 := hid HH2
          go_wp2_with (first | (refine wpList_load_run L (by rfl) (by rfl) (by rfl) ?_) | (go_at_call 263; refine HH2.out.mono ?_; rintro e w2 ⟨rfl, c2⟩; replace c2 := hid c2))
          go_roundw
          case rel => exact ⟨n + 1, by omega, by omega, by go_num, hB.out.chg c2.out (fun h => h), hC.out.trans c2.out (fun _ _ h => h)⟩
          case measure => simp [intOf]; omega
        · rw [decide_eq_false hlt2] at HH2
          replace HH2 := hid HH2
          have hnm : n = 53 + m := by omega
          replace hnm := hid hnm
          go_wp2_with (first | (refine wpList_load_run L (by rfl) (by rfl) (by rfl) ?_) | (go_at_call 263; refine HH2.out.mono ?_; rintro e w2 ⟨rfl, c2⟩; replace c2 := hid c2))
          go_ret2
          exact ⟨by rw [hnm.out]; rfl, hC.out.trans c2.out (fun _ _ h => h)⟩
/-- The first k bytes of a row, then bytes 0. -/
def upB (bs : List Int) (k : Nat) : List Int := bs.take k ++ List.replicate (32 - k) 0
theorem upB_len {bs : List Int} {k : Nat} (hb : bs.length = 32) (hk : k ≤ 32) : (upB bs k).length = 32 := by
  unfold upB
  rw [List.length_append, List.length_take, List.length_replicate]
  omega
theorem upB_set {bs : List Int} {k : Nat} (hb : bs.length = 32) (hk : k < 32) : (upB bs k).set k (bs.getD k 0) = upB bs (k + 1) := by
  unfold upB
  have e : bs.take (k + 1) = bs.take k ++ [bs.getD k 0] := take_one (by omega)
  rw [List.set_append_right _ _ (by rw [List.length_take]; omega), e, List.length_take, show k - min k bs.length = 0 by omega, show 32 - k = (32 - (k + 1)) + 1 by omega, List.replicate_succ, List.set_cons_zero, List.append_assoc]
  rfl
theorem upB_at {bs : List Int} {k : Nat} (hb : bs.length = 32) (hk : k < 32) : (bys (upB bs k))[k]? = some (.int .u8 0) := by
  rw [ints_get _ _ (by rw [upB_len hb (by omega)]; exact hk)]
  congr 2
  unfold upB
  rw [List.getElem_append_right (by rw [List.length_take]; omega)]
  simp
set_option maxRecDepth 100000 in
set_option maxHeartbeats 1000000 in
theorem join_ok (w : World) (bs : List Int) (hb : bs.length = 32) (hx : ∀ i, 0 ≤ bs.getD i 0 ∧ bs.getD i 0 < 256) :
    Calls Tryz.prog 311 #[.agg (bys (List.replicate 32 0)).toArray, .agg (bys bs).toArray] w fun e w' => e = .returned (.agg (bys bs).toArray) ∧ Chg Nil w w' := by
  have HX := hid hx
  clear hx
  obtain ⟨z, hz⟩ : ∃ z, z = bys (List.replicate 32 0) := ⟨_, rfl⟩
  rw [← hz]
  have B1 := hid ((Blk.new w 111 z).alloc (.cells (bys bs).toArray 111))
  have B2 : Hid (Blk ((w.alloc (.cells z.toArray 111)).alloc (.cells (bys bs).toArray 111)) (w.heap.size + 1) 111 (bys bs)) := by
    have := Blk.new (w.alloc (.cells z.toArray 111)) 111 (bys bs)
    rw [alloc_size] at this
    exact hid this
  have hz0 : Hid (z = bys (upB bs 0)) := hid (by rw [hz]; rfl)
  replace hz := hid hz
  obtain ⟨V, hV⟩ : ∃ V, V = (w.alloc (.cells z.toArray 111)).alloc (.cells (bys bs).toArray 111) := ⟨_, rfl⟩
  rw [← hV] at B1 B2
  have CV : Hid (Chg Nil w V) := hid (by rw [hV]; exact ((Chg.refl Nil w).alloc _).alloc _)
  have zV : V.heap.size = w.heap.size + 2 := by rw [hV]; simp
  have B3 := Blk.new V 111 (zr 32)
  have CV2 : Hid (Chg Nil w (V.alloc (.cells (zr 32).toArray 111))) := hid (CV.out.alloc _)
  rw [zV] at B3
  obtain ⟨V2, hV2⟩ : ∃ V2, V2 = V.alloc (.cells (zr 32).toArray 111) := ⟨_, rfl⟩
  have B1' := B1.out.alloc (.cells (zr 32).toArray 111)
  have B2' := B2.out.alloc (.cells (zr 32).toArray 111)
  rw [← hV2] at B3 CV2 B1' B2'
  have zV2 : Hid (V2.heap.size = w.heap.size + 3) := hid (by rw [hV2, alloc_size, zV])
  rw [hz0.out] at B1'
  replace B1' := hid B1'
  replace B2' := hid B2'
  replace B3 := hid B3
  replace zV := hid zV
  go_enter Tryz.func311, Tryz.ntmps311
  go_wp2
  go_loopw [6] (fun i wr => ∃ k : Nat, k ≤ 32 ∧ i = .int .i64 k ∧ Hid (Blk wr w.heap.size 111 (bys (upB bs k))) ∧ Hid (Blk wr (w.heap.size + 1) 111 (bys bs)) ∧ Hid (Blk wr (w.heap.size + 2) 111 (zr 32)) ∧ Hid (Chg Nil w wr)) (fun i _ => 32 - (intOf i).toNat)
  case atStart =>
    refine ⟨0, by omega, rfl, ?_, ?_, ?_, ?_⟩
    · have := B1'.out; rw [hV2, hV] at this; exact this
    · have := B2'.out; rw [hV2, hV] at this; exact this
    · have := B3.out; rw [hV2, hV] at this; exact this
    · have := CV2.out; rw [hV2, hV] at this; exact this
  case round =>
    obtain ⟨k, hk, rfl, hA, hB, hD, hC⟩ := hrel
    by_cases hlt : k < 32
    · have k1 : wr.cell? ⟨w.heap.size, k, none⟩ = some (.int .u8 0) := by rw [hA.out.cell, upB_at hb hlt]
      have k2 : wr.cell? ⟨w.heap.size + 1, k, none⟩ = some (.int .u8 (bs.getD k 0)) := by
        rw [hB.out.cell, ints_get _ _ (by omega)]
        simp [List.getD, show k < bs.length by omega]
      have k3 := hA.out.frozen k
      have e1 := or_zero (HX.out k).1 (HX.out k).2
      have BN : Hid (Blk (wr.setCell ⟨w.heap.size, k, none⟩ (.int .u8 (bs.getD k 0))) w.heap.size 111 (bys (upB bs (k + 1)))) := by
        have := hA.out.set k (.int .u8 (bs.getD k 0))
        have e : (bys (upB bs k)).set k (.int .u8 (bs.getD k 0)) = bys (upB bs (k + 1)) := by
          rw [← upB_set hb hlt]; simp [ints, List.map_set]
        rw [e] at this
        exact hid this
      generalize bs.getD k 0 = x at k2 e1 BN
      go_wp2
      go_region
      go_wp2
      go_roundw
      case rel => exact ⟨k + 1, by omega, by go_num, BN.out.drew, ((hB.out.far (p := ⟨w.heap.size, k, none⟩) (by show w.heap.size + 1 ≠ w.heap.size; omega) _)).drew, ((hD.out.far (p := ⟨w.heap.size, k, none⟩) (by show w.heap.size + 2 ≠ w.heap.size; omega) _)).drew, (hC.out.setCell (p := ⟨w.heap.size, k, none⟩) (.inr (Nat.le_refl _)) _).drew⟩
      case measure => simp [intOf]; omega
    · have hk32 : k = 32 := by omega
      subst hk32
      have e : upB bs 32 = bs := by unfold upB; rw [List.take_of_length_le (by omega)]; simp
      have hA' := hA.out
      rw [e] at hA'
      have L1 := load_blk (P := Tryz.prog) (ty := 111) hA' Tryz.underlying111 rfl (by rw [ints_length, hb]; kernel_rfl)
      obtain ⟨S1, S2⟩ := store_blk (P := Tryz.prog) (ty := 111) hD.out (vs := bys bs) (by rw [ints_length, hb]; rfl) (by rw [ints_length, hb]; kernel_rfl) (ints_one _ _)
      have hCf := hid (hC.out.one (.inr (by omega)) (setCells_chg wr (w.heap.size + 2) 0 (bys bs) (One (w.heap.size + 2)) rfl))
      replace S2 := hid S2
      clear hA' e hlt
      go_wp2_with (first | (refine wpList_load_run L1 (by rfl) (by rfl) (by rfl) ?_) | (refine wpList_store_run S1 (by rfl) (by rfl) (by rfl) (by rfl) ?_))
      refine bodyPost_ret (results_blk rfl S2.out rfl Tryz.underlying111 rfl (by rw [ints_length, hb]; kernel_rfl)) rfl ?_
      exact ⟨rfl, hCf.out⟩
end Go.Proofs.YtdcbagmgflcemaaGreatDoor
namespace Go.Proofs.YtdcbagmgflcemaaGreatDoor
open Go.ChangeShapes Go.WideShapes Go.ChangeAt Go.RowKit
set_option linter.unusedVariables false
set_option linter.unusedSimpArgs false
/-- What has been joined when k trees have been looked at. -/
def tkB (m k : Nat) : List Int := if k = 0 then List.replicate 32 0 else hasN (16 + m)
theorem tkB_len (m k : Nat) : (tkB m k).length = 32 := by
  unfold tkB
  split
  · simp
  · exact hasN_len _
set_option maxRecDepth 100000 in
set_option maxHeartbeats 2000000 in
theorem taken_ok (w : World) (m : Nat) (hm : m ≤ 8) :
    Calls Tryz.prog 261 #[.agg (foM m).toArray] w fun e w' => e = .returned (.agg (bys (hasN (16 + m))).toArray) ∧ Chg Nil w w' := by
  have HT := hid (fun w k hk => there_ok w (foM m) foT (foM_fo m) k hk)
  have HJ := hid (fun w => join_ok w (hasN (16 + m)) (hasN_len _) (fun i => hasN_byte hm i))
  have hl := foM_len m
  have hh := foM_has m
  obtain ⟨fo, hfo⟩ : ∃ fo, fo = foM m := ⟨_, rfl⟩
  rw [← hfo] at hl hh HT ⊢
  replace hfo := hid hfo
  obtain ⟨V, hV⟩ : ∃ V, V = ((w.alloc (.cells fo.toArray 115)).alloc (.cells (zr 32).toArray 111)).alloc (.cells (zr 32).toArray 111) := ⟨_, rfl⟩
  have B1 : Blk V w.heap.size 115 fo := by rw [hV]; exact ((Blk.new w _ fo).alloc _).alloc _
  have B2 : Blk V (w.heap.size + 1) 111 (zr 32) := by
    have := (Blk.new (w.alloc (.cells fo.toArray 115)) 111 (zr 32)).alloc (.cells (zr 32).toArray 111)
    rw [alloc_size] at this
    rw [hV]; exact this
  have B3 : Blk V (w.heap.size + 1 + 1) 111 (bys (tkB m 0)) := by
    have := Blk.new ((w.alloc (.cells fo.toArray 115)).alloc (.cells (zr 32).toArray 111)) 111 (zr 32)
    rw [alloc_size, alloc_size] at this
    rw [hV]; exact this
  have CV : Chg Nil w V := by rw [hV]; exact (((Chg.refl Nil w).alloc _).alloc _).alloc _
  replace B1 := hid B1
  replace B2 := hid B2
  replace B3 := hid B3
  replace CV := hid CV
  replace hV := hid hV
  replace hh := hid hh
  go_enter Tryz.func261, Tryz.ntmps261
  go_wp2
  go_loopw [5] (fun i wr => ∃ k : Nat, k ≤ 4 ∧ i = .int .i64 k ∧ Hid (Blk wr w.heap.size 115 fo) ∧ Hid (Blk wr (w.heap.size + 1) 111 (zr 32)) ∧ Hid (Blk wr (w.heap.size + 1 + 1) 111 (bys (tkB m k))) ∧ Hid (Chg Nil w wr)) (fun i _ => 4 - (intOf i).toNat)
  case atStart =>
    refine ⟨0, by omega, rfl, ?_, ?_, ?_, ?_⟩
    · have := B1.out; rw [hV.out] at this; exact this
    · have := B2.out; rw [hV.out] at this; exact this
    · have := B3.out; rw [hV.out] at this; exact this
    · have := CV.out; rw [hV.out] at this; exact this
  case round =>
    obtain ⟨k, hk, rfl, hA, hB, hD, hC⟩ := hrel
    by_cases hlt : k < 4
    · have LF := load_blk (P := Tryz.prog) (ty := 115) hA.out Tryz.underlying115 rfl (by rw [hl]; kernel_rfl)
      by_cases hk0 : k = 0
      · subst hk0
        have HT0 := hid (HT.out wr 0 (by omega))
        go_upto_region 6 with (first | (refine wpList_load_run LF (by rfl) (by rfl) (by rfl) ?_) | (go_at_call 114; refine HT0.out.mono ?_; rintro e w2 ⟨rfl, c2⟩; have A2 := hid (hA.out.chg c2 (fun h => h)); have Z2 := hid (hB.out.chg c2 (fun h => h)); have D2 := hid (hD.out.chg c2 (fun h => h)); have C2 := hid (hC.out.trans c2 (fun _ _ h => h)); clear c2))
        clear LF HT0
        refine wp_region_held_drew (S := fun w' => Hid (Blk w' w.heap.size 115 fo)) (by kernel_rfl) A2 (fun hSn => ?_)
        simp only [List.size_toArray, List.length_cons, List.length_nil, Nat.reduceAdd, Array.replicate_succ, Array.replicate_zero, List.push_toArray, List.nil_append, List.cons_append]
        refine wpAnyH_take (i := 1) (v := .int .i64 0) rfl (by kernel_rfl) (by kernel_rfl) (by kernel_rfl) (fun _ _ _ h => h) (Or.inl ⟨by rfl, by (intro w hSw; (try dsimp only at hSw); go_simp)⟩) (by assumption) ?_
        try simp only [Act.put, List.setIfInBounds_toArray, List.set_cons_zero, List.set_cons_succ]
        refine wpAnyH_take (i := 2) (v := .pointer (some ⟨w.heap.size, 0, none⟩)) rfl (by kernel_rfl) (by kernel_rfl) (by kernel_rfl) (fun _ _ _ h => h) (Or.inl ⟨by rfl, by (intro w hSw; (try dsimp only at hSw); go_simp)⟩) (by assumption) ?_
        try simp only [Act.put, List.setIfInBounds_toArray, List.set_cons_zero, List.set_cons_succ]
        refine wpAnyH_take (i := 3) (v := .pointer (some ⟨w.heap.size, 16, none⟩)) rfl (by kernel_rfl) (by kernel_rfl) (by kernel_rfl) (fun _ _ _ h => h) (Or.inl ⟨by rfl, by (intro w hSw; (try dsimp only at hSw); go_simp)⟩) (by assumption) ?_
        try simp only [Act.put, List.setIfInBounds_toArray, List.set_cons_zero, List.set_cons_succ]
        refine wpAnyH_take (i := 4) rfl (by kernel_rfl) (by kernel_rfl) (by kernel_rfl) (fun _ _ _ h => h) (yieldsIf_load_run (r := .agg (bys (hasN (16 + m))).toArray) (fun w hS => by have := load_part (P := Tryz.prog) (ty := 111) (lo := 16) (n := 32) hS.out (by omega) Tryz.underlying111 rfl (by kernel_rfl); rwa [hh.out] at this) (by rfl) (by rfl) (by rfl)) (by assumption) ?_
        try simp only [Act.put, List.setIfInBounds_toArray, List.set_cons_zero, List.set_cons_succ]
        refine wpAnyH_ready (rs := [0]) (by kernel_rfl) (by simp) ?_
        refine AllReadyH.cons (o := { dst := some 11, op := Op.load 111 (Operand.tmp 3), type := 111, pos := "snap.go:45", after := #[], guard := none }) rfl (fun K hK => ?_) AllReadyH.nil
        have LZ := load_blk (P := Tryz.prog) (ty := 111) D2.out.drew Tryz.underlying111 rfl (by rw [ints_length, tkB_len]; kernel_rfl)
        refine step_load_run LZ (by rfl) (by rfl) (by rfl) ?_
        refine hK.out _ _ hSn (fun hSn => ?_)
        clear hK K LZ
        try simp only [Act.put, List.setIfInBounds_toArray, List.set_cons_zero, List.set_cons_succ]
        refine wpAnyH_ready (rs := [5]) (by kernel_rfl) (by simp) ?_
        refine AllReadyH.cons (o := { dst := some 16, op := Op.call { callee := Callee.value (Operand.func 311), args := #[Operand.tmp 11, Operand.tmp 15], argTypes := #[111, 111] }, type := 111, pos := "snap.go:45", after := #[{ on := 0, ground := Ground.data }, { on := 4, ground := Ground.data }], guard := none }) rfl (fun K hK => ?_) AllReadyH.nil
        go_simp
        go_at_call 311
        refine (HJ.out _).mono ?_
        rintro e w3 ⟨rfl, c3⟩
        refine hK.out _ _ (hSn.out.chg c3 (fun h => h)) (fun hSn => ?_)
        clear hK K
        try simp only [Act.put, List.setIfInBounds_toArray, List.set_cons_zero, List.set_cons_succ]
        obtain ⟨S1, S2, S3⟩ := store_part (P := Tryz.prog) (ty := 111) (lo := 0) (vs := bys (hasN (16 + m))) (D2.out.drew.chg c3 (fun h => h)) (by rw [ints_length, ints_length, tkB_len, hasN_len]; omega) (by rw [ints_length, hasN_len]; kernel_rfl) (ints_one _ _)
        rw [over_whole (by rw [ints_length, ints_length, tkB_len, hasN_len])] at S2
        have FA := hid (hSn.out.chg S3 (fun hh => by have : w.heap.size = w.heap.size + 1 + 1 := hh; omega))
        have FB := hid (((Z2.out.drew).chg c3 (fun h => h)).chg S3 (fun hh => by have : w.heap.size + 1 = w.heap.size + 1 + 1 := hh; omega))
        have FC := hid ((C2.out.drew.trans c3 (fun _ _ h => h)).one (.inr (by omega)) S3)
        have FD : Hid (Blk (w3.setCells (w.heap.size + 1 + 1) 0 (bys (hasN (16 + m)))) (w.heap.size + 1 + 1) 111 (bys (tkB m (0 + 1)))) := hid (by unfold tkB; rw [if_neg (by omega)]; exact S2)
        generalize w3.setCells (w.heap.size + 1 + 1) 0 (bys (hasN (16 + m))) = W at S1 FA FB FC FD
        clear S2 S3 c3 A2 Z2 D2 C2
        refine wpAnyH_ready (rs := [6]) (by kernel_rfl) (by simp) ?_
        refine AllReadyH.cons (o := { dst := none, op := Op.store 111 (Operand.tmp 3) (Operand.tmp 16), type := 0, pos := "snap.go:45", after := #[{ on := 5, ground := Ground.data }, { on := 5, ground := Ground.chain }, { on := 0, ground := Ground.phase }, { on := 1, ground := Ground.phase }, { on := 2, ground := Ground.phase }, { on := 3, ground := Ground.phase }, { on := 4, ground := Ground.phase }, { on := 5, ground := Ground.phase }], guard := none }) rfl (fun K hK => ?_) AllReadyH.nil
        refine step_store_run S1 (by rfl) (by rfl) (by rfl) (by rfl) ?_
        refine hK.out _ _ FA (fun hSn => ?_)
        clear hK K S1
        refine wpAnyH_done (by kernel_rfl) ?_ _
        try simp only [Act.put, List.setIfInBounds_toArray, List.set_cons_zero, List.set_cons_succ]
        go_wp2
        go_roundw
        case rel => exact ⟨1, by omega, by go_num, FA, FB, FD, FC⟩
        case measure => simp [intOf]
      · have HTk := HT.out wr k hlt
        rw [show foT k = false by unfold foT; exact decide_eq_false hk0] at HTk
        replace HTk := hid HTk
        have hD' : Hid (Blk wr (w.heap.size + 1 + 1) 111 (bys (tkB m (k + 1)))) := by
          have := hD.out
          unfold tkB at this ⊢
          rw [if_neg hk0] at this
          rw [if_neg (by omega)]
          exact hid this
        go_wp2_with (first | (refine wpList_load_run LF (by rfl) (by rfl) (by rfl) ?_) | (go_at_call 114; refine HTk.out.mono ?_; rintro e w2 ⟨rfl, c2⟩; replace c2 := hid c2))
        go_roundw
        case rel => exact ⟨k + 1, by omega, by go_num, hA.out.chg c2.out (fun h => h), hB.out.chg c2.out (fun h => h), hD'.out.chg c2.out (fun h => h), hC.out.trans c2.out (fun _ _ h => h)⟩
        case measure => simp [intOf]; omega
    · have hD' : Blk wr (w.heap.size + 1 + 1) 111 (bys (hasN (16 + m))) := by
        have := hD.out
        unfold tkB at this
        rwa [if_neg (by omega)] at this
      have L1 := load_blk (P := Tryz.prog) (ty := 111) hD' Tryz.underlying111 rfl (by rw [ints_length, hasN_len]; kernel_rfl)
      obtain ⟨S1, S2⟩ := store_blk (P := Tryz.prog) (ty := 111) hB.out (vs := bys (hasN (16 + m))) (by rw [ints_length, hasN_len, zr_len]) (by rw [ints_length, hasN_len]; kernel_rfl) (ints_one _ _)
      have hCf := hid (hC.out.one (.inr (by omega)) (setCells_chg wr (w.heap.size + 1) 0 (bys (hasN (16 + m))) (One (w.heap.size + 1)) rfl))
      replace S2 := hid S2
      clear hD'
      go_wp2_with (first | (refine wpList_load_run L1 (by rfl) (by rfl) (by rfl) ?_) | (refine wpList_store_run S1 (by rfl) (by rfl) (by rfl) (by rfl) ?_))
      refine bodyPost_ret (results_blk rfl S2.out rfl Tryz.underlying111 rfl (by rw [ints_length, hasN_len]; kernel_rfl)) rfl ?_
      exact ⟨rfl, hCf.out⟩
set_option maxRecDepth 100000 in
set_option maxHeartbeats 2000000 in
theorem shared_ok (w : World) (m : Nat) (i : Int) :
    Calls Tryz.prog 200 #[.agg (foM m).toArray, .int .i64 i] w fun e w' => e = .returned (.bool false) ∧ Chg Nil w w' := by
  have HT := hid (fun w k hk => there_ok w (foM m) foT (foM_fo m) k hk)
  have hl := foM_len m
  obtain ⟨fo, hfo⟩ : ∃ fo, fo = foM m := ⟨_, rfl⟩
  rw [← hfo] at hl HT ⊢
  replace hfo := hid hfo
  have B0 := hid (Blk.new w 115 fo)
  go_enter Tryz.func200, Tryz.ntmps200
  go_wp2
  go_loopw [5] (fun i wr => ∃ k : Nat, 1 ≤ k ∧ k ≤ 4 ∧ i = .int .i64 k ∧ Hid (Blk wr w.heap.size 115 fo) ∧ Hid (Chg Nil w wr)) (fun i _ => 4 - (intOf i).toNat)
  case atStart => exact ⟨1, by omega, by omega, rfl, B0.out, (Chg.refl Nil w).alloc _⟩
  case round =>
    obtain ⟨k, h1, h2, rfl, hA, hC⟩ := hrel
    by_cases hlt : k < 4
    · have LF := load_blk (P := Tryz.prog) (ty := 115) hA.out Tryz.underlying115 rfl (by rw [hl]; kernel_rfl)
      have HTk := HT.out wr k hlt
      rw [show foT k = false by unfold foT; exact decide_eq_false (by omega)] at HTk
      replace HTk := hid HTk
      go_wp2_with (first | (refine wpList_load_run LF (by rfl) (by rfl) (by rfl) ?_) | (go_at_call 114; refine HTk.out.mono ?_; rintro e w2 ⟨rfl, c2⟩; replace c2 := hid c2))
      go_roundw
      case rel => exact ⟨k + 1, by omega, by omega, by go_num, hA.out.chg c2.out (fun h => h), hC.out.trans c2.out (fun _ _ h => h)⟩
      case measure => simp [intOf]; omega
    · go_wp2
      go_ret
      exact ⟨rfl, hC.out⟩
end Go.Proofs.YtdcbagmgflcemaaGreatDoor
