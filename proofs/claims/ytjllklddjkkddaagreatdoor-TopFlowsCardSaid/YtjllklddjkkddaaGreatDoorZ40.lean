/- The kernel's calls about processes: an end, a fork, a wait. Conditions: what exit, fork and Wait answer · The kernel is asked, call by call. Conditions: a process that lives, and to which no signal came · kernel.Start on a new file system. Conditions: just that. -/
import Derived.Test.YtjllklddjkkddaaGreatDoorZ38
import Derived.Test.YtjllklddjkkddaaGreatDoorZ39
import Derived.Test.YtjllklddjkkddaaGreatDoorZ36
import Derived.Test.YtjllklddjkkddaaGreatDoorZ37
import Derived.Test.YtjllklddjkkddaaGreatDoorZ33
namespace Go.Proofs.YtjllklddjkkddaaGreatDoor
open Go.ChangeShapes Go.WideShapes Go.ChangeAt Go.RowKit
set_option linter.unusedVariables false
set_option maxRecDepth 100000 in
set_option maxHeartbeats 4000000 in
theorem kpexit_ok (w : World) (B : Nat) (U : Nat → Prop) (pk : Nat) (X X' : KX) (h : KAt w B U pk X) (q : Nat) (q2 : q ≤ 16) (ca cb cn : Int) (d : Value)
    (HX : ∀ w', Chg Nil w w' → Calls Tryz.prog 37 #[.pointer (some ⟨pk, 0, none⟩), .int .i64 (q : Int), .int .i64 ca] w' fun e w2 => e = .returned (.int .i64 0) ∧ KPost w' B U pk X' w2) :
    KCall 41 #[.pointer (some ⟨pk, 0, none⟩), .int .i64 (q : Int), .agg #[.int .i64 1, .int .i64 ca, .int .i64 cb, .int .i64 cn, .string ⟨#[]⟩, .string ⟨#[]⟩, d]] w B U pk (fun Y => Y = X') 0 0 0 [] := by
  obtain ⟨BA, BC⟩ := boxes2 w (clC 1 ca cb cn d)
  have CA : Chg Nil w ((w.alloc (.cells (clC 1 ca cb cn d).toArray 36)).alloc (.cells anZ.toArray 33)) := ((Chg.refl Nil w).alloc _).alloc _
  have hlt := h.lt
  have HP := HX _ CA
  have hbU : ¬ U (w.heap.size + 1) := fun hh => by have := hlt _ hh; omega
  have i0 : ¬ (q : Int) < 0 := by omega
  have i1 : (q : Int) < 17 := by omega
  replace HP := hid HP
  replace BA := hid BA
  replace BC := hid BC
  replace CA := hid CA
  replace hbU := hid hbU
  clear h hlt HX
  unfold KCall
  go_enter Tryz.func41, Tryz.ntmps41
  go_wp2_with fail
  refine HP.out.mono ?_
  rintro e w2 ⟨rfl, kp⟩
  have B2 := BC.out.chg (KPost.ch kp) hbU.out
  replace kp := hid kp
  replace B2 := hid B2
  clear HP
  go_wp2_with fail
  refine (kfail_ok w2 0).mono ?_
  rintro e w3 ⟨rfl, c3⟩
  have B3 := B2.out.chg c3 (fun h => h)
  have kp3 := kp.out.nil c3
  obtain ⟨W, S1, S2, S3⟩ := an_store B3 (vs := anC 0 0 0 (.slice none 0 0)) rfl rfl (anC_one _ _ _ _ rfl)
  have kw := hid (KPost.laid CA.out kp3 hbU.out (by omega) BC.out.lt S3)
  replace S2 := hid S2
  clear S3 B2 B3 kp kp3 c3
  go_wp2_with (refine wpList_store_run S1 (by rfl) (by rfl) (by rfl) (by rfl) ?_)
  refine bodyPost_ret (an_ret rfl S2.out rfl rfl) rfl ?_
  exact ⟨_, rfl, .of rfl kw.out⟩
set_option maxRecDepth 100000 in
set_option maxHeartbeats 4000000 in
theorem kpfork_ok (w : World) (B : Nat) (U : Nat → Prop) (pk : Nat) (X : KX) (XP : KX → Prop) (h : KAt w B U pk X) (ca cb cn : Int) (d : Value)
    (HX : ∀ w', Chg Nil w w' → Calls Tryz.prog 95 #[.pointer (some ⟨pk, 0, none⟩), .int .i64 1] w' fun e w2 => ∃ X', e = .returned (.agg (anC 0 2 0 (.slice none 0 0)).toArray) ∧ KPost w' B U pk X' w2 ∧ XP X') :
    KCall 41 #[.pointer (some ⟨pk, 0, none⟩), .int .i64 1, .agg #[.int .i64 2, .int .i64 ca, .int .i64 cb, .int .i64 cn, .string ⟨#[]⟩, .string ⟨#[]⟩, d]] w B U pk XP 0 2 0 [] := by
  obtain ⟨BA, BC⟩ := boxes2 w (clC 2 ca cb cn d)
  have CA : Chg Nil w ((w.alloc (.cells (clC 2 ca cb cn d).toArray 36)).alloc (.cells anZ.toArray 33)) := ((Chg.refl Nil w).alloc _).alloc _
  have hlt := h.lt
  have HP := HX _ CA
  have hbU : ¬ U (w.heap.size + 1) := fun hh => by have := hlt _ hh; omega
  replace HP := hid HP
  replace BA := hid BA
  replace BC := hid BC
  replace CA := hid CA
  replace hbU := hid hbU
  clear h hlt HX
  unfold KCall
  go_enter Tryz.func41, Tryz.ntmps41
  go_wp2_with fail
  refine HP.out.mono ?_
  rintro e w2 ⟨X', rfl, kp, hX⟩
  have B2 := BC.out.chg (KPost.ch kp) hbU.out
  obtain ⟨W, S1, S2, S3⟩ := an_store B2 (vs := anC 0 2 0 (.slice none 0 0)) rfl rfl (anC_one _ _ _ _ rfl)
  have kw := hid (KPost.laid CA.out kp hbU.out (by omega) BC.out.lt S3)
  replace S2 := hid S2
  replace hX := hid hX
  clear S3 B2 kp HP
  go_wp2_with (refine wpList_store_run S1 (by rfl) (by rfl) (by rfl) (by rfl) ?_)
  refine bodyPost_ret (an_ret rfl S2.out rfl rfl) rfl ?_
  exact ⟨_, rfl, .of hX.out kw.out⟩
set_option maxRecDepth 100000 in
set_option maxHeartbeats 4000000 in
theorem kpwait_ok (w : World) (B : Nat) (U : Nat → Prop) (pk : Nat) (X : KX) (h : KAt w B U pk X) (q : Nat) (q1 : 1 ≤ q) (q2 : q ≤ 16) (hs : (X.pl q).state = 1) (k : Nat) (hk : k < 17) (k1 : (X.pl k).state = 2) (k2 : (X.pl k).parent = q) (hb : ∀ j, j < k → ¬ ((X.pl j).state = 2 ∧ (X.pl j).parent = q)) (ca cb cn : Int) (d : Value) :
    KCall 41 #[.pointer (some ⟨pk, 0, none⟩), .int .i64 (q : Int), .agg #[.int .i64 4, .int .i64 ca, .int .i64 cb, .int .i64 cn, .string ⟨#[]⟩, .string ⟨#[]⟩, d]] w B U pk (fun Y => Y = { X with pl := updF X.pl k peZ }) 0 (k : Int) (X.pl k).status [] := by
  obtain ⟨BA, BC⟩ := boxes2 w (clC 4 ca cb cn d)
  have CA : Chg Nil w ((w.alloc (.cells (clC 4 ca cb cn d).toArray 36)).alloc (.cells anZ.toArray 33)) := ((Chg.refl Nil w).alloc _).alloc _
  have hlt := h.lt
  obtain ⟨V, hV⟩ : ∃ V, V = (w.alloc (.cells (clC 4 ca cb cn d).toArray 36)).alloc (.cells anZ.toArray 33) := ⟨_, rfl⟩
  have BA0 := BA.cell 0
  simp only [clC, List.getElem?_cons_zero] at BA0
  rw [← hV] at BA BC CA
  have hbU : ¬ U (w.heap.size + 1) := fun hh => by have := hlt _ hh; omega
  have i0 : ¬ (q : Int) < 0 := by omega
  have i1 : (q : Int) < 17 := by omega
  obtain ⟨p7, k7, lk, HP⟩ := (h.nil CA).pwait q q1 q2 hs k hk k1 k2 hb
  replace HP := hid (HP V (Chg.refl Nil V))
  replace BA := hid BA
  replace BC := hid BC
  replace CA := hid CA
  replace hbU := hid hbU
  replace hV := hid hV
  clear h hlt hs k1 k2 hb lk BA0
  unfold KCall
  go_enter Tryz.func41, Tryz.ntmps41
  go_upto_region 10 with fail
  have hV2 : (w.alloc (.cells #[.int .i64 4, .int .i64 ca, .int .i64 cb, .int .i64 cn, .string ⟨#[]⟩, .string ⟨#[]⟩, d] 36)).alloc (.cells #[.int .i64 0, .int .i64 0, .int .i64 0, .slice none 0 0, .slice none 0 0, .int .i64 0, .int .i64 0, .int .i64 0, .int .i64 0, .int .i64 0, .int .i64 0] 33) = V := hV.out.symm
  rw [hV2]
  replace hV2 := hid hV2
  go_wp2_with fail
  refine HP.out.mono ?_
  rintro e w2 ⟨rfl, kp⟩
  have B2 := BC.out.chg (KPost.ch kp) hbU.out
  obtain ⟨W, S1, S2, S3⟩ := an_store B2 (vs := anC 0 k (X.pl k).status (.slice none 0 0)) rfl rfl (anC_one _ _ _ _ rfl)
  have kw := hid (KPost.laid CA.out kp hbU.out (by omega) BC.out.lt S3)
  replace S2 := hid S2
  clear S3 B2 kp HP k7
  go_wp2_with (refine wpList_store_run S1 (by rfl) (by rfl) (by rfl) (by rfl) ?_)
  refine bodyPost_ret (an_ret rfl S2.out rfl rfl) rfl ?_
  exact ⟨_, rfl, .of rfl kw.out⟩
end Go.Proofs.YtjllklddjkkddaaGreatDoor
namespace Go.Proofs.YtjllklddjkkddaaGreatDoor
open Go.ChangeShapes Go.WideShapes Go.ChangeAt Go.RowKit
set_option linter.unusedVariables false
section
variable {w : World} {B pk : Nat} {U : Nat → Prop} {X : KX}
theorem ask_pipe (h : KAt w B U pk X) (q : Nat) (q1 : 1 ≤ q) (q2 : q ≤ 16) (hs : (X.pl q).state = 1) (s : Int) (ht : TsA X.ts q s) (hp : X.pipe = none) (d0 : X.fd q 0 = 0) (d1 : X.fd q 1 = 0) (n0 : (X.fl 0).n = 0) (n1 : (X.fl 1).n = 0) :
    KCall 5 #[.pointer (some ⟨pk, 0, none⟩), .int .i64 (q : Int), .agg #[.int .i64 10, .int .i64 0, .int .i64 0, .int .i64 0, .string ⟨#[]⟩, .string ⟨#[]⟩, .slice none 0 0]] w B U pk (fun Y => Y = { X with pipe := some (1, 1, []), fl := updF (updF X.fl 0 ⟨2, 1, 1, false, 0, 1⟩) 1 ⟨3, 1, 2, false, 0, 1⟩, fd := updD (updD X.fd q 0 1) q 1 2 }) 0 0 1 [] :=
  kask_ok w B U pk X _ h q q1 q2 hs s ht 10 0 0 0 0 0 1 _ [] fun w1 c1 => kdo_desc w1 B U pk X _ (h.nil c1) q 10 0 0 0 0 0 1 _ [] (by omega) fun w2 c2 => by
    refine (kdpipe_ok w2 B U pk X ((h.nil c1).nil c2) q q1 q2 hp d0 d1 n0 n1 0 0 0 _).mono ?_
    rintro e w3 ⟨rfl, hk⟩
    exact ⟨_, rfl, .of rfl hk⟩
theorem ask_close (h : KAt w B U pk X) (q : Nat) (q1 : 1 ≤ q) (q2 : q ≤ 16) (hs : (X.pl q).state = 1) (s : Int) (ht : TsA X.ts q s) (fdn kf : Nat) (hd : fdn < 8) (hk : kf < 32) (hf : X.fd q fdn = kf + 1) (kd id my nf : Int) (hfl : X.fl kf = ⟨kd, id, my, false, 0, nf⟩) (hn : (wrap64 (nf - 1) == 0) = false) :
    KCall 5 #[.pointer (some ⟨pk, 0, none⟩), .int .i64 (q : Int), .agg #[.int .i64 6, .int .i64 (fdn : Int), .int .i64 0, .int .i64 0, .string ⟨#[]⟩, .string ⟨#[]⟩, .slice none 0 0]] w B U pk (fun Y => Y = clX X q fdn kf) 0 0 0 [] :=
  kask_ok w B U pk X _ h q q1 q2 hs s ht 6 fdn 0 0 0 0 0 _ [] fun w1 c1 => kdo_desc w1 B U pk X _ (h.nil c1) q 6 fdn 0 0 0 0 0 _ [] (by omega) fun w2 c2 =>
    kdclose_ok w2 B U pk X ((h.nil c1).nil c2) q q1 q2 fdn kf hd hk hf kd id my nf hfl hn 0 0 _
theorem ask_read (h : KAt w B U pk X) (q : Nat) (q1 : 1 ≤ q) (q2 : q ≤ 16) (hs : (X.pl q).state = 1) (s : Int) (ht : TsA X.ts q s) (hf : X.fd q 0 = 1) (nf : Int) (hfl : X.fl 0 = ⟨2, 1, 1, false, 0, nf⟩) (v : Int) (bs : List Int) (hp : X.pipe = some (1, v, bs)) (n : Nat) (hn : n ≤ 256) (hw : n = 0 ∨ bs ≠ [] ∨ v = 0) :
    KCall 5 #[.pointer (some ⟨pk, 0, none⟩), .int .i64 (q : Int), .agg #[.int .i64 7, .int .i64 0, .int .i64 0, .int .i64 (n : Int), .string ⟨#[]⟩, .string ⟨#[]⟩, .slice none 0 0]] w B U pk (fun Y => Y = { X with pipe := some (1, v, bs.drop n) }) 0 ((min n bs.length : Nat) : Int) 0 (bs.take n) :=
  kask_ok w B U pk X _ h q q1 q2 hs s ht 7 0 0 n 0 _ 0 _ _ fun w1 c1 => kdo_desc w1 B U pk X _ (h.nil c1) q 7 0 0 n 0 _ 0 _ _ (by omega) fun w2 c2 =>
    kdread_ok w2 B U pk X _ ((h.nil c1).nil c2) q q1 q2 0 0 (by omega) (by omega) hf nf hfl 0 n 0 _ 0 _ _ fun w3 c3 => by
      refine (kread_ok w3 B U pk X (((h.nil c1).nil c2).nil c3) q v bs hp 0 0 n hn hw _ 0).mono ?_
      rintro e w4 ⟨a, c, G, rfl, hs, hk⟩
      exact ⟨_, rfl, _, a, c, G, rfl, by rw [List.length_take], by rw [List.length_take]; exact hs, hk⟩
theorem ask_none (h : KAt w B U pk X) (q : Nat) (q1 : 1 ≤ q) (q2 : q ≤ 16) (hs : (X.pl q).state = 1) (s : Int) (ht : TsA X.ts q s) (hf : X.fd q 0 = 1) (nf : Int) (hfl : X.fl 0 = ⟨2, 1, 1, false, 0, nf⟩) (v : Int) (hv : 0 < v) (hp : X.pipe = some (1, v, [])) (n : Nat) (hn0 : 0 < n) (hn : n ≤ 256) :
    KCall 5 #[.pointer (some ⟨pk, 0, none⟩), .int .i64 (q : Int), .agg #[.int .i64 7, .int .i64 0, .int .i64 0, .int .i64 (n : Int), .string ⟨#[]⟩, .string ⟨#[]⟩, .slice none 0 0]] w B U pk (fun Y => Y = X) 9 0 0 [] :=
  kask_ok w B U pk X _ h q q1 q2 hs s ht 7 0 0 n 9 0 0 _ _ fun w1 c1 => kdo_desc w1 B U pk X _ (h.nil c1) q 7 0 0 n 9 0 0 _ _ (by omega) fun w2 c2 =>
    kdread_ok w2 B U pk X _ ((h.nil c1).nil c2) q q1 q2 0 0 (by omega) (by omega) hf nf hfl 0 n 9 0 0 _ _ fun w3 c3 => by
      refine (kread_wait w3 B U pk X (((h.nil c1).nil c2).nil c3) q v hp hv 0 0 n hn0 hn _ 0).mono ?_
      rintro e w4 ⟨rfl, hk⟩
      exact ⟨_, rfl, .same rfl (((h.nil c1).nil c2).nil c3) hk⟩
theorem ask_write (h : KAt w B U pk X) (q : Nat) (q1 : 1 ≤ q) (q2 : q ≤ 16) (hs : (X.pl q).state = 1) (s : Int) (ht : TsA X.ts q s) (hf : X.fd q 1 = 2) (nf : Int) (hfl : X.fl 1 = ⟨3, 1, 2, false, 0, nf⟩) (bs : List Int) (hp : X.pipe = some (1, 1, bs)) (R : Nat → Prop) (da : Option Addr) (dl dc : Nat) (ds : List Int) (hds : Rd w R 1 da dl dc (bys ds)) (hd : dl ≤ 256) (hw : dl = 0 ∨ bs.length < 64) :
    KCall 5 #[.pointer (some ⟨pk, 0, none⟩), .int .i64 (q : Int), .agg #[.int .i64 8, .int .i64 1, .int .i64 0, .int .i64 0, .string ⟨#[]⟩, .string ⟨#[]⟩, .slice da dl dc]] w B U pk (fun Y => Y = { X with pipe := some (1, 1, bs ++ ds.take (min dl (64 - bs.length))) }) 0 ((min dl (64 - bs.length) : Nat) : Int) 0 [] :=
  kask_ok w B U pk X _ h q q1 q2 hs s ht 8 1 0 0 0 _ 0 _ _ fun w1 c1 => kdo_desc w1 B U pk X _ (h.nil c1) q 8 1 0 0 0 _ 0 _ _ (by omega) fun w2 c2 =>
    kdwrite_ok w2 B U pk X _ ((h.nil c1).nil c2) q q1 q2 1 1 (by omega) (by omega) hf nf hfl 0 0 0 _ 0 _ _ fun w3 c3 => by
      refine (kwrite_ok w3 B U pk X (((h.nil c1).nil c2).nil c3) q bs hp 1 0 0 R da dl dc ds (((hds.chg c1 (fun _ _ _ h => h)).chg c2 (fun _ _ _ h => h)).chg c3 (fun _ _ _ h => h)) hd hw).mono ?_
      rintro e w4 ⟨rfl, hk⟩
      exact ⟨_, rfl, .of rfl hk⟩
theorem ask_full (h : KAt w B U pk X) (q : Nat) (q1 : 1 ≤ q) (q2 : q ≤ 16) (hs : (X.pl q).state = 1) (s : Int) (ht : TsA X.ts q s) (hf : X.fd q 1 = 2) (nf : Int) (hfl : X.fl 1 = ⟨3, 1, 2, false, 0, nf⟩) (bs : List Int) (hp : X.pipe = some (1, 1, bs)) (hb : bs.length = 64) (da : Option Addr) (dl dc : Nat) (hd0 : 0 < dl) (hd : dl ≤ 256) :
    KCall 5 #[.pointer (some ⟨pk, 0, none⟩), .int .i64 (q : Int), .agg #[.int .i64 8, .int .i64 1, .int .i64 0, .int .i64 0, .string ⟨#[]⟩, .string ⟨#[]⟩, .slice da dl dc]] w B U pk (fun Y => Y = X) 9 0 0 [] :=
  kask_ok w B U pk X _ h q q1 q2 hs s ht 8 1 0 0 9 0 0 _ _ fun w1 c1 => kdo_desc w1 B U pk X _ (h.nil c1) q 8 1 0 0 9 0 0 _ _ (by omega) fun w2 c2 =>
    kdwrite_ok w2 B U pk X _ ((h.nil c1).nil c2) q q1 q2 1 1 (by omega) (by omega) hf nf hfl 0 0 9 0 0 _ _ fun w3 c3 => by
      refine (kwrite_wait w3 B U pk X (((h.nil c1).nil c2).nil c3) q bs hp hb 1 0 0 da dl dc hd0 hd).mono ?_
      rintro e w4 ⟨rfl, hk⟩
      exact ⟨_, rfl, .same rfl (((h.nil c1).nil c2).nil c3) hk⟩
theorem ask_proc {XP : KX → Prop} (h : KAt w B U pk X) (q : Nat) (q1 : 1 ≤ q) (q2 : q ≤ 16) (hs : (X.pl q).state = 1) (s : Int) (ht : TsA X.ts q s) (num n a b : Int) (hn : num = 1 ∨ num = 2 ∨ num = 4)
    (HP : ∀ w', Chg Nil w w' → KCall 41 #[.pointer (some ⟨pk, 0, none⟩), .int .i64 (q : Int), .agg #[.int .i64 num, .int .i64 0, .int .i64 0, .int .i64 0, .string ⟨#[]⟩, .string ⟨#[]⟩, .slice none 0 0]] w' B U pk XP n a b []) :
    KCall 5 #[.pointer (some ⟨pk, 0, none⟩), .int .i64 (q : Int), .agg #[.int .i64 num, .int .i64 0, .int .i64 0, .int .i64 0, .string ⟨#[]⟩, .string ⟨#[]⟩, .slice none 0 0]] w B U pk XP n a b [] :=
  kask_ok w B U pk X _ h q q1 q2 hs s ht num 0 0 0 n a b _ [] fun w1 c1 => kdo_proc w1 B U pk X _ (h.nil c1) q num 0 0 0 n a b _ [] hn fun w2 c2 => HP w2 (c1.trans c2 (fun _ _ h => h))
end
end Go.Proofs.YtjllklddjkkddaaGreatDoor
namespace Go.Proofs.YtjllklddjkkddaaGreatDoor
open Go.ChangeShapes Go.WideShapes Go.ChangeAt Go.RowKit
set_option linter.unusedVariables false
theorem kn_set {hd : Nat → Value} {ts : Nat → Nat → Value} {i : Nat} (hi : i < 8) (v : Value) : (tab 655 (knV hd ts)).set i v = tab 655 (knV (updH hd i v) ts) := by
  rw [tab_set (by omega)]
  refine tab_ext (fun j hj => ?_)
  unfold knV
  by_cases he : j = i
  · subst he
    rw [if_pos rfl, if_pos hi]
    unfold updH
    rw [if_pos rfl]
  · rw [if_neg he]
    split
    · unfold updH
      rw [if_neg he]
    · rfl
theorem one_ite {c : Prop} [Decidable c] {a b : Value} (ha : a.oneCell' = true) (hb : b.oneCell' = true) : (if c then a else b).oneCell' = true := by
  split
  · exact ha
  · exact hb
theorem SOk0 (n : Nat) (h1 : 1 ≤ n) (h2 : n ≤ 4) : SOk 0 ⟨n, 0, 0, []⟩ :=
  ⟨h1, h2, Int.le_refl _, Int.le_refl _, Int.le_refl _, Int.le_refl _, Nat.zero_le _, fun x hx => by cases hx⟩
set_option maxRecDepth 100000 in
set_option maxHeartbeats 4000000 in
theorem kstart_ok (w : World) (F : Nat → Prop) (p n m : Nat) (zs : List Int) (hD : DkAt w F p n zs m) (hn : 64 ≤ n) (hz : NewZ n zs) :
    Calls Tryz.prog 12 #[.int .i64 1, .int .i64 48, .int .i64 48, .pointer (some ⟨p, 0, none⟩)] w fun e w' => ∃ pk ts, e = .returned (.tuple #[.pointer (some ⟨pk, 0, none⟩), .int .i64 0]) ∧ KSt w.heap.size w' pk ⟨1, updF (fun _ => false) 1 true, none, ((SR.mk 1 0 0 []).doAdd 1 1 10).1, fun _ => flZ, fun _ _ => 0, updF (fun _ => peZ) 1 ⟨1, 0, 1, 0⟩, ts, true⟩ ∧ TsA ts 1 1 ∧ TsN ts 1 ∧ Chg Nil w w' := by
  have HK := hid (fun w' (hc : Chg Nil w w') => mount_ok w' F p n zs m (hD.nil hc) hn hz)
  clear hD hz
  go_enter Tryz.func12, Tryz.ntmps12
  go_wp2_with fail
  refine (pinew_ok w).mono ?_
  rintro e w1 ⟨rfl, P1, c1⟩
  replace P1 := hid P1
  go_wp2_with fail
  refine (wnew_ok 0 w1).mono ?_
  rintro e w2 ⟨FW, pw, rfl, W2, c2, gw⟩
  have C2 := c1.trans c2 (fun _ _ h => h)
  replace W2 := hid W2
  go_wp2_with fail
  refine (opnew_ok w2).mono ?_
  rintro e w3 ⟨rfl, O3, c3⟩
  have C3 := C2.trans c3 (fun _ _ h => h)
  replace O3 := hid O3
  go_wp2_with fail
  refine (prnew_ok w3).mono ?_
  rintro e w4 ⟨rfl, R4, c4⟩
  have C4 := hid (C3.trans c4 (fun _ _ h => h))
  replace R4 := hid R4
  clear C2 C3
  have KE : ((((Tryz.zeroCells74.setIfInBounds 0 (.int .i64 1)).setIfInBounds 3 (.pointer (some ⟨w.heap.size, 0, none⟩))).setIfInBounds 5 (.pointer (some ⟨pw, 0, none⟩))).setIfInBounds 6 (.pointer (some ⟨w2.heap.size, 0, none⟩))).setIfInBounds 7 (.pointer (some ⟨w3.heap.size, 0, none⟩)) = (tab 655 (knV (updH (updH (updH (updH (updH hdZ 0 (.int .i64 1)) 3 (.pointer (some ⟨w.heap.size, 0, none⟩))) 5 (.pointer (some ⟨pw, 0, none⟩))) 6 (.pointer (some ⟨w2.heap.size, 0, none⟩))) 7 (.pointer (some ⟨w3.heap.size, 0, none⟩))) (fun _ => tkZ))).toArray := by
    rw [kn_zero]
    simp only [List.setIfInBounds_toArray]
    rw [kn_set (by omega), kn_set (by omega), kn_set (by omega), kn_set (by omega), kn_set (by omega)]
  obtain ⟨hd1, hhd1⟩ : ∃ hd1, hd1 = (updH (updH (updH (updH (updH hdZ 0 (.int .i64 1)) 3 (.pointer (some ⟨w.heap.size, 0, none⟩))) 5 (.pointer (some ⟨pw, 0, none⟩))) 6 (.pointer (some ⟨w2.heap.size, 0, none⟩))) 7 (.pointer (some ⟨w3.heap.size, 0, none⟩))) := ⟨_, rfl⟩
  rw [← hhd1] at KE
  have K4 : KnAt (w4.alloc (.cells (tab 655 (knV hd1 (fun _ => tkZ))).toArray 74)) w4.heap.size hd1 (fun _ => tkZ) := Blk.new w4 _ _
  have C5 := hid (C4.out.alloc (.cells (tab 655 (knV hd1 (fun _ => tkZ))).toArray 74))
  have S4 := hid C4.out.size
  replace K4 := hid K4
  replace KE := hid KE
  replace hhd1 := hid hhd1
  go_wp2_with fail
  rw [KE.out]
  refine (snew_ok _ 1 (by omega) (by omega)).mono ?_
  rintro e w5 ⟨FR, pr, rfl, N5, c5, gr⟩
  have K5 := K4.out.chg c5 (fun h => h)
  have k4 := K5.h (i := 4) (by omega)
  have f4 := Blk.frozen K5 4
  have K6 := K5.setH (i := 4) (by omega) (.pointer (some ⟨pr, 0, none⟩))
  have dk : Chg (One w4.heap.size) w5 (w5.setCell ⟨w4.heap.size, 4, none⟩ (.pointer (some ⟨pr, 0, none⟩))) := (Chg.refl (One w4.heap.size) w5).setCell (p := ⟨w4.heap.size, 4, none⟩) (.inl (show One w4.heap.size w4.heap.size from rfl)) _
  have c45 : Chg Nil w4 w5 := ((Chg.refl Nil w4).alloc (.cells (tab 655 (knV hd1 (fun _ => tkZ))).toArray 74)).trans c5 (fun _ _ h => h)
  have c46 : Chg Nil w4 (w5.setCell ⟨w4.heap.size, 4, none⟩ (.pointer (some ⟨pr, 0, none⟩))) := c45.one (.inr (Nat.le_refl _)) dk
  have C6 := hid (C4.out.trans c46 (fun _ _ h => h))
  have P6 := hid (Blk.chg P1.out (((c2.trans c3 (fun _ _ h => h)).trans c4 (fun _ _ h => h)).trans c46 (fun _ _ h => h)) (fun h => h))
  have W6 := hid (W2.out.chg ((c3.trans c4 (fun _ _ h => h)).trans c46 (fun _ _ h => h)) (fun _ _ h => h))
  have O6 := hid (O3.out.chg (c4.trans c46 (fun _ _ h => h)) (fun h => h))
  have R6 := hid (R4.out.chg c46 (fun h => h))
  have grk : ∀ k, FR k → w4.heap.size < k := fun k hk => by
    rcases gr k hk with h | h
    · exact h.elim
    · rw [alloc_size] at h; omega
  have N6 := hid (N5.chg dk (fun k hk hh => by have := grk k hk; rw [show k = w4.heap.size from hh] at this; omega))
  have sz1 := c1.size
  have sz2 := c2.size
  have sz3 := c3.size
  have sz4 := c4.size
  have ltP := P1.out.lt
  have ltW := W2.out.lt
  have ltO := Blk.lt O3.out
  have ltR := Blk.lt R4.out
  have ltK := Blk.lt K5
  have gwk : ∀ k, FW k → w1.heap.size ≤ k := fun k hk => by
    rcases gw k hk with h | h
    · exact h.elim
    · exact h
  have c5s := c5.size
  have dks := dk.size
  have SEP : Sep w.heap.size (w5.setCell ⟨w4.heap.size, 4, none⟩ (.pointer (some ⟨pr, 0, none⟩))).heap.size (kFs w4.heap.size w2.heap.size w3.heap.size 0 false Nil (One w.heap.size) FR FW) := by
    have ltN := N5.lt
    refine ⟨fun i F k hi hk => ?_, fun i j F G hne hi hj k hF hG => ?_⟩
    · match i with
      | 0 => injection hi with hi; subst hi; rw [show k = w4.heap.size from hk]; omega
      | 1 => injection hi with hi; subst hi; exact hk.elim
      | 2 => injection hi with hi; subst hi; rw [show k = w.heap.size from hk]; omega
      | 3 => injection hi with hi; subst hi; have := grk k hk; have := ltN k hk; omega
      | 4 => injection hi with hi; subst hi; have := gwk k hk; have := ltW k hk; omega
      | 5 => injection hi with hi; subst hi; rw [show k = w2.heap.size from hk]; omega
      | 6 => injection hi with hi; subst hi; rw [show k = w3.heap.size from hk]; omega
      | 7 => injection hi with hi; subst hi; exact absurd hk.1 (by decide)
      | i + 8 => simp [kFs] at hi
    · have key : ∀ (i : Nat) (F : Nat → Prop), (kFs w4.heap.size w2.heap.size w3.heap.size 0 false Nil (One w.heap.size) FR FW)[i]? = some F → F k → (i = 0 ∧ k = w4.heap.size) ∨ (i = 2 ∧ k = w.heap.size) ∨ (i = 3 ∧ w4.heap.size < k) ∨ (i = 4 ∧ w1.heap.size ≤ k ∧ k < w2.heap.size) ∨ (i = 5 ∧ k = w2.heap.size) ∨ (i = 6 ∧ k = w3.heap.size) := fun i F hi hk => by
        match i with
        | 0 => injection hi with hi; subst hi; exact .inl ⟨rfl, hk⟩
        | 1 => injection hi with hi; subst hi; exact hk.elim
        | 2 => injection hi with hi; subst hi; exact .inr (.inl ⟨rfl, hk⟩)
        | 3 => injection hi with hi; subst hi; exact .inr (.inr (.inl ⟨rfl, grk k hk⟩))
        | 4 => injection hi with hi; subst hi; exact .inr (.inr (.inr (.inl ⟨rfl, gwk k hk, ltW k hk⟩)))
        | 5 => injection hi with hi; subst hi; exact .inr (.inr (.inr (.inr (.inl ⟨rfl, hk⟩))))
        | 6 => injection hi with hi; subst hi; exact .inr (.inr (.inr (.inr (.inr ⟨rfl, hk⟩))))
        | 7 => injection hi with hi; subst hi; exact absurd hk.1 (by decide)
        | i + 8 => simp [kFs] at hi
      have h1 := key i F hi hF
      have h2 := key j G hj hG
      omega
  replace SEP := hid SEP
  replace K6 := hid K6
  have hk4 : w.heap.size ≤ w4.heap.size := by omega
  clear dk c45 c46 gr grk sz1 sz2 sz3 sz4 ltP ltW ltO ltR ltK gwk c5s dks c1 c2 c3 c4 c5 N5 K5 P1 W2 O3 R4 gw K4 KE C5 C4 S4
  generalize w4.heap.size = pk at *
  generalize w2.heap.size = po at *
  generalize w3.heap.size = pc at *
  go_wp2_with fail
  generalize w5.setCell ⟨pk, 4, none⟩ (.pointer (some ⟨pr, 0, none⟩)) = V6 at *
  clear k4 f4
  refine (spbnew_ok V6).mono ?_
  rintro e w7 ⟨FM, pm, rfl, M7, hpm, c7, gm⟩
  have K7 := K6.out.chg c7 (fun h => h)
  have k1 := K7.h (i := 1) (by omega)
  have f1 := Blk.frozen K7 1
  have K8 := K7.setH (i := 1) (by omega) (.pointer (some ⟨pm, 0, none⟩))
  have lk : pk < V6.heap.size := Blk.lt K6.out
  have gmk : ∀ k, FM k → V6.heap.size ≤ k := fun k hk => by
    rcases gm k hk with h | h
    · exact h.elim
    · exact h
  have d8 : Chg (One pk) w7 (w7.setCell ⟨pk, 1, none⟩ (.pointer (some ⟨pm, 0, none⟩))) := (Chg.refl (One pk) w7).setCell (p := ⟨pk, 1, none⟩) (.inl (show One pk pk from rfl)) _
  have S7 := SEP.out.upd (N' := w7.heap.size) (F' := FM) 1 (F := Nil) rfl (fun k hk => .inr (gmk k hk)) M7.lt c7.size C6.out.size
  have M8 := hid (M7.chg d8 (fun k hk hh => by have := gmk k hk; rw [show k = pk from hh] at this; omega))
  have djk : ∀ (i : Nat) (F : Nat → Prop), i ≠ 0 → (kFs pk po pc 0 false FM (One w.heap.size) FR FW)[i]? = some F → Dj F (One pk) := fun i F hne hi => S7.dj i 0 hi rfl hne
  have P8 := hid ((P6.out.chg c7 (fun h => h)).chg d8 (djk 2 _ (by omega) rfl w.heap.size rfl))
  have N8 := hid ((N6.out.chg c7 (fun _ _ h => h)).chg d8 (djk 3 _ (by omega) rfl))
  have W8 := hid ((W6.out.chg c7 (fun _ _ h => h)).chg d8 (djk 4 _ (by omega) rfl))
  have O8 := hid ((O6.out.chg c7 (fun h => h)).chg d8 (djk 5 _ (by omega) rfl po rfl))
  have R8 := hid ((R6.out.chg c7 (fun h => h)).chg d8 (djk 6 _ (by omega) rfl pc rfl))
  have C8 := hid ((C6.out.trans c7 (fun _ _ h => h)).one (.inr hk4) d8)
  have S8 := hid (S7.grow d8.size)
  replace K8 := hid K8
  clear K7 M7 S7 djk d8 c7 gm gmk lk P6 N6 W6 O6 R6 C6 SEP K6
  go_wp2_with fail
  generalize w7.setCell ⟨pk, 1, none⟩ (.pointer (some ⟨pm, 0, none⟩)) = V8 at *
  clear k1 f1
  refine (HK.out V8 C8.out).mono ?_
  rintro e w9 ⟨f, q, a, c, G, bt, bh, rfl, N9, c9, _, _⟩
  clear N9
  have K9 := K8.out.chg c9 (fun h => h)
  have k2 := K9.h (i := 2) (by omega)
  have f2 := Blk.frozen K9 2
  have K10 := K9.setH (i := 2) (by omega) (.pointer (some ⟨f, 0, none⟩))
  have d10 : Chg (One pk) w9 (w9.setCell ⟨pk, 2, none⟩ (.pointer (some ⟨f, 0, none⟩))) := (Chg.refl (One pk) w9).setCell (p := ⟨pk, 2, none⟩) (.inl (show One pk pk from rfl)) _
  have S9 := S8.out.grow c9.size
  have djk : ∀ (i : Nat) (F : Nat → Prop), i ≠ 0 → (kFs pk po pc 0 false FM (One w.heap.size) FR FW)[i]? = some F → Dj F (One pk) := fun i F hne hi => S9.dj i 0 hi rfl hne
  have K11 : KnAt (w9.setCell ⟨pk, 2, none⟩ (.pointer (some ⟨f, 0, none⟩))) pk (hdK pm f w.heap.size pr pw po pc) (fun _ => tkZ) := K10.hdEq (fun i hi => by
    rw [hhd1.out]
    obtain rfl | rfl | rfl | rfl | rfl | rfl | rfl | rfl : i = 0 ∨ i = 1 ∨ i = 2 ∨ i = 3 ∨ i = 4 ∨ i = 5 ∨ i = 6 ∨ i = 7 := by omega
    all_goals rfl)
  have lP := P8.out.lt
  have C10 := hid ((C8.out.trans c9 (fun _ _ h => h)).one (.inr hk4) d10)
  have h10 : KSy (w9.setCell ⟨pk, 2, none⟩ (.pointer (some ⟨f, 0, none⟩))) w.heap.size pk pm f w.heap.size pr pw po pc 0 FM (One w.heap.size) FR FW ⟨0, fun _ => false, none, ⟨1, 0, 0, []⟩, fun _ => flZ, fun _ _ => 0, updF (fun _ => peZ) 1 ⟨1, 0, 1, 0⟩, fun _ => tkZ, false⟩ :=
    ⟨K11, (M8.out.chg c9 (fun _ _ h => h)).chg d10 (djk 1 _ (by omega) rfl), ⟨(P8.out.chg c9 (fun h => h)).chg d10 (djk 2 _ (by omega) rfl w.heap.size rfl), rfl, fun k hk => by rw [show k = w.heap.size from hk]; have := c9.size; have := d10.size; omega⟩, (N8.out.chg c9 (fun _ _ h => h)).chg d10 (djk 3 _ (by omega) rfl), (W8.out.chg c9 (fun _ _ h => h)).chg d10 (djk 4 _ (by omega) rfl), (O8.out.chg c9 (fun h => h)).chg d10 (djk 5 _ (by omega) rfl po rfl), (R8.out.chg c9 (fun h => h)).chg d10 (djk 6 _ (by omega) rfl pc rfl), fun hh => (by cases hh), fun hh => (by cases hh), S9.grow d10.size, C10.out.size⟩
  clear K10 K11 djk S9 K9 d10 c9 M8 P8 N8 W8 O8 R8 C8 S8 K8 lP HK hhd1
  have k1 : (w9.setCell ⟨pk, 2, none⟩ (.pointer (some ⟨f, 0, none⟩))).cell? ⟨pk, 1, none⟩ = some (.pointer (some ⟨pm, 0, none⟩)) := h10.kn.h (i := 1) (by omega)
  replace h10 := hid h10
  go_wp2_with fail
  generalize w9.setCell ⟨pk, 2, none⟩ (.pointer (some ⟨f, 0, none⟩)) = V10 at *
  clear k2 f2
  refine (spbmake_ok V10 FM pm 0 _ h10.out.sp (by omega) 1 (by omega) (by omega) rfl (fun j h1 h2 => absurd h1 (by omega))).mono ?_
  rintro e w11 ⟨rfl, FM', s11, c11, g11⟩
  have h11 := h10.out.upSp s11 c11 g11
  have C11 := C10.out.trans c11 (fun k hk hF => by have := h10.out.ge 1 rfl k hF; omega)
  have k4 : w11.cell? ⟨pk, 4, none⟩ = some (.pointer (some ⟨pr, 0, none⟩)) := h11.kn.h (i := 4) (by omega)
  have m0 : w11.cell? ⟨pk, 46, none⟩ = some (.int .i64 0) := h11.kn.t (q := 1) (j := 0) (by omega) (by omega)
  have n0 := Blk.frozen h11.kn 46
  have m10 : w11.cell? ⟨pk, 56, none⟩ = some (.int .i64 0) := h11.kn.t (q := 1) (j := 10) (by omega) (by omega)
  have n10 := Blk.frozen h11.kn 56
  have m11 : w11.cell? ⟨pk, 57, none⟩ = some (.int .i64 0) := h11.kn.t (q := 1) (j := 11) (by omega) (by omega)
  have n11 := Blk.frozen h11.kn 57
  have m12 : w11.cell? ⟨pk, 58, none⟩ = some (.int .i64 0) := h11.kn.t (q := 1) (j := 12) (by omega) (by omega)
  have n12 := Blk.frozen h11.kn 58
  have m13 : w11.cell? ⟨pk, 59, none⟩ = some (.slice none 0 0) := h11.kn.t (q := 1) (j := 13) (by omega) (by omega)
  have n13 := Blk.frozen h11.kn 59
  have m14 : w11.cell? ⟨pk, 60, none⟩ = some (.int .i64 0) := h11.kn.t (q := 1) (j := 14) (by omega) (by omega)
  have n14 := Blk.frozen h11.kn 60
  have m15 : w11.cell? ⟨pk, 61, none⟩ = some (.int .i64 0) := h11.kn.t (q := 1) (j := 15) (by omega) (by omega)
  have n15 := Blk.frozen h11.kn 61
  have m16 : w11.cell? ⟨pk, 62, none⟩ = some (.int .i64 0) := h11.kn.t (q := 1) (j := 16) (by omega) (by omega)
  have n16 := Blk.frozen h11.kn 62
  have m17 : w11.cell? ⟨pk, 63, none⟩ = some (.slice none 0 0) := h11.kn.t (q := 1) (j := 17) (by omega) (by omega)
  have n17 := Blk.frozen h11.kn 63
  have A0 := KnAt.setT (q := 1) (j := 0) h11.kn (by omega) (by omega) (.int .i64 1)
  have A1 := KnAt.setT (q := 1) (j := 10) A0 (by omega) (by omega) (.int .i64 1)
  have A2 := KnAt.setT (q := 1) (j := 11) A1 (by omega) (by omega) (.int .i64 0)
  have A3 := KnAt.setT (q := 1) (j := 12) A2 (by omega) (by omega) (.int .i64 0)
  have A4 := KnAt.setT (q := 1) (j := 13) A3 (by omega) (by omega) (.slice none 0 0)
  have A5 := KnAt.setT (q := 1) (j := 14) A4 (by omega) (by omega) (.int .i64 127)
  have A6 := KnAt.setT (q := 1) (j := 15) A5 (by omega) (by omega) (.int .i64 0)
  have A7 := KnAt.setT (q := 1) (j := 16) A6 (by omega) (by omega) (.int .i64 0)
  have D := (((((((((Chg.refl (One pk) w11).setCell (p := ⟨pk, 46, none⟩) (.inl (show One pk pk from rfl)) (.int .i64 1)).setCell (p := ⟨pk, 56, none⟩) (.inl (show One pk pk from rfl)) (.int .i64 1)).setCell (p := ⟨pk, 57, none⟩) (.inl (show One pk pk from rfl)) (.int .i64 0)).setCell (p := ⟨pk, 58, none⟩) (.inl (show One pk pk from rfl)) (.int .i64 0)).setCell (p := ⟨pk, 59, none⟩) (.inl (show One pk pk from rfl)) (.slice none 0 0)).setCell (p := ⟨pk, 60, none⟩) (.inl (show One pk pk from rfl)) (.int .i64 127)).setCell (p := ⟨pk, 61, none⟩) (.inl (show One pk pk from rfl)) (.int .i64 0)).setCell (p := ⟨pk, 62, none⟩) (.inl (show One pk pk from rfl)) (.int .i64 0))
  have h12 := h11.upKn (ts := _) A7 D (fun hh => (by cases hh))
  have C12 := C11.one (.inr hk4) D
  have m17 : ((((((((w11.setCell ⟨pk, 46, none⟩ (.int .i64 1)).setCell ⟨pk, 56, none⟩ (.int .i64 1)).setCell ⟨pk, 57, none⟩ (.int .i64 0)).setCell ⟨pk, 58, none⟩ (.int .i64 0)).setCell ⟨pk, 59, none⟩ (.slice none 0 0)).setCell ⟨pk, 60, none⟩ (.int .i64 127)).setCell ⟨pk, 61, none⟩ (.int .i64 0)).setCell ⟨pk, 62, none⟩ (.int .i64 0)).cell? ⟨pk, 63, none⟩ = some (.slice none 0 0) := h12.kn.t (q := 1) (j := 17) (by omega) (by omega)
  have n17 := Blk.frozen h12.kn 63
  have k4' := h12.kn.h (i := 4) (by omega)
  have lk := Blk.lt h12.kn
  replace h12 := hid h12
  replace C12 := hid C12
  replace C11 := hid C11
  replace m17 := hid m17
  replace n17 := hid n17
  replace k4' := hid k4'
  replace lk := hid lk
  clear A0 A1 A2 A3 A4 A5 A6 A7 D h11 s11 c11 g11
  go_upto_region 18 with fail
  clear m0 n0 m10 n10 m11 n11 m12 n12 m13 n13 m14 n14 m15 n15 m16 n16 k4
  generalize ((((((((w11.setCell ⟨pk, 46, none⟩ (.int .i64 1)).setCell ⟨pk, 56, none⟩ (.int .i64 1)).setCell ⟨pk, 57, none⟩ (.int .i64 0)).setCell ⟨pk, 58, none⟩ (.int .i64 0)).setCell ⟨pk, 59, none⟩ (.slice none 0 0)).setCell ⟨pk, 60, none⟩ (.int .i64 127)).setCell ⟨pk, 61, none⟩ (.int .i64 0)).setCell ⟨pk, 62, none⟩ (.int .i64 0)) = U at *
  replace m17 := m17.out
  replace n17 := n17.out
  have k4 : U.cell? ⟨pk, 4, none⟩ = some (.pointer (some ⟨pr, 0, none⟩)) := k4'.out
  replace lk := lk.out
  clear k4'
  have A8 := KnAt.setT (q := 1) (j := 17) h12.out.kn (by omega) (by omega) (.slice (some ⟨U.heap.size, 0, none⟩) 1 1)
  have D8 : Chg (One pk) U (U.setCell ⟨pk, 63, none⟩ (.slice (some ⟨U.heap.size, 0, none⟩) 1 1)) := (Chg.refl (One pk) U).setCell (p := ⟨pk, 63, none⟩) (.inl (show One pk pk from rfl)) _
  have es : (U.setCell ⟨pk, 63, none⟩ (.slice (some ⟨U.heap.size, 0, none⟩) 1 1)).heap.size = U.heap.size := by simp [World.setCell]
  have h13 := (h12.out.upKn (ts := _) A8 D8 (fun hh => (by cases hh))).upCw (q := U.heap.size) (w' := (U.setCell ⟨pk, 63, none⟩ (.slice (some ⟨U.heap.size, 0, none⟩) 1 1)).alloc (.cells #[.int .i64 1] 3)) rfl (by rw [es]; exact Nat.le_refl _) ((Chg.refl Nil _).alloc _) (by
    have := Blk.new (U.setCell ⟨pk, 63, none⟩ (.slice (some ⟨U.heap.size, 0, none⟩) 1 1)) 3 [.int .i64 1]
    rwa [es] at this) rfl
  have C13 := hid ((C12.out.one (.inr hk4) D8).alloc (.cells #[.int .i64 1] 3))
  have HAD := hid (sadd_any _ FR pr _ h13.rn 0 (SOk0 1 (by omega) (by omega)) (by omega) (by show (0 : Nat) < 1000; omega) 1 1 10 (by omega) (by omega) rfl)
  replace h13 := hid h13
  clear A8 D8 es
  go_wp2_with fail
  refine HAD.out.mono ?_
  rintro e w14 ⟨rfl, FR', r14, c14, g14⟩
  have h14 := h13.out.upRn r14 c14 g14
  have C14 := C13.out.trans c14 (fun k hk hF => by have := h13.out.ge 3 rfl k hF; omega)
  have hr0 : ((SR.mk 1 0 0 []).doAdd 1 1 10).2 = 0 := by decide
  replace h14 := hid h14
  replace C14 := hid C14
  clear c14 g14 r14 HAD h13 C13
  rw [hr0]
  go_wp2
  go_ret2
  refine ⟨pk, _, rfl, ⟨_, _, _, _, _, _, _, _, _, _, _, _, h14.out⟩, ?_, ⟨rfl, rfl⟩, C14.out⟩
  refine ⟨rfl, fun j hj => ?_, rfl, fun j hj => ?_⟩
  · have hne : ∀ a, a < 18 → ¬ (19 + j = a) := fun a ha hh => by omega
    simp only [updT, show ¬ (19 + j = 17) by omega, show ¬ (19 + j = 16) by omega, show ¬ (19 + j = 15) by omega, show ¬ (19 + j = 14) by omega, show ¬ (19 + j = 13) by omega, show ¬ (19 + j = 12) by omega, show ¬ (19 + j = 11) by omega, show ¬ (19 + j = 10) by omega, show ¬ (19 + j = 0) by omega, and_false, if_false]
    unfold tkZ
    simp only [show ¬ (19 + j < 9) by omega, show ¬ (19 + j = 9) by omega, show ¬ (19 + j = 13) by omega, show ¬ (19 + j = 17) by omega, show ¬ (19 + j = 18) by omega, show ¬ (19 + j = 37) by omega, or_self, if_false]
  · unfold updT tkZ
    repeat (first | rfl | refine one_ite ?_ ?_)
end Go.Proofs.YtjllklddjkkddaaGreatDoor
