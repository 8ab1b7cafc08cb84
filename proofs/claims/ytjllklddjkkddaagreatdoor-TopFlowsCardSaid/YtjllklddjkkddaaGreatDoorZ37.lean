/- The kernel's calls about descriptors: reading of the pipe. Conditions: a descriptor that takes of it; what read itself answers · The kernel's calls about descriptors: writing into the pipe. Conditions: a descriptor that gives to it; what write itself answers · The kernel: a descriptor that gives is gone; a signal that is not kept; a timer that is not there. Conditions: a pipe with both ends; who gets the signal lives, and hears none. -/
import Derived.Test.YtjllklddjkkddaaGreatDoorZ36
import Derived.Deep.CutBlock
import Derived.Test.YtjllklddjkkddaaGreatDoorZ35
namespace Go.Proofs.YtjllklddjkkddaaGreatDoor
open Go.ChangeShapes Go.WideShapes Go.ChangeAt Go.RowKit
set_option linter.unusedVariables false
set_option maxRecDepth 100000 in
set_option maxHeartbeats 4000000 in
theorem kdread_ok (w : World) (B : Nat) (U : Nat → Prop) (pk : Nat) (X : KX) (XP : KX → Prop) (h : KAt w B U pk X) (q : Nat) (q1 : 1 ≤ q) (q2 : q ≤ 16) (fdn kf : Nat) (hd : fdn < 8) (hk : kf < 32) (hf : X.fd q fdn = kf + 1) (nf : Int) (hfl : X.fl kf = ⟨2, 1, 1, false, 0, nf⟩)
    (b nn n a' b' : Int) (d : Value) (ds : List Int)
    (HR : ∀ w', Chg Nil w w' → KCall 83 #[.pointer (some ⟨pk, 0, none⟩), .int .i64 (q : Int), .agg #[.int .i64 7, .int .i64 (fdn : Int), .int .i64 b, .int .i64 nn, .string ⟨#[]⟩, .string ⟨#[]⟩, d], .agg #[.int .i64 2, .int .i64 1, .int .i64 1, .bool false, .int .i64 0]] w' B U pk XP n a' b' ds) :
    KCall 39 #[.pointer (some ⟨pk, 0, none⟩), .int .i64 (q : Int), .agg #[.int .i64 7, .int .i64 (fdn : Int), .int .i64 b, .int .i64 nn, .string ⟨#[]⟩, .string ⟨#[]⟩, d]] w B U pk XP n a' b' ds := by
  obtain ⟨BA, BC⟩ := boxes2 w (clC 7 fdn b nn d)
  have CA : Chg Nil w ((w.alloc (.cells (clC 7 fdn b nn d).toArray 36)).alloc (.cells anZ.toArray 33)) := ((Chg.refl Nil w).alloc _).alloc _
  have hlt := hid h.lt
  replace HR := hid HR
  unfold KCall
  go_enter Tryz.func39, Tryz.ntmps39
  go_wp2_with fail
  generalize hV : (w.alloc (.cells #[.int .i64 7, .int .i64 (fdn : Int), .int .i64 b, .int .i64 nn, .string ⟨#[]⟩, .string ⟨#[]⟩, d] 36)).alloc (.cells #[.int .i64 0, .int .i64 0, .int .i64 0, .slice none 0 0, .slice none 0 0, .int .i64 0, .int .i64 0, .int .i64 0, .int .i64 0, .int .i64 0, .int .i64 0] 33) = V
  have hV' : (w.alloc (.cells (clC 7 fdn b nn d).toArray 36)).alloc (.cells anZ.toArray 33) = V := hV
  rw [hV'] at BA BC CA
  have hA := h.nil CA.drew
  replace hV := hid hV
  replace hV' := hid hV'
  have e1 := BA.cell 1
  simp only [clC, List.getElem?_cons_succ, List.getElem?_cons_zero] at e1
  have hA' := hid hA
  obtain ⟨pm, pf, pp, pr, pw, po, pc, pq, FM, FP, FR, FW, hS, hU⟩ := hA
  have k6 : V.cell? ⟨pk, 6, none⟩ = some (.pointer (some ⟨po, 0, none⟩)) := hS.kn.h (i := 6) (by omega)
  have HG : ∀ w', Chg Nil V w' → Calls Tryz.prog 82 #[.pointer (some ⟨po, 0, none⟩), .int .i64 (q : Int), .int .i64 (fdn : Int)] w' fun e w2 => e = .returned (.tuple #[.agg #[.int .i64 2, .int .i64 1, .int .i64 1, .bool false, .int .i64 0], .int .i64 0]) ∧ Chg Nil w' w2 := fun w' hc => by
    have := opget_ok w' po X.fl X.fd (OpAt.chg (F := Nil) (show OpAt V po X.fl X.fd from hS.op) hc (fun h => h)) q q1 q2 fdn hd kf hk hf
    rw [hfl] at this
    exact this
  replace HG := hid HG
  have k6' : (V.alloc (.cells #[.int .i64 0, .int .i64 0, .int .i64 0, .bool false, .int .i64 0] 169)).cell? ⟨pk, 6, none⟩ = some (.pointer (some ⟨po, 0, none⟩)) := ((Chg.refl Nil V).alloc (.cells #[.int .i64 0, .int .i64 0, .int .i64 0, .bool false, .int .i64 0] 169)).cell (a := ⟨pk, 6, none⟩) (Blk.lt hS.kn) (fun h => h) |>.trans k6
  have e1' : (V.alloc (.cells #[.int .i64 0, .int .i64 0, .int .i64 0, .bool false, .int .i64 0] 169)).cell? ⟨w.heap.size, 1, none⟩ = some (.int .i64 (fdn : Int)) := ((Chg.refl Nil V).alloc (.cells #[.int .i64 0, .int .i64 0, .int .i64 0, .bool false, .int .i64 0] 169)).cell (a := ⟨w.heap.size, 1, none⟩) (Blk.lt BA) (fun h => h) |>.trans e1
  replace BA := hid BA
  replace BC := hid BC
  replace CA := hid CA
  clear h hS
  have LC : ∀ w', Chg Nil V w' → (Instr.loadAt 36 (.pointer (some ⟨w.heap.size, 0, none⟩))).run Tryz.prog w' = .ok (.agg (clC 7 fdn b nn d).toArray) w' := fun w' hc => load_blk (BA.out.chg hc (fun h => h)) Tryz.underlying36 rfl (by kernel_rfl)
  replace LC := hid LC
  go_region_law
    (first | (go_simp; go_at_call 82; refine (HG.out V.drew (Chg.refl Nil V).drew).mono ?_; rintro e w1 ⟨rfl, c1⟩; obtain ⟨D1, D2⟩ := th_new (((Chg.refl Nil V).drew).trans c1 (fun _ _ h => h)) 2 1 1; replace c1 := hid c1) | (go_simp; go_at_call 82; refine (HG.out ((V.alloc (.cells (flL flZ).toArray 169)).drew) (((Chg.refl Nil V).alloc (.cells (flL flZ).toArray 169)).drew)).mono ?_; rintro e w1 ⟨rfl, c1⟩; have TB := Blk.chg (Blk.drew (Blk.new V 169 (flL flZ))) c1 (fun h => h); obtain ⟨D1, D2⟩ := th_chain TB ((((Chg.refl Nil V).alloc (.cells (flL flZ).toArray 169)).drew).trans c1 (fun _ _ h => h)) (Nat.le_refl _) 2 1 1; have t0 := TB.cell 0; have t1 := TB.cell 1; have t2 := TB.cell 2; have t3 := TB.cell 3; have t4 := TB.cell 4; have u0 := TB.frozen 0; have u1 := TB.frozen 1; have u2 := TB.frozen 2; have u3 := TB.frozen 3; have u4 := TB.frozen 4; simp only [flL, List.getElem?_cons_succ, List.getElem?_cons_zero] at t0 t1 t2 t3 t4; replace c1 := hid c1; replace TB := hid TB))
  all_goals
    first
      | (have TB' := TB; clear TB'; clear t0 t1 t2 t3 t4 u0 u1 u2 u3 u4; generalize hwc : ((((w1.setCell ⟨V.heap.size, 0, none⟩ (.int .i64 2)).setCell ⟨V.heap.size, 1, none⟩ (.int .i64 1)).setCell ⟨V.heap.size, 2, none⟩ (.int .i64 1)).setCell ⟨V.heap.size, 3, none⟩ (.bool false)).setCell ⟨V.heap.size, 4, none⟩ (.int .i64 0) = wc at D1 D2 ⊢)
      | (have hw0 : w1.alloc (.cells #[.int .i64 2, .int .i64 1, .int .i64 1, .bool false, .int .i64 0] 169) = w1.alloc (.cells (flL ⟨2, 1, 1, false, 0, 0⟩).toArray 169) := rfl; rw [hw0]; clear hw0; generalize hwc : w1.alloc (.cells (flL ⟨2, 1, 1, false, 0, 0⟩).toArray 169) = wc at D1 D2 ⊢)
    replace hwc := hid hwc
    have LA := LC.out wc D2.out
    have LT := load_blk (P := Tryz.prog) (ty := 169) D1.out Tryz.underlying169 rfl (by kernel_rfl)
    have k0 := (BA.out.chg D2.out (fun h => h)).cell 0
    simp only [clC, List.getElem?_cons_zero] at k0
    have C2 := hid (CA.out.trans D2.out (fun _ _ h => h))
    have HP := hid (HR.out wc C2.out)
    have BC2 := hid (BC.out.chg D2.out (fun h => h))
    have hbU : Hid (¬ U (w.heap.size + 1)) := hid (fun hh => by have := hlt.out _ hh; omega)
    clear e1 e1' k6 k6'
    go_wp2_with (first | (refine wpList_load_run LA (by rfl) (by rfl) (by rfl) ?_) | (refine wpList_load_run LT (by rfl) (by rfl) (by rfl) ?_))
    refine HP.out.mono ?_
    rintro e w2 ⟨vs, rfl, kp⟩
    have B2 := kp.keeps BC2.out hbU.out
    obtain ⟨W, S1, S2, S3⟩ := an_store B2 (vs := vs) rfl kp.len kp.one
    have kw := hid (AnPost.laid C2.out kp hbU.out (by omega) BC2.out.lt B2 S3)
    have hl := hid kp.len
    replace S2 := hid S2
    clear S3 B2 kp HP LA LT k0
    go_wp2_with (refine wpList_store_run S1 (by rfl) (by rfl) (by rfl) (by rfl) ?_)
    refine bodyPost_ret (an_ret rfl S2.out hl.out rfl) rfl ?_
    exact ⟨vs, rfl, kw.out⟩
end Go.Proofs.YtjllklddjkkddaaGreatDoor
namespace Go.Proofs.YtjllklddjkkddaaGreatDoor
open Go.ChangeShapes Go.WideShapes Go.ChangeAt Go.RowKit
set_option linter.unusedVariables false
set_option maxRecDepth 100000 in
set_option maxHeartbeats 4000000 in
theorem kdwrite_ok (w : World) (B : Nat) (U : Nat → Prop) (pk : Nat) (X : KX) (XP : KX → Prop) (h : KAt w B U pk X) (q : Nat) (q1 : 1 ≤ q) (q2 : q ≤ 16) (fdn kf : Nat) (hd : fdn < 8) (hk : kf < 32) (hf : X.fd q fdn = kf + 1) (nf : Int) (hfl : X.fl kf = ⟨3, 1, 2, false, 0, nf⟩)
    (b nn n a' b' : Int) (d : Value) (ds : List Int)
    (HR : ∀ w', Chg Nil w w' → KCall 84 #[.pointer (some ⟨pk, 0, none⟩), .int .i64 (q : Int), .agg #[.int .i64 8, .int .i64 (fdn : Int), .int .i64 b, .int .i64 nn, .string ⟨#[]⟩, .string ⟨#[]⟩, d], .agg #[.int .i64 3, .int .i64 1, .int .i64 2, .bool false, .int .i64 0]] w' B U pk XP n a' b' ds) :
    KCall 39 #[.pointer (some ⟨pk, 0, none⟩), .int .i64 (q : Int), .agg #[.int .i64 8, .int .i64 (fdn : Int), .int .i64 b, .int .i64 nn, .string ⟨#[]⟩, .string ⟨#[]⟩, d]] w B U pk XP n a' b' ds := by
  obtain ⟨BA, BC⟩ := boxes2 w (clC 8 fdn b nn d)
  have CA : Chg Nil w ((w.alloc (.cells (clC 8 fdn b nn d).toArray 36)).alloc (.cells anZ.toArray 33)) := ((Chg.refl Nil w).alloc _).alloc _
  have hlt := hid h.lt
  replace HR := hid HR
  unfold KCall
  go_enter Tryz.func39, Tryz.ntmps39
  go_wp2_with fail
  generalize hV : (w.alloc (.cells #[.int .i64 8, .int .i64 (fdn : Int), .int .i64 b, .int .i64 nn, .string ⟨#[]⟩, .string ⟨#[]⟩, d] 36)).alloc (.cells #[.int .i64 0, .int .i64 0, .int .i64 0, .slice none 0 0, .slice none 0 0, .int .i64 0, .int .i64 0, .int .i64 0, .int .i64 0, .int .i64 0, .int .i64 0] 33) = V
  have hV' : (w.alloc (.cells (clC 8 fdn b nn d).toArray 36)).alloc (.cells anZ.toArray 33) = V := hV
  rw [hV'] at BA BC CA
  have hA := h.nil CA.drew
  replace hV := hid hV
  replace hV' := hid hV'
  have e1 := BA.cell 1
  simp only [clC, List.getElem?_cons_succ, List.getElem?_cons_zero] at e1
  have hA' := hid hA
  obtain ⟨pm, pf, pp, pr, pw, po, pc, pq, FM, FP, FR, FW, hS, hU⟩ := hA
  have k6 : V.cell? ⟨pk, 6, none⟩ = some (.pointer (some ⟨po, 0, none⟩)) := hS.kn.h (i := 6) (by omega)
  have HG : ∀ w', Chg Nil V w' → Calls Tryz.prog 82 #[.pointer (some ⟨po, 0, none⟩), .int .i64 (q : Int), .int .i64 (fdn : Int)] w' fun e w2 => e = .returned (.tuple #[.agg #[.int .i64 3, .int .i64 1, .int .i64 2, .bool false, .int .i64 0], .int .i64 0]) ∧ Chg Nil w' w2 := fun w' hc => by
    have := opget_ok w' po X.fl X.fd (OpAt.chg (F := Nil) (show OpAt V po X.fl X.fd from hS.op) hc (fun h => h)) q q1 q2 fdn hd kf hk hf
    rw [hfl] at this
    exact this
  replace HG := hid HG
  have k6' : (V.alloc (.cells #[.int .i64 0, .int .i64 0, .int .i64 0, .bool false, .int .i64 0] 169)).cell? ⟨pk, 6, none⟩ = some (.pointer (some ⟨po, 0, none⟩)) := ((Chg.refl Nil V).alloc (.cells #[.int .i64 0, .int .i64 0, .int .i64 0, .bool false, .int .i64 0] 169)).cell (a := ⟨pk, 6, none⟩) (Blk.lt hS.kn) (fun h => h) |>.trans k6
  have e1' : (V.alloc (.cells #[.int .i64 0, .int .i64 0, .int .i64 0, .bool false, .int .i64 0] 169)).cell? ⟨w.heap.size, 1, none⟩ = some (.int .i64 (fdn : Int)) := ((Chg.refl Nil V).alloc (.cells #[.int .i64 0, .int .i64 0, .int .i64 0, .bool false, .int .i64 0] 169)).cell (a := ⟨w.heap.size, 1, none⟩) (Blk.lt BA) (fun h => h) |>.trans e1
  replace BA := hid BA
  replace BC := hid BC
  replace CA := hid CA
  clear h hS
  have LC : ∀ w', Chg Nil V w' → (Instr.loadAt 36 (.pointer (some ⟨w.heap.size, 0, none⟩))).run Tryz.prog w' = .ok (.agg (clC 8 fdn b nn d).toArray) w' := fun w' hc => load_blk (BA.out.chg hc (fun h => h)) Tryz.underlying36 rfl (by kernel_rfl)
  replace LC := hid LC
  go_region_law
    (first | (go_simp; go_at_call 82; refine (HG.out V.drew (Chg.refl Nil V).drew).mono ?_; rintro e w1 ⟨rfl, c1⟩; obtain ⟨D1, D2⟩ := th_new (((Chg.refl Nil V).drew).trans c1 (fun _ _ h => h)) 3 1 2; replace c1 := hid c1) | (go_simp; go_at_call 82; refine (HG.out ((V.alloc (.cells (flL flZ).toArray 169)).drew) (((Chg.refl Nil V).alloc (.cells (flL flZ).toArray 169)).drew)).mono ?_; rintro e w1 ⟨rfl, c1⟩; have TB := Blk.chg (Blk.drew (Blk.new V 169 (flL flZ))) c1 (fun h => h); obtain ⟨D1, D2⟩ := th_chain TB ((((Chg.refl Nil V).alloc (.cells (flL flZ).toArray 169)).drew).trans c1 (fun _ _ h => h)) (Nat.le_refl _) 3 1 2; have t0 := TB.cell 0; have t1 := TB.cell 1; have t2 := TB.cell 2; have t3 := TB.cell 3; have t4 := TB.cell 4; have u0 := TB.frozen 0; have u1 := TB.frozen 1; have u2 := TB.frozen 2; have u3 := TB.frozen 3; have u4 := TB.frozen 4; simp only [flL, List.getElem?_cons_succ, List.getElem?_cons_zero] at t0 t1 t2 t3 t4; replace c1 := hid c1; replace TB := hid TB))
  all_goals
    first
      | (have TB' := TB; clear TB'; clear t0 t1 t2 t3 t4 u0 u1 u2 u3 u4; generalize hwc : ((((w1.setCell ⟨V.heap.size, 0, none⟩ (.int .i64 3)).setCell ⟨V.heap.size, 1, none⟩ (.int .i64 1)).setCell ⟨V.heap.size, 2, none⟩ (.int .i64 2)).setCell ⟨V.heap.size, 3, none⟩ (.bool false)).setCell ⟨V.heap.size, 4, none⟩ (.int .i64 0) = wc at D1 D2 ⊢)
      | (have hw0 : w1.alloc (.cells #[.int .i64 3, .int .i64 1, .int .i64 2, .bool false, .int .i64 0] 169) = w1.alloc (.cells (flL ⟨3, 1, 2, false, 0, 0⟩).toArray 169) := rfl; rw [hw0]; clear hw0; generalize hwc : w1.alloc (.cells (flL ⟨3, 1, 2, false, 0, 0⟩).toArray 169) = wc at D1 D2 ⊢)
    replace hwc := hid hwc
    have LA := LC.out wc D2.out
    have LT := load_blk (P := Tryz.prog) (ty := 169) D1.out Tryz.underlying169 rfl (by kernel_rfl)
    have k0 := (BA.out.chg D2.out (fun h => h)).cell 0
    simp only [clC, List.getElem?_cons_zero] at k0
    have C2 := hid (CA.out.trans D2.out (fun _ _ h => h))
    have HP := hid (HR.out wc C2.out)
    have BC2 := hid (BC.out.chg D2.out (fun h => h))
    have hbU : Hid (¬ U (w.heap.size + 1)) := hid (fun hh => by have := hlt.out _ hh; omega)
    clear e1 e1' k6 k6'
    go_wp2_with (first | (refine wpList_load_run LA (by rfl) (by rfl) (by rfl) ?_) | (refine wpList_load_run LT (by rfl) (by rfl) (by rfl) ?_))
    refine HP.out.mono ?_
    rintro e w2 ⟨vs, rfl, kp⟩
    have B2 := kp.keeps BC2.out hbU.out
    obtain ⟨W, S1, S2, S3⟩ := an_store B2 (vs := vs) rfl kp.len kp.one
    have kw := hid (AnPost.laid C2.out kp hbU.out (by omega) BC2.out.lt B2 S3)
    have hl := hid kp.len
    replace S2 := hid S2
    clear S3 B2 kp HP LA LT k0
    go_wp2_with (refine wpList_store_run S1 (by rfl) (by rfl) (by rfl) (by rfl) ?_)
    refine bodyPost_ret (an_ret rfl S2.out hl.out rfl) rfl ?_
    exact ⟨vs, rfl, kw.out⟩
end Go.Proofs.YtjllklddjkkddaaGreatDoor
namespace Go.Proofs.YtjllklddjkkddaaGreatDoor
open Go.ChangeShapes Go.WideShapes Go.ChangeAt Go.RowKit
set_option linter.unusedVariables false
set_option maxRecDepth 100000 in
set_option maxHeartbeats 2000000 in
theorem kgone_ok (w : World) (B : Nat) (U : Nat → Prop) (pk : Nat) (X : KX) (h : KAt w B U pk X) (bs : List Int) (hp : X.pipe = some (1, 1, bs)) :
    Calls Tryz.prog 73 #[.pointer (some ⟨pk, 0, none⟩), .agg #[.int .i64 3, .int .i64 1, .int .i64 2, .bool false, .int .i64 0]] w fun e w' => e = .returned (.tuple #[]) ∧ KPost w B U pk { X with pipe := some (1, 0, bs) } w' := by
  obtain ⟨pm, pf, pp, pr, pw, po, pc, pq, FM, FP, FR, FW, h, rfl⟩ := h
  have P0 := h.pi
  rw [hp] at P0
  obtain ⟨g, P0⟩ := P0
  have hlk := Blk.lt h.kn
  have k3 : w.cell? ⟨pk, 3, none⟩ = some (.pointer (some ⟨pp, 0, none⟩)) := h.kn.h (i := 3) (by omega)
  have BA := Blk.new w 169 [.int .i64 3, .int .i64 1, .int .i64 2, .bool false, .int .i64 0]
  have CA : Chg Nil w (w.alloc (.cells [Value.int .i64 3, .int .i64 1, .int .i64 2, .bool false, .int .i64 0].toArray 169)) := (Chg.refl Nil w).alloc _
  generalize hV : w.alloc (.cells [Value.int .i64 3, .int .i64 1, .int .i64 2, .bool false, .int .i64 0].toArray 169) = V at BA CA
  have k3V := (CA.cell (a := ⟨pk, 3, none⟩) hlk (fun h => h)).trans k3
  have HL := hid (piless_s V.drew FP pp g bs (P0.nil CA.drew))
  have H := hid (h.nil CA.drew)
  have e1 := BA.cell 1
  have e0 := BA.cell 0
  simp only [List.getElem?_cons_succ, List.getElem?_cons_zero] at e0 e1
  rw [← hV] at e0 
  replace BA := hid BA
  replace CA := hid CA
  replace hV := hid hV
  clear h P0 hp k3
  go_enter Tryz.func73, Tryz.ntmps73
  go_upto_region 7 with fail
  clear e0
  have hV' : w.alloc (.cells #[.int .i64 3, .int .i64 1, .int .i64 2, .bool false, .int .i64 0] 169) = V := hV.out
  rw [hV']
  replace hV' := hid hV'
  go_region_law
    (go_simp; go_at_call 147; refine HL.out.mono ?_; rintro e w2 ⟨rfl, p2, d2⟩; replace p2 := hid p2; replace d2 := hid d2)
  all_goals
    clear e1 k3V
    go_wp2
    go_end0
    exact ⟨rfl, (H.out.postPi (o := some (1, 0, bs)) ⟨g, p2.out⟩ d2.out (Grew.refl _ _)).pre CA.out.drew⟩
theorem sig_same {ts : Nat → Nat → Value} {q : Nat} {s : Int} (ht : TsA ts q s) : updP ts q 19 18 (fun _ => .int .i64 0) = ts := by
  funext a b
  unfold updP
  split
  · rename_i hh
    obtain ⟨rfl, h1, h2⟩ := hh
    have := ht.sg (b - 19) (by omega)
    rw [show 19 + (b - 19) = b by omega] at this
    exact this.symm
  · rfl
set_option maxRecDepth 100000 in
set_option maxHeartbeats 2000000 in
theorem ksend_ok (w : World) (B : Nat) (U : Nat → Prop) (pk : Nat) (X : KX) (h : KAt w B U pk X) (q : Nat) (q1 : 1 ≤ q) (q2 : q ≤ 16) (hs : (X.pl q).state = 1) (s : Int) (ht : TsA X.ts q s) :
    Calls Tryz.prog 77 #[.pointer (some ⟨pk, 0, none⟩), .int .i64 (q : Int), .int .i64 7] w fun e w' => e = .returned (.tuple #[]) ∧ KPost w B U pk X w' := by
  have L := hid (kliving_ok B w pk X h.st q q1 q2 hs)
  obtain ⟨pm, pf, pp, pr, pw, po, pc, pq, FM, FP, FR, FW, h, rfl⟩ := h
  have L1 := h.kn.sig (q := q) (by omega) ht
  have H := hid h
  have HT := hid ht
  clear h hs ht
  go_enter Tryz.func77, Tryz.ntmps77
  go_wp2_with fail
  refine L.out.mono ?_
  rintro e w' ⟨rfl, rfl⟩
  go_wp2_with (refine wpList_load_run L1 (by rfl) (by rfl) (by rfl) ?_)
  refine (sgsend_7 _).mono ?_
  rintro e w2 ⟨rfl, c2⟩
  have B2 := Blk.new w2 63 sgZ
  obtain ⟨S1, S2⟩ := sg_store B2
  have C2 := (c2.alloc (.cells sgZ.toArray 63)).one (g := w2.heap.size) (.inr c2.size) (setCells_chg _ w2.heap.size 0 sgZ _ rfl)
  obtain ⟨W, hW⟩ : ∃ W, W = (w2.alloc (.cells sgZ.toArray 63)).setCells w2.heap.size 0 sgZ := ⟨_, rfl⟩
  rw [← hW] at S1 S2 C2
  have L2 := sg_load S2
  have HK := H.out.kn.chg C2 (fun h => h)
  obtain ⟨Q1, _, Q3⟩ := store_part (P := Tryz.prog) (ty := 63) (lo := 8 + q * 38 + 19) (vs := sgZ) HK (by rw [tab_len, sgZ_len]; omega) (by kernel_rfl) sgZ_one
  have HK2 : KnAt (W.setCells pk (8 + q * 38 + 19) sgZ) pk (hdK pm pf pp pr pw po pc) X.ts := by
    have := KnAt.setP HK (q := q) (lo := 19) (n := 18) (by omega) (by omega) (fun _ => .int .i64 0)
    rwa [sig_same HT.out] at this
  obtain ⟨W2, hW2⟩ : ∃ W2, W2 = W.setCells pk (8 + q * 38 + 19) sgZ := ⟨_, rfl⟩
  rw [← hW2] at Q1 Q3 HK2
  have K2 := hid ((H.out.nil C2).postKn HK2 Q3 (fun _ => rfl))
  have L3 := HK2.sig (q := q) (by omega) HT.out
  replace hW := hid hW
  replace hW2 := hid hW2
  replace C2 := hid C2
  clear L1 c2 B2 S2 HK HK2 Q3
  go_wp2_with (first | (refine wpList_store_run S1 (by rfl) (by rfl) (by rfl) (by rfl) ?_) | (refine wpList_load_run L2 (by rfl) (by rfl) (by rfl) ?_) | (refine wpList_store_run Q1 (by rfl) (by rfl) (by rfl) (by rfl) ?_) | (refine wpList_load_run L3 (by rfl) (by rfl) (by rfl) ?_))
  clear S1 L2 Q1 L3
  refine (sgnext_0 _).mono ?_
  rintro e w3 ⟨rfl, c3⟩
  replace c3 := hid c3
  go_wp2
  go_end0
  exact ⟨rfl, (K2.out.nil c3.out).pre C2.out⟩
theorem wout_nil (w : World) (F : Nat → Prop) (p : Nat) (now : Int) (id : Int) (h : WhAt w F p now []) :
    Calls Tryz.prog 76 #[.pointer (some ⟨p, 0, none⟩), .int .i64 id] w fun e w' => e = .returned (.int .i64 4) ∧ Chg Nil w w' := by
  have hk : idxI (idsT ([] : List Tm)) id = -1 := rfl
  have HF := hid (wfind_ok w F p now [] id h (by simp))
  rw [hk] at HF
  clear h hk
  go_enter Tryz.func76, Tryz.ntmps76
  go_wp2_with fail
  refine HF.out.mono ?_
  rintro e w1 ⟨rfl, c1⟩
  have C1 := hid c1
  clear c1
  go_wp2
  go_ret
  exact ⟨rfl, C1.out⟩
end Go.Proofs.YtjllklddjkkddaaGreatDoor
