/- Contracts of package spread: Boost, Calm, Pin. Conditions: a run as it may be · Contracts of package spread: Pin, Wake. Conditions: a run as it may be · Contracts of package spread: Wake. Conditions: a run as it may be · Contracts of package spread: Tick. Conditions: a run as it may be · Contracts of package spread: enter. Conditions: a run as it may be, with fewer than a thousand tasks. -/
import Derived.Test.YtdcbagmgflcemaaGreatDoorZ20
namespace Go.Proofs.YtdcbagmgflcemaaGreatDoor
open Go.ChangeShapes Go.WideShapes Go.ChangeAt Go.RowKit
set_option linter.unusedVariables false
theorem valB_bd {cl v : Int} (h : valB cl v = true) : 1 ≤ cl ∧ cl ≤ 2 ∧ 0 ≤ v ∧ v ≤ 100 ∧ (cl = 1 → 1 ≤ v) := by
  unfold valB at h
  split at h
  · have := of_decide_eq_true h; omega
  · split at h
    · have := of_decide_eq_true h; omega
    · cases h
end Go.Proofs.YtdcbagmgflcemaaGreatDoor
namespace Go.Proofs.YtdcbagmgflcemaaGreatDoor
open Go.ChangeShapes Go.WideShapes Go.ChangeAt Go.RowKit
set_option linter.unusedVariables false
end Go.Proofs.YtdcbagmgflcemaaGreatDoor
namespace Go.Proofs.YtdcbagmgflcemaaGreatDoor
open Go.ChangeShapes Go.WideShapes Go.ChangeAt Go.RowKit
set_option linter.unusedVariables false
end Go.Proofs.YtdcbagmgflcemaaGreatDoor
namespace Go.Proofs.YtdcbagmgflcemaaGreatDoor
open Go.ChangeShapes Go.WideShapes Go.ChangeAt Go.RowKit
set_option linter.unusedVariables false
end Go.Proofs.YtdcbagmgflcemaaGreatDoor
namespace Go.Proofs.YtdcbagmgflcemaaGreatDoor
open Go.ChangeShapes Go.WideShapes Go.ChangeAt Go.RowKit
set_option linter.unusedVariables false
/-- Behind the append: the run with one more task. -/
theorem ent_fin {W w4 : World} {F : Nat → Prop} {p : Nat} {s : SR} {g off : Nat} {a a' : Option Addr} {c c' : Nat} {G G' : Option Nat} {y : ST} {o : Obj} (D : RA W F p s g off a c G)
    (HB : Blk w4 p 174 [.int .i64 s.n, .int .i64 s.tk, .int .i64 s.st, .slice a s.ts.length c])
    (q1 : Sl w4 185 15 a' (s.ts.length + 1) c' (s.ts.flatMap stCells ++ stCells y) G') (q2 : Chg (Opt G) (W.alloc o).drew w4) (q3 : G' = G ∨ G' = some (W.alloc o).drew.heap.size) :
    ∃ g' off', a' = some ⟨g', off', none⟩ ∧ RA (w4.setCell ⟨p, 3, none⟩ (.slice a' (s.ts.length + 1) c')) (Or2 F (Opt G')) p { s with ts := s.ts ++ [y] } g' off' a' c' G' ∧
      Chg F W (w4.setCell ⟨p, 3, none⟩ (.slice a' (s.ts.length + 1) c')) ∧ ∀ k, Opt G' k → F k ∨ W.heap.size ≤ k := by
  have hsz : (W.alloc o).drew.heap.size = W.heap.size + 1 := by simp
  obtain ⟨g', off', e1, e2, e3⟩ := q1.block (by omega)
  have hne := q1.ne_blk HB (by decide)
  have hfl : s.ts.flatMap stCells ++ stCells y = (s.ts ++ [y]).flatMap stCells := by simp
  have hc := q2.size
  have hg : ∀ k, Opt G' k → F k ∨ W.heap.size ≤ k := by
    intro k hk
    rcases q3 with h | h
    · subst h; exact .inl (D.fg k hk)
    · rw [h] at hk
      injection hk with hk
      exact .inr (by omega)
  refine ⟨g', off', e1, ⟨?_, ?_, fun _ => ⟨e1, e2⟩, .inl D.fp, fun g hg => .inr hg, ?_⟩, ?_, hg⟩
  · have := HB.set 3 (.slice a' (s.ts.length + 1) c')
    show Blk _ p _ [.int .i64 s.n, .int .i64 s.tk, .int .i64 s.st, .slice a' (s.ts ++ [y]).length c']
    rw [List.length_append]
    exact this
  · have h1 := q1.set_far (p := ⟨p, 3, none⟩) hne (.slice a' (s.ts.length + 1) c')
    rw [hfl] at h1
    show Sl _ _ 15 a' (s.ts ++ [y]).length c' _ G'
    rw [List.length_append]
    exact h1
  · rintro k (hF | hG)
    · have := D.lt k hF; simp [World.setCell]; omega
    · have := q1.lt k hG; simpa [World.setCell] using this
  · have h0 : Chg F W w4 := (((Chg.refl F W).alloc o).drew).trans q2 (fun i _ h => D.fg i h)
    exact h0.setCell (p := ⟨p, 3, none⟩) (.inl D.fp) _
theorem ent_c3 {w : World} {F : Nat → Prop} {p : Nat} {s : SR} {g off : Nat} {a : Option Addr} {c : Nat} {G : Option Nat} {y : ST} {i : Nat} (h : RA w F p (({ s with ts := s.ts ++ [y] } : SR).wait i) g off a c G) : w.cell? ⟨p, 3, none⟩ = some (.slice a (s.ts.length + 1) c) := by
  have := h.c3
  rwa [show (({ s with ts := s.ts ++ [y] } : SR).wait i).ts.length = s.ts.length + 1 by show (upd (s.ts ++ [y]) i _).length = _; rw [upd_len]; simp] at this
set_option maxRecDepth 100000 in
set_option maxHeartbeats 2000000 in
theorem senter_ok (w : World) (F : Nat → Prop) (p : Nat) (s : SR) (h : RunAt w F p s) (M : Int) (hok : SOk M s) (hM : M ≤ 1000000) (x : ST) (hx : TOk M x) (hv : x.v = 0) (hl : s.ts.length < 1000) :
    Calls Tryz.prog 68 #[.pointer (some ⟨p, 0, none⟩), .agg #[.int .i64 x.t, .int .i64 x.cl, .int .i64 x.va, .int .i64 x.mo, .int .i64 x.wi, .int .i64 x.bu, .int .i64 x.pe, .int .i64 x.le, .int .i64 x.du, .int .i64 x.v, .int .i64 x.si, .int .i64 x.pin, .bool x.r, .bool x.o, .int .i64 x.cpu]] w fun e w' => e = .returned (.tuple #[]) ∧ ∃ F', RunAt w' F' p (s.enter x) ∧ Chg F w w' ∧ Grew w.heap.size F F' := by
  obtain ⟨g, off, a, c, G, h⟩ := h
  have hp := h.blk.lt
  have n1 := hok.n1
  have n4 := hok.n2
  have YO := hid (ent_ok hok hx hv)
  obtain ⟨b, hb⟩ : ∃ b, b = w.heap.size := ⟨_, rfl⟩
  have B0 : Blk (w.alloc (.cells #[.int .i64 x.t, .int .i64 x.cl, .int .i64 x.va, .int .i64 x.mo, .int .i64 x.wi, .int .i64 x.bu, .int .i64 x.pe, .int .i64 x.le, .int .i64 x.du, .int .i64 x.v, .int .i64 x.si, .int .i64 x.pin, .bool x.r, .bool x.o, .int .i64 x.cpu] 185)) b 185 (stCells x) := by rw [hb]; exact Blk.new w _ (stCells x)
  have D0 := h.nil ((Chg.refl Nil w).alloc (.cells #[.int .i64 x.t, .int .i64 x.cl, .int .i64 x.va, .int .i64 x.mo, .int .i64 x.wi, .int .i64 x.bu, .int .i64 x.pe, .int .i64 x.le, .int .i64 x.du, .int .i64 x.v, .int .i64 x.si, .int .i64 x.pin, .bool x.r, .bool x.o, .int .i64 x.cpu] 185))
  have C0 := (Chg.refl Nil w).alloc (.cells #[.int .i64 x.t, .int .i64 x.cl, .int .i64 x.va, .int .i64 x.mo, .int .i64 x.wi, .int .i64 x.bu, .int .i64 x.pe, .int .i64 x.le, .int .i64 x.du, .int .i64 x.v, .int .i64 x.si, .int .i64 x.pin, .bool x.r, .bool x.o, .int .i64 x.cpu] 185)
  obtain ⟨w1, hw1⟩ : ∃ w1, w1 = w.alloc (.cells #[.int .i64 x.t, .int .i64 x.cl, .int .i64 x.va, .int .i64 x.mo, .int .i64 x.wi, .int .i64 x.bu, .int .i64 x.pe, .int .i64 x.le, .int .i64 x.du, .int .i64 x.v, .int .i64 x.si, .int .i64 x.pin, .bool x.r, .bool x.o, .int .i64 x.cpu] 185) := ⟨_, rfl⟩
  rw [← hw1] at B0 D0 C0
  have hbF : ¬ F b := fun hF => by have := h.lt b hF; omega
  have P0 : 1 ≤ 2 ^ s.n := Nat.one_le_two_pow
  have P4 : 2 ^ s.n ≤ 16 := Nat.pow_le_pow_right (n := 2) (by omega) n4
  have P1 : (1 : Int) ≤ 2 ^ s.n := by exact_mod_cast P0
  have P2 : (2 : Int) ^ s.n ≤ 16 := by exact_mod_cast P4
  have P : Hid ((2 : Int) ^ s.n - 1 = ((2 ^ s.n - 1 : Nat) : Int)) := hid (by
    have e : ((2 ^ s.n : Nat) : Int) = (2 : Int) ^ s.n := by exact_mod_cast rfl
    omega)
  clear P0 P4
  have k0 := D0.c0
  have b11 := B0.cell 11
  have b12 := B0.cell 12
  have fb11 := B0.frozen 11
  have fb12 := B0.frozen 12
  simp only [stCells, List.getElem?_cons_succ, List.getElem?_cons_zero] at b11 b12
  have B1 := (B0.set 11 (.int .i64 ((2 : Int) ^ s.n - 1))).set 12 (.bool true)
  have CB := ((Chg.refl (One b) w1).setCell (p := ⟨b, 11, none⟩) (.inl (show One b b from rfl)) (.int .i64 ((2 : Int) ^ s.n - 1))).setCell (p := ⟨b, 12, none⟩) (.inl (show One b b from rfl)) (.bool true)
  have hdj : Dj F (One b) := fun k hk he => hbF (by rw [← show k = b from he]; exact hk)
  have D1 := hid (D0.chg CB hdj)
  have C1 := hid (C0.trans CB (fun i hi he => by have : i = b := he; omega))
  have B1' : Hid (Blk ((w1.setCell ⟨b, 11, none⟩ (.int .i64 ((2 : Int) ^ s.n - 1))).setCell ⟨b, 12, none⟩ (.bool true)) b 185 (stCells { x with pin := 2 ^ s.n - 1, r := true })) := hid (by
    have e : ((stCells x).set 11 (.int .i64 ((2 : Int) ^ s.n - 1))).set 12 (.bool true) = stCells { x with pin := 2 ^ s.n - 1, r := true } := by
      rw [P.out]; rfl
    rw [← e]
    exact B1)
  have OK := hid hok
  have hdj' := hid hdj
  have HW1 := hid hw1
  clear h hok hx hv D0 C0 B0 B1 CB hw1 hdj P
  have LW := hid (slow_ok _ F p s g off a c G D1.out OK.out.len)
  go_enter Tryz.func68, Tryz.ntmps68
  go_upto_region 1 with fail
  rw [← HW1.out]
  rw [← hb]
  replace hb := hid hb
  go_wp2_with fail
  refine LW.out.mono ?_
  rintro e w2 ⟨rfl, hC⟩
  have B := hid (B1'.out.chg hC (fun h => h))
  have D := hid (D1.out.nil hC)
  have C := hid (C1.out.trans hC (fun _ _ h => h))
  clear LW B1' D1 C1 hC k0 b11 b12 fb11 fb12 P1 P2
  have b1 := B.out.cell 1
  have b9 := B.out.cell 9
  have fb9 := B.out.frozen 9
  simp only [stCells, List.getElem?_cons_succ, List.getElem?_cons_zero] at b1 b9
  by_cases hcl : x.cl = 1
  · have hb1 : (x.cl == 1) = true := by rw [beq_iff_eq]; exact hcl
    cases hlo : lowI s.ts with
    | none =>
      have EY : entT s x = { x with pin := 2 ^ s.n - 1, r := true } := by unfold entT; rw [hlo]; simp
      obtain ⟨y, hy⟩ : ∃ y, y = entT s x := ⟨_, rfl⟩
      rw [← EY, ← hy] at B
      rw [← hy] at YO
      have hye : (({ s with ts := s.ts ++ [y] } : SR).wait s.ts.length).fill = s.enter x := by unfold SR.enter; rw [hy]
      obtain ⟨W, hW⟩ : ∃ W, W = w2 := ⟨_, rfl⟩
      rw [← hW] at B D C b1 b9 fb9 ⊢
      clear hcl hlo EY hy hW
      simp only [Option.isSome_none, lowV]
      go_upto_region 5 with fail
      clear b1 b9 fb9
      have kb := fun j => B.out.cell j
      have kb0 := kb 0
      have kb1 := kb 1
      have kb2 := kb 2
      have kb3 := kb 3
      have kb4 := kb 4
      have kb5 := kb 5
      have kb6 := kb 6
      have kb7 := kb 7
      have kb8 := kb 8
      have kb9 := kb 9
      have kb10 := kb 10
      have kb11 := kb 11
      have kb12 := kb 12
      have kb13 := kb 13
      have kb14 := kb 14
      simp only [stCells, List.getElem?_cons_succ, List.getElem?_cons_zero] at kb0 kb1 kb2 kb3 kb4 kb5 kb6 kb7 kb8 kb9 kb10 kb11 kb12 kb13 kb14
      clear kb
      have c3 := D.out.c3
      have f3 := D.out.fr 3
      have x3 := (D.out.blk.alloc (.cells #[.int .i64 y.t, .int .i64 y.cl, .int .i64 y.va, .int .i64 y.mo, .int .i64 y.wi, .int .i64 y.bu, .int .i64 y.pe, .int .i64 y.le, .int .i64 y.du, .int .i64 y.v, .int .i64 y.si, .int .i64 y.pin, .bool y.r, .bool y.o, .int .i64 y.cpu] 185)).cell 3
      simp only [List.getElem?_cons_succ, List.getElem?_cons_zero] at x3
      have HS : Hid (Sl (W.alloc (.cells #[.int .i64 y.t, .int .i64 y.cl, .int .i64 y.va, .int .i64 y.mo, .int .i64 y.wi, .int .i64 y.bu, .int .i64 y.pe, .int .i64 y.le, .int .i64 y.du, .int .i64 y.v, .int .i64 y.si, .int .i64 y.pin, .bool y.r, .bool y.o, .int .i64 y.cpu] 185)).drew 185 15 a s.ts.length c (s.ts.flatMap stCells) G) := D.out.sl.alloc _
      have HN : Hid (Rd (W.alloc (.cells #[.int .i64 y.t, .int .i64 y.cl, .int .i64 y.va, .int .i64 y.mo, .int .i64 y.wi, .int .i64 y.bu, .int .i64 y.pe, .int .i64 y.le, .int .i64 y.du, .int .i64 y.v, .int .i64 y.si, .int .i64 y.pin, .bool y.r, .bool y.o, .int .i64 y.cpu] 185)).drew (One W.heap.size) 15 (some ⟨W.heap.size, 0, none⟩) 1 1 (stCells y)) := Rd.of_blk (n := 1) (s := 15) (Blk.new W 185 (stCells y)) rfl (by decide)
      have HNE := hid D.out.ne
      go_region_law (refine step_append_sl rfl _ _ eSTask rfl rfl rfl HS.out HN.out (st_one _) (by omega) (by omega) ?_; intro a' c' w4 G' q1 q2 q3; have HB1 := (D.out.blk.alloc (.cells #[.int .i64 y.t, .int .i64 y.cl, .int .i64 y.va, .int .i64 y.mo, .int .i64 y.wi, .int .i64 y.bu, .int .i64 y.pe, .int .i64 y.le, .int .i64 y.du, .int .i64 y.v, .int .i64 y.si, .int .i64 y.pin, .bool y.r, .bool y.o, .int .i64 y.cpu] 185)).drew.chg q2 HNE.out; have e3 := HB1.cell 3; have g3 := HB1.frozen 3; simp only [List.getElem?_cons_succ, List.getElem?_cons_zero] at e3; replace HB1 := hid HB1; replace q1 := hid q1; replace q2 := hid q2; replace q3 := hid q3)
      all_goals
        have FIN := hid (ent_fin D.out HB1.out q1.out q2.out q3.out)
        clear kb0 kb1 kb2 kb3 kb4 kb5 kb6 kb7 kb8 kb9 kb10 kb11 kb12 kb13 kb14 c3 f3 x3 HS HN HNE HB1 e3 g3 q1 q2 q3
        obtain ⟨g', off', rfl, R1, R2, R3⟩ := FIN.out
        have hy2 : (s.ts ++ [y])[s.ts.length]? = some y := by simp
        have OK1 : Hid (SOk M { s with ts := s.ts ++ [y] }) := hid (OK.out.app YO.out hl)
        have WT := hid (swait_ok (World.drew (World.setCell w4 ⟨p, 3, none⟩ (.slice (some ⟨g', off', none⟩) (s.ts.length + 1) c'))) _ p _ g' off' _ c' G' (R1.drewN 1) s.ts.length y hy2 OK1.out.st1 (by have := OK1.out.st2; omega))
        have FL := hid (fun w6 (h : RA w6 (Or2 F (Opt G')) p (({ s with ts := s.ts ++ [y] } : SR).wait s.ts.length) g' off' (some ⟨g', off', none⟩) c' G') => sfill_ok w6 (Or2 F (Opt G')) p (({ s with ts := s.ts ++ [y] } : SR).wait s.ts.length) g' off' _ c' G' h (M + 1) (OK1.out.wait s.ts.length))
        have RC3 := R1.c3
        have e4 : (s.ts ++ [y]).length = s.ts.length + 1 := by simp
        rw [e4] at RC3
        have R2' := hid R2
        have R3' := hid R3
        have EY := hid hye
        have C' := C
        clear R1 R2 R3 hy2 e4 FIN hye
        generalize World.setCell w4 ⟨p, 3, none⟩ (.slice (some ⟨g', off', none⟩) (s.ts.length + 1) c') = W5 at WT RC3 R2' ⊢
        have hwl := IntWalk.i64_in (s.ts.length : Int) (by omega)
        have i1 : (s.ts.length : Int) < (s.ts.length : Int) + 1 := by omega
        go_wp2
        go_region_held3 (fun w' => w'.cell? ⟨p, 3, none⟩ = some (.slice (some ⟨g', off', none⟩) (s.ts.length + 1) c')) (first | exact k1 | go_keep)
          (first | ((with_reducible refine WT.out.mono ?_); rintro e w6 ⟨rfl, h1, h2⟩; have k1 := ent_c3 h1))
        have FL2 := hid (FL.out w6 h1)
        replace h1 := hid h1
        replace h2 := hid h2
        clear FL WT
        go_wp2_with fail
        refine FL2.out.mono ?_
        rintro e w7 ⟨rfl, h3, h4⟩
        replace h3 := hid h3
        replace h4 := hid h4
        go_wp2
        go_end0
        refine ⟨rfl, Or2 F (Opt G'), ⟨g', off', some ⟨g', off', none⟩, c', G', ?_⟩, ?_, ?_⟩
        · have := h3.out
          rw [EY.out] at this
          exact this
        · have q1 : Chg F w W := C'.out.mono (fun _ _ h => h.elim)
          have q2 : Chg F w W5 := q1.trans R2'.out (fun i _ h => h)
          have q3 := (q2.drewN 1).trans h2.out (fun i hi h => h.elim id (fun hg => (R3'.out i hg).elim id (fun hh => by have := C'.out.size; omega)))
          exact q3.trans h4.out (fun i hi h => h.elim id (fun hg => (R3'.out i hg).elim id (fun hh => by have := C'.out.size; omega)))
        · rintro i (hi | hi)
          · exact .inl hi
          · rcases R3'.out i hi with h | h
            · exact .inl h
            · exact .inr (by have := C'.out.size; have := hb.out; omega)
    | some m =>
      have EY : entT s x = { x with pin := 2 ^ s.n - 1, r := true, v := m } := by unfold entT; rw [hlo, if_pos hcl]; rfl
      have B2 := B.out.set 9 (.int .i64 m)
      have CB := (Chg.refl (One b) w2).setCell (p := ⟨b, 9, none⟩) (.inl (show One b b from rfl)) (.int .i64 m)
      replace D := hid (D.out.chg CB hdj'.out)
      replace C := hid (C.out.trans CB (fun i hi he => by have : i = b := he; have := hb.out; omega))
      replace B : Hid (Blk (w2.setCell ⟨b, 9, none⟩ (.int .i64 m)) b 185 (stCells { x with pin := 2 ^ s.n - 1, r := true, v := m })) := hid B2
      obtain ⟨y, hy⟩ : ∃ y, y = entT s x := ⟨_, rfl⟩
      rw [← EY, ← hy] at B
      rw [← hy] at YO
      have hye : (({ s with ts := s.ts ++ [y] } : SR).wait s.ts.length).fill = s.enter x := by unfold SR.enter; rw [hy]
      clear hcl hlo EY hy B2 CB
      simp only [Option.isSome_some, lowV]
      go_upto_region 5 with fail
      generalize World.setCell w2 _ _ = W at B D C ⊢
      clear b1 b9 fb9
      have kb := fun j => B.out.cell j
      have kb0 := kb 0
      have kb1 := kb 1
      have kb2 := kb 2
      have kb3 := kb 3
      have kb4 := kb 4
      have kb5 := kb 5
      have kb6 := kb 6
      have kb7 := kb 7
      have kb8 := kb 8
      have kb9 := kb 9
      have kb10 := kb 10
      have kb11 := kb 11
      have kb12 := kb 12
      have kb13 := kb 13
      have kb14 := kb 14
      simp only [stCells, List.getElem?_cons_succ, List.getElem?_cons_zero] at kb0 kb1 kb2 kb3 kb4 kb5 kb6 kb7 kb8 kb9 kb10 kb11 kb12 kb13 kb14
      clear kb
      have c3 := D.out.c3
      have f3 := D.out.fr 3
      have x3 := (D.out.blk.alloc (.cells #[.int .i64 y.t, .int .i64 y.cl, .int .i64 y.va, .int .i64 y.mo, .int .i64 y.wi, .int .i64 y.bu, .int .i64 y.pe, .int .i64 y.le, .int .i64 y.du, .int .i64 y.v, .int .i64 y.si, .int .i64 y.pin, .bool y.r, .bool y.o, .int .i64 y.cpu] 185)).cell 3
      simp only [List.getElem?_cons_succ, List.getElem?_cons_zero] at x3
      have HS : Hid (Sl (W.alloc (.cells #[.int .i64 y.t, .int .i64 y.cl, .int .i64 y.va, .int .i64 y.mo, .int .i64 y.wi, .int .i64 y.bu, .int .i64 y.pe, .int .i64 y.le, .int .i64 y.du, .int .i64 y.v, .int .i64 y.si, .int .i64 y.pin, .bool y.r, .bool y.o, .int .i64 y.cpu] 185)).drew 185 15 a s.ts.length c (s.ts.flatMap stCells) G) := D.out.sl.alloc _
      have HN : Hid (Rd (W.alloc (.cells #[.int .i64 y.t, .int .i64 y.cl, .int .i64 y.va, .int .i64 y.mo, .int .i64 y.wi, .int .i64 y.bu, .int .i64 y.pe, .int .i64 y.le, .int .i64 y.du, .int .i64 y.v, .int .i64 y.si, .int .i64 y.pin, .bool y.r, .bool y.o, .int .i64 y.cpu] 185)).drew (One W.heap.size) 15 (some ⟨W.heap.size, 0, none⟩) 1 1 (stCells y)) := Rd.of_blk (n := 1) (s := 15) (Blk.new W 185 (stCells y)) rfl (by decide)
      have HNE := hid D.out.ne
      go_region_law (refine step_append_sl rfl _ _ eSTask rfl rfl rfl HS.out HN.out (st_one _) (by omega) (by omega) ?_; intro a' c' w4 G' q1 q2 q3; have HB1 := (D.out.blk.alloc (.cells #[.int .i64 y.t, .int .i64 y.cl, .int .i64 y.va, .int .i64 y.mo, .int .i64 y.wi, .int .i64 y.bu, .int .i64 y.pe, .int .i64 y.le, .int .i64 y.du, .int .i64 y.v, .int .i64 y.si, .int .i64 y.pin, .bool y.r, .bool y.o, .int .i64 y.cpu] 185)).drew.chg q2 HNE.out; have e3 := HB1.cell 3; have g3 := HB1.frozen 3; simp only [List.getElem?_cons_succ, List.getElem?_cons_zero] at e3; replace HB1 := hid HB1; replace q1 := hid q1; replace q2 := hid q2; replace q3 := hid q3)
      all_goals
        have FIN := hid (ent_fin D.out HB1.out q1.out q2.out q3.out)
        clear kb0 kb1 kb2 kb3 kb4 kb5 kb6 kb7 kb8 kb9 kb10 kb11 kb12 kb13 kb14 c3 f3 x3 HS HN HNE HB1 e3 g3 q1 q2 q3
        obtain ⟨g', off', rfl, R1, R2, R3⟩ := FIN.out
        have hy2 : (s.ts ++ [y])[s.ts.length]? = some y := by simp
        have OK1 : Hid (SOk M { s with ts := s.ts ++ [y] }) := hid (OK.out.app YO.out hl)
        have WT := hid (swait_ok (World.drew (World.setCell w4 ⟨p, 3, none⟩ (.slice (some ⟨g', off', none⟩) (s.ts.length + 1) c'))) _ p _ g' off' _ c' G' (R1.drewN 1) s.ts.length y hy2 OK1.out.st1 (by have := OK1.out.st2; omega))
        have FL := hid (fun w6 (h : RA w6 (Or2 F (Opt G')) p (({ s with ts := s.ts ++ [y] } : SR).wait s.ts.length) g' off' (some ⟨g', off', none⟩) c' G') => sfill_ok w6 (Or2 F (Opt G')) p (({ s with ts := s.ts ++ [y] } : SR).wait s.ts.length) g' off' _ c' G' h (M + 1) (OK1.out.wait s.ts.length))
        have RC3 := R1.c3
        have e4 : (s.ts ++ [y]).length = s.ts.length + 1 := by simp
        rw [e4] at RC3
        have R2' := hid R2
        have R3' := hid R3
        have EY := hid hye
        have C' := C
        clear R1 R2 R3 hy2 e4 FIN hye
        generalize World.setCell w4 ⟨p, 3, none⟩ (.slice (some ⟨g', off', none⟩) (s.ts.length + 1) c') = W5 at WT RC3 R2' ⊢
        have hwl := IntWalk.i64_in (s.ts.length : Int) (by omega)
        have i1 : (s.ts.length : Int) < (s.ts.length : Int) + 1 := by omega
        go_wp2
        go_region_held3 (fun w' => w'.cell? ⟨p, 3, none⟩ = some (.slice (some ⟨g', off', none⟩) (s.ts.length + 1) c')) (first | exact k1 | go_keep)
          (first | ((with_reducible refine WT.out.mono ?_); rintro e w6 ⟨rfl, h1, h2⟩; have k1 := ent_c3 h1))
        have FL2 := hid (FL.out w6 h1)
        replace h1 := hid h1
        replace h2 := hid h2
        clear FL WT
        go_wp2_with fail
        refine FL2.out.mono ?_
        rintro e w7 ⟨rfl, h3, h4⟩
        replace h3 := hid h3
        replace h4 := hid h4
        go_wp2
        go_end0
        refine ⟨rfl, Or2 F (Opt G'), ⟨g', off', some ⟨g', off', none⟩, c', G', ?_⟩, ?_, ?_⟩
        · have := h3.out
          rw [EY.out] at this
          exact this
        · have q1 : Chg F w W := C'.out.mono (fun _ _ h => h.elim)
          have q2 : Chg F w W5 := q1.trans R2'.out (fun i _ h => h)
          have q3 := (q2.drewN 1).trans h2.out (fun i hi h => h.elim id (fun hg => (R3'.out i hg).elim id (fun hh => by have := C'.out.size; omega)))
          exact q3.trans h4.out (fun i hi h => h.elim id (fun hg => (R3'.out i hg).elim id (fun hh => by have := C'.out.size; omega)))
        · rintro i (hi | hi)
          · exact .inl hi
          · rcases R3'.out i hi with h | h
            · exact .inl h
            · exact .inr (by have := C'.out.size; have := hb.out; omega)
  · have hb1 : (x.cl == 1) = false := by rw [beq_eq_false_iff_ne]; exact hcl
    have EY : entT s x = { x with pin := 2 ^ s.n - 1, r := true } := by unfold entT; rw [if_neg hcl]
    obtain ⟨y, hy⟩ : ∃ y, y = entT s x := ⟨_, rfl⟩
    rw [← EY, ← hy] at B
    rw [← hy] at YO
    have hye : (({ s with ts := s.ts ++ [y] } : SR).wait s.ts.length).fill = s.enter x := by unfold SR.enter; rw [hy]
    obtain ⟨W, hW⟩ : ∃ W, W = w2 := ⟨_, rfl⟩
    rw [← hW] at B D C b1 b9 fb9 ⊢
    clear hcl EY hy hW
    obtain ⟨lv, hlv⟩ : ∃ lv, lv = lowV (lowI s.ts) := ⟨_, rfl⟩
    obtain ⟨lb, hlb⟩ : ∃ lb, lb = (lowI s.ts).isSome := ⟨_, rfl⟩
    rw [← hlv, ← hlb]
    clear hlv hlb
    cases lb
    all_goals
      go_upto_region 5 with fail
      clear b1 b9 fb9
      have kb := fun j => B.out.cell j
      have kb0 := kb 0
      have kb1 := kb 1
      have kb2 := kb 2
      have kb3 := kb 3
      have kb4 := kb 4
      have kb5 := kb 5
      have kb6 := kb 6
      have kb7 := kb 7
      have kb8 := kb 8
      have kb9 := kb 9
      have kb10 := kb 10
      have kb11 := kb 11
      have kb12 := kb 12
      have kb13 := kb 13
      have kb14 := kb 14
      simp only [stCells, List.getElem?_cons_succ, List.getElem?_cons_zero] at kb0 kb1 kb2 kb3 kb4 kb5 kb6 kb7 kb8 kb9 kb10 kb11 kb12 kb13 kb14
      clear kb
      have c3 := D.out.c3
      have f3 := D.out.fr 3
      have x3 := (D.out.blk.alloc (.cells #[.int .i64 y.t, .int .i64 y.cl, .int .i64 y.va, .int .i64 y.mo, .int .i64 y.wi, .int .i64 y.bu, .int .i64 y.pe, .int .i64 y.le, .int .i64 y.du, .int .i64 y.v, .int .i64 y.si, .int .i64 y.pin, .bool y.r, .bool y.o, .int .i64 y.cpu] 185)).cell 3
      simp only [List.getElem?_cons_succ, List.getElem?_cons_zero] at x3
      have HS : Hid (Sl (W.alloc (.cells #[.int .i64 y.t, .int .i64 y.cl, .int .i64 y.va, .int .i64 y.mo, .int .i64 y.wi, .int .i64 y.bu, .int .i64 y.pe, .int .i64 y.le, .int .i64 y.du, .int .i64 y.v, .int .i64 y.si, .int .i64 y.pin, .bool y.r, .bool y.o, .int .i64 y.cpu] 185)).drew 185 15 a s.ts.length c (s.ts.flatMap stCells) G) := D.out.sl.alloc _
      have HN : Hid (Rd (W.alloc (.cells #[.int .i64 y.t, .int .i64 y.cl, .int .i64 y.va, .int .i64 y.mo, .int .i64 y.wi, .int .i64 y.bu, .int .i64 y.pe, .int .i64 y.le, .int .i64 y.du, .int .i64 y.v, .int .i64 y.si, .int .i64 y.pin, .bool y.r, .bool y.o, .int .i64 y.cpu] 185)).drew (One W.heap.size) 15 (some ⟨W.heap.size, 0, none⟩) 1 1 (stCells y)) := Rd.of_blk (n := 1) (s := 15) (Blk.new W 185 (stCells y)) rfl (by decide)
      have HNE := hid D.out.ne
      go_region_law (refine step_append_sl rfl _ _ eSTask rfl rfl rfl HS.out HN.out (st_one _) (by omega) (by omega) ?_; intro a' c' w4 G' q1 q2 q3; have HB1 := (D.out.blk.alloc (.cells #[.int .i64 y.t, .int .i64 y.cl, .int .i64 y.va, .int .i64 y.mo, .int .i64 y.wi, .int .i64 y.bu, .int .i64 y.pe, .int .i64 y.le, .int .i64 y.du, .int .i64 y.v, .int .i64 y.si, .int .i64 y.pin, .bool y.r, .bool y.o, .int .i64 y.cpu] 185)).drew.chg q2 HNE.out; have e3 := HB1.cell 3; have g3 := HB1.frozen 3; simp only [List.getElem?_cons_succ, List.getElem?_cons_zero] at e3; replace HB1 := hid HB1; replace q1 := hid q1; replace q2 := hid q2; replace q3 := hid q3)
      all_goals
        have FIN := hid (ent_fin D.out HB1.out q1.out q2.out q3.out)
        clear kb0 kb1 kb2 kb3 kb4 kb5 kb6 kb7 kb8 kb9 kb10 kb11 kb12 kb13 kb14 c3 f3 x3 HS HN HNE HB1 e3 g3 q1 q2 q3
        obtain ⟨g', off', rfl, R1, R2, R3⟩ := FIN.out
        have hy2 : (s.ts ++ [y])[s.ts.length]? = some y := by simp
        have OK1 : Hid (SOk M { s with ts := s.ts ++ [y] }) := hid (OK.out.app YO.out hl)
        have WT := hid (swait_ok (World.drew (World.setCell w4 ⟨p, 3, none⟩ (.slice (some ⟨g', off', none⟩) (s.ts.length + 1) c'))) _ p _ g' off' _ c' G' (R1.drewN 1) s.ts.length y hy2 OK1.out.st1 (by have := OK1.out.st2; omega))
        have FL := hid (fun w6 (h : RA w6 (Or2 F (Opt G')) p (({ s with ts := s.ts ++ [y] } : SR).wait s.ts.length) g' off' (some ⟨g', off', none⟩) c' G') => sfill_ok w6 (Or2 F (Opt G')) p (({ s with ts := s.ts ++ [y] } : SR).wait s.ts.length) g' off' _ c' G' h (M + 1) (OK1.out.wait s.ts.length))
        have RC3 := R1.c3
        have e4 : (s.ts ++ [y]).length = s.ts.length + 1 := by simp
        rw [e4] at RC3
        have R2' := hid R2
        have R3' := hid R3
        have EY := hid hye
        have C' := C
        clear R1 R2 R3 hy2 e4 FIN hye
        generalize World.setCell w4 ⟨p, 3, none⟩ (.slice (some ⟨g', off', none⟩) (s.ts.length + 1) c') = W5 at WT RC3 R2' ⊢
        have hwl := IntWalk.i64_in (s.ts.length : Int) (by omega)
        have i1 : (s.ts.length : Int) < (s.ts.length : Int) + 1 := by omega
        go_wp2
        go_region_held3 (fun w' => w'.cell? ⟨p, 3, none⟩ = some (.slice (some ⟨g', off', none⟩) (s.ts.length + 1) c')) (first | exact k1 | go_keep)
          (first | ((with_reducible refine WT.out.mono ?_); rintro e w6 ⟨rfl, h1, h2⟩; have k1 := ent_c3 h1))
        have FL2 := hid (FL.out w6 h1)
        replace h1 := hid h1
        replace h2 := hid h2
        clear FL WT
        go_wp2_with fail
        refine FL2.out.mono ?_
        rintro e w7 ⟨rfl, h3, h4⟩
        replace h3 := hid h3
        replace h4 := hid h4
        go_wp2
        go_end0
        refine ⟨rfl, Or2 F (Opt G'), ⟨g', off', some ⟨g', off', none⟩, c', G', ?_⟩, ?_, ?_⟩
        · have := h3.out
          rw [EY.out] at this
          exact this
        · have q1 : Chg F w W := C'.out.mono (fun _ _ h => h.elim)
          have q2 : Chg F w W5 := q1.trans R2'.out (fun i _ h => h)
          have q3 := (q2.drewN 1).trans h2.out (fun i hi h => h.elim id (fun hg => (R3'.out i hg).elim id (fun hh => by have := C'.out.size; omega)))
          exact q3.trans h4.out (fun i hi h => h.elim id (fun hg => (R3'.out i hg).elim id (fun hh => by have := C'.out.size; omega)))
        · rintro i (hi | hi)
          · exact .inl hi
          · rcases R3'.out i hi with h | h
            · exact .inl h
            · exact .inr (by have := C'.out.size; have := hb.out; omega)
end Go.Proofs.YtdcbagmgflcemaaGreatDoor
