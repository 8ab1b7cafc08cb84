/- The walk of the law DeadFirst: it returns true and changes nothing that was there. No condition. -/
import Derived.Test.YtoocjfolhghjoaaMeetMem
import Derived.Test.YtoocjfolhghjoaaMaps
import Derived.Deep.CutBlock
namespace Go.Proofs.Ytoocjfolhghjoaa
open Go.ChangeShapes Go.WideShapes Go.ChangeAt Go.RowKit
set_option linter.unusedVariables false
/-- What is so of the tasks: they are numbered from 1 on, and each is as it may be. -/
structure FInv (m n : Nat) (ts : List DT) : Prop where
  len : ts.length = n
  num : ∀ (i : Nat) x, ts[i]? = some x → x.t = i + 1
  ok : ∀ x ∈ ts, DOk m x
section
variable {m n : Nat} {ts : List DT}
theorem FInv.numbered (h : FInv m n ts) {i : Nat} {x : DT} (hx : ts[i]? = some x) (t : Int) (ht : t = (i : Int) + 1) : Numbered ts i x t := by
  refine ⟨hx, by rw [h.num i x hx]; omega, fun j y hj hy => ?_⟩
  have := h.num j y hy
  omega
theorem FInv.absent (h : FInv m n ts) (t : Int) (ht : (n : Int) < t) : ∀ x ∈ ts, (x.t : Int) ≠ t := by
  intro x hx
  obtain ⟨i, hi⟩ := mem_at hx
  have h1 := h.num i x hi
  have h2 := (List.getElem?_eq_some_iff.1 hi).1
  have h3 := h.len
  omega
theorem FInv.set (h : FInv m n ts) {i : Nat} {x y : DT} (hx : ts[i]? = some x) (ht : y.t = x.t) (hok : DOk m y) : FInv m n (ts.set i y) := by
  refine ⟨by rw [List.length_set]; exact h.len, fun j z hz => ?_, fun z hz => ?_⟩
  · rw [List.getElem?_set] at hz
    split at hz
    · rename_i hij
      subst hij
      split at hz
      · injection hz with hz
        subst hz
        rw [ht]; exact h.num i x hx
      · cases hz
    · exact h.num j z hz
  · rcases List.mem_or_eq_of_mem_set hz with h1 | h1
    · exact h.ok z h1
    · rw [h1]; exact hok
theorem FInv.tick (h : FInv m n ts) {b : Option Nat} (hb : IsFirst ts ts.length b) : FInv (m + 1) n (tickTs m ts b) := by
  refine ⟨by rw [tickTs_eq, List.length_map, ranTs_len]; exact h.len, fun i x hx => ?_, fun x hx => ?_⟩
  · have hi : i < ts.length := by
      have := (List.getElem?_eq_some_iff.1 hx).1
      rwa [tickTs_eq, List.length_map, ranTs_len] at this
    rw [tick_at (List.getElem?_eq_getElem hi)] at hx
    injection hx with hx
    have := h.num i _ (List.getElem?_eq_getElem hi)
    rw [← hx, passT_t]
    split <;> exact this
  · rw [tickTs_eq] at hx
    obtain ⟨y, hy, rfl⟩ := List.mem_map.1 hx
    exact (ran_mem h.ok hb hy).pass.1
theorem FInv.add (h : FInv 0 n ts) {b p : Nat} (hn : n < 16) (b1 : 1 ≤ b) (b2 : b ≤ p) (p2 : p ≤ 30) : FInv 0 (n + 1) (ts ++ [newT (n + 1) b p 0]) := by
  refine ⟨by simp [h.len], fun i x hx => ?_, fun x hx => ?_⟩
  · by_cases hi : i < ts.length
    · rw [List.getElem?_append_left hi] at hx; exact h.num i x hx
    · have hl := (List.getElem?_eq_some_iff.1 hx).1
      have h3 := h.len
      simp at hl
      obtain rfl : i = ts.length := by omega
      rw [List.getElem?_append_right (Nat.le_refl _)] at hx
      simp at hx
      rw [← hx]
      simp [newT, h3]
  · rcases List.mem_append.1 hx with h1 | h1
    · exact h.ok x h1
    · rw [List.mem_singleton.1 h1]; exact ok_new (by omega) (by omega) b1 b2 p2
theorem first_same (h : FInv m n ts) {b b' : Option Nat} (hb : IsFirst ts ts.length b) (hb' : IsFirst ts ts.length b') : b = b' := by
  cases b with
  | none =>
    cases b' with
    | none => rfl
    | some j => obtain ⟨y, h1, h2, h3, _⟩ := hb'; have := hb j y h1 h2; rw [this] at h3; cases h3
  | some i =>
    obtain ⟨x, x1, x2, x3, x4⟩ := hb
    cases b' with
    | none => have := hb' i x x1 x2; rw [this] at x3; cases x3
    | some j =>
      obtain ⟨y, y1, y2, y3, y4⟩ := hb'
      have a1 := x4 j y y1 y2 y3
      have a2 := y4 i x x1 x2 x3
      have n1 := h.num i x x2
      have n2 := h.num j y y2
      unfold ahead at a1 a2
      congr 1
      omega
end
/-- Who is off, as the map has it. -/
def OffOk (ts : List DT) (f : Int → Option Value) : Prop := ∀ (i : Nat) x, ts[i]? = some x → (f ((i : Int) + 1)).getD (.bool false) = .bool (!x.r)
theorem off_set {ts : List DT} {f : Int → Option Value} {i : Nat} {x y : DT} {v : Bool} (h : OffOk ts f) (hx : ts[i]? = some x) (hv : (!y.r) = v) (t : Int) (ht : t = (i : Int) + 1) : OffOk (ts.set i y) (updM f t (some (.bool v))) := by
  subst ht
  intro j z hz
  rw [List.getElem?_set] at hz
  split at hz
  · rename_i hij
    subst hij
    split at hz
    · injection hz with hz
      subst hz
      simp [updM, hv]
    · cases hz
  · rename_i hij
    have := h j z hz
    simp only [updM]
    rw [if_neg (by omega)]
    exact this
theorem off_keep {ts : List DT} {f : Int → Option Value} {i : Nat} {x y : DT} (h : OffOk ts f) (hx : ts[i]? = some x) (hr : y.r = x.r) : OffOk (ts.set i y) f := by
  intro j z hz
  rw [List.getElem?_set] at hz
  split at hz
  · rename_i hij
    subst hij
    split at hz
    · injection hz with hz
      subst hz
      rw [hr]; exact h i x hx
    · cases hz
  · exact h j z hz
theorem off_tick {m : Nat} {ts : List DT} {f : Int → Option Value} {b : Option Nat} (h : OffOk ts f) : OffOk (tickTs m ts b) f := by
  intro i x hx
  have hi : i < ts.length := by
    have := (List.getElem?_eq_some_iff.1 hx).1
    rwa [tickTs_eq, List.length_map, ranTs_len] at this
  rw [tick_at (List.getElem?_eq_getElem hi)] at hx
  injection hx with hx
  have := h i _ (List.getElem?_eq_getElem hi)
  rw [this, ← hx]
  have e : ∀ y : DT, (passT (m + 1) y).r = y.r := fun y => by unfold passT; split <;> rfl
  rw [e]
  split <;> rfl
/-- The class, and the map beside it. -/
structure KMem (B : Nat) (w0 : World) (F : Nat → Prop) (p now : Nat) (ts : List DT) (mb nm : Nat) (f : Int → Option Value) (w : World) : Prop where
  d : DMem B w0 F p now ts w
  mp : MpAt w Try.prog 3 mb nm f
  ge : B ≤ mb
  off : ¬ F mb
  sz : B ≤ w.heap.size
section
variable {B : Nat} {w0 w w' : World} {F : Nat → Prop} {p now : Nat} {ts : List DT} {mb nm : Nat} {f : Int → Option Value}
theorem KMem.drewN (h : KMem B w0 F p now ts mb nm f w) (k : Nat) : KMem B w0 F p now ts mb nm f (w.drewN k) := ⟨h.d.drewN k, h.mp.drewN k, h.ge, h.off, h.sz⟩
theorem KMem.step {F' : Nat → Prop} {now' : Nat} {ts' : List DT} (h : KMem B w0 F p now ts mb nm f w) (hd : DeadAt w' F' p now' ts') (hc : Chg F w w') (hg : Grew w.heap.size F F') : KMem B w0 F' p now' ts' mb nm f w' :=
  ⟨h.d.step hd hc hg h.sz, h.mp.chg hc h.off, h.ge, fun hh => by
    rcases hg mb hh with h1 | h1
    · exact h.off h1
    · have := h.mp.lt; omega, Nat.le_trans h.sz hc.size⟩
theorem KMem.store {nm' : Nat} {f' : Int → Option Value} (h : KMem B w0 F p now ts mb nm f w) (hm : MpAt w' Try.prog 3 mb nm' f') (hc : Chg (One mb) w w') : KMem B w0 F p now ts mb nm' f' w' :=
  ⟨h.d.chg hc (fun k h1 h2 => h.off ((show k = mb from h2) ▸ h1)) h.sz (fun k hk => by rw [show k = mb from hk]; exact h.ge), hm, h.ge, h.off, Nat.le_trans h.sz hc.size⟩
end
theorem zeroBool (w : World) : (zeroValue 4).run Try.prog w = .ok (.bool false) w := by kernel_rfl
set_option maxRecDepth 100000 in
set_option maxHeartbeats 4000000 in
theorem deadFirst_walk (a0 : Option Addr) (len0 cap0 : Nat) (z0 : List Int) (a1 : Option Addr) (len1 cap1 : Nat) (z1 : List Int) (w : World) (w0 : IsRow .i64 w a0 len0 cap0 z0) (w1 : IsRow .i64 w a1 len1 cap1 z1) :
    Calls Try.prog 8 #[.slice a0 len0 cap0, .slice a1 len1 cap1] w fun e w' => e = .returned (.bool true) ∧ Below w.heap.size w w' := by
  have hl1 := w0.1.1
  have hl2 := w0.1.2.1
  have hl3 := w1.1.1
  have hl4 := w1.1.2.1
  unfold maxLen at hl2 hl4
  have Z0 := hid w0.1.ilen
  have W0 := hid w0.1
  have Z1 := hid w1.1.ilen
  have W1 := hid w1.1
  clear w0 w1
  have hmm := @run_makeMap Try.prog
  go_enter Try.func8, Try.ntmps8
  go_wp2_with fail
  refine (dbegun_ok _).mono ?_
  rintro e w1 ⟨rfl, c1⟩
  have C1 := hid (Chg.below c1 (fun i hi h => h) (Nat.le_refl _))
  clear c1
  go_wp2_with fail
  refine (dnew_ok _).mono ?_
  rintro e w2 ⟨F, p, rfl, h2, c2, g2⟩
  have hI : DMem w.heap.size w F p 0 [] w2 := ⟨h2, fun k hk => by
    rcases g2 k hk with h | h
    · exact h.elim
    · have := C1.out.size; omega, C1.out.trans (Chg.below c2 (fun i hi h => h) C1.out.size)⟩
  replace hI := hid hI
  clear h2 c2 g2 C1
  obtain ⟨B, hB⟩ : ∃ B, B = w.heap.size := ⟨_, rfl⟩
  rw [← hB] at hI
  replace hB := hid hB
  go_upto_region 4 with fail
  go_cut [6] (fun s6 wx => wx = w2 ∧ ∃ n : Nat, n ≤ 8 ∧ n ≤ len0 ∧ s6 = .int .i64 n)
  case first =>
    go_wp2
    · go_meet
      exact ⟨rfl, 8, by omega, by omega, rfl⟩
    · go_meet
      exact ⟨rfl, len0, by omega, by omega, by simp⟩
  case rest =>
    obtain ⟨rfl, n, hn1, hn2, rfl⟩ := hcut
    have hF0 : FInv 0 0 [] := ⟨rfl, fun i x h => by simp at h, fun x h => by cases h⟩
    replace hF0 := hid hF0
    go_wp2
    go_loopw [35] (fun s35 wr => ∃ (k : Nat) (F : Nat → Prop) (ts : List DT), k ≤ n ∧ s35 = .int .i64 k ∧ Hid (FInv 0 k ts) ∧ Hid (∀ x ∈ ts, x.r = true) ∧ Hid (DMem B w F p 0 ts wr)) (fun s35 _ => n - (intOf s35).toNat)
    case atStart => exact ⟨0, F, [], by omega, rfl, hF0, (fun x h => by cases h), hI⟩
    case round =>
      clear hF0 hI
      obtain ⟨k, F, ts, hk, rfl, hF, hRd, hJ⟩ := hrel
      have hBw : B ≤ wr.heap.size := by rw [hB.out]; exact hJ.out.size
      have HBL : Hid (Below w.heap.size w wr) := by have := hJ.out.bel; rwa [hB.out] at this
      by_cases hlt : k < n
      · have hz : k < z0.length := by have := Z0.out; omega
        obtain ⟨g, off, rfl, _, _, hc⟩ := (W0.out.below HBL.out (fun _ h => h)).at hz
        have hc1 := hc k hz
        clear hc
        generalize z0[k] = z at hc1
        go_wp2_with fail
        refine (rest_nat _ 30 _ (by omega) (by omega)).mono ?_
        rintro e w3 ⟨p0, hp0, rfl, rfl⟩
        obtain ⟨P, hP⟩ : ∃ P : Nat, 1 + (p0 : Int) = (P : Int) := ⟨p0 + 1, by omega⟩
        have hP1 : 1 ≤ P := by omega
        have hP2 : P ≤ 30 := by omega
        go_wp2_with fail
        refine (rest_nat _ (P : Int) _ (by omega) (by omega)).mono ?_
        rintro e w3 ⟨q0, hq0, rfl, rfl⟩
        obtain ⟨Q, hQ⟩ : ∃ Q : Nat, 1 + (q0 : Int) = (Q : Int) := ⟨q0 + 1, by omega⟩
        have hQ1 : 1 ≤ Q := by omega
        have hQ2 : Q ≤ P := by omega
        have hts : ts.length < 1000 := by have := hF.out.len; omega
        have HNW : Hid (∀ x ∈ ts, x.t ≠ k + 1) := fun x hx he => hF.out.absent ((k : Int) + 1) (by omega) x hx (by omega)
        go_wp2_with fail
        refine (dadd_ok _ F p 0 ts (k + 1) Q P hJ.out.dead hts (by omega) (by omega) (by omega) hQ1 hQ2 hP2 HNW.out).mono ?_
        rintro e w4 ⟨F4, rfl, h4, c4, g4⟩
        have hJ4 := hid (hJ.out.step h4 c4 g4 hBw)
        have hF4 := hid (hF.out.add (by omega) hQ1 hQ2 hP2)
        clear h4 c4 g4
        replace hP := hid hP
        replace hQ := hid hQ
        go_wp2
        go_roundw
        case rel =>
          refine ⟨k + 1, F4, _, by omega, by go_num, hF4, fun x hx => ?_, hJ4⟩
          rcases List.mem_append.1 hx with h1 | h1
          · exact hRd.out x h1
          · rw [List.mem_singleton.1 h1]; rfl
        case measure => simp [intOf]; omega
      · obtain rfl : k = n := by omega
        have hK : KMem B w F p 0 ts wr.heap.size 0 (fun _ => none) (wr.alloc (.map #[] 0)) := ⟨hJ.out.alloc hBw _, MpAt.made wr _ _, hBw, fun hh => by have := hJ.out.dead.lt _ hh; omega, by simp; omega⟩
        have hO : OffOk ts (fun _ => none) := fun i x hx => by rw [hRd.out x (List.mem_of_getElem? hx)]; rfl
        replace hK := hid hK
        replace hO := hid hO
        clear hJ hRd hBw HBL hlt hk
        obtain ⟨mb, hmb⟩ : ∃ mb, mb = wr.heap.size := ⟨_, rfl⟩
        rw [← hmb] at hK
        go_upto_region 13 with fail
        rw [← hmb]
        replace hmb := hid hmb
        clear hmm
        obtain ⟨wz, hwz⟩ : ∃ wz, wz = wr.alloc (.map #[] 0) := ⟨_, rfl⟩
        rw [← hwz] at hK ⊢
        clear hwz
        go_cut [60, 61, 62] (fun s60 s61 s62 wx => wx = wz ∧ ∃ N : Nat, N ≤ 150 ∧ N ≤ len1 ∧ s60 = .slice a1 N cap1 ∧ s61 = .int .i64 N ∧ s62 = .int .i64 0)
        case first =>
          go_wp2
          · go_meet
            exact ⟨rfl, 150, by omega, by omega, rfl, rfl, rfl⟩
          · go_meet
            exact ⟨rfl, len1, by omega, by omega, by simp, by simp, rfl⟩
        case rest =>
          obtain ⟨rfl, N, hN1, hN2, rfl, rfl, rfl⟩ := hcut
          go_wp2
          go_loopw [62] (fun s62 wr => ∃ (m nm : Nat) (F : Nat → Prop) (ts : List DT) (f : Int → Option Value), m ≤ N ∧ nm ≤ m ∧ s62 = .int .i64 m ∧ Hid (FInv m k ts) ∧ Hid (OffOk ts f) ∧ Hid (KMem B w F p m ts mb nm f wr)) (fun s62 _ => N - (intOf s62).toNat)
          case atStart => exact ⟨0, 0, F, ts, _, by omega, by omega, rfl, hF, hO, hK⟩
          case round =>
            clear hF hO hK
            obtain ⟨m, nm, F, ts, f, hm, hnm, rfl, hF, hO, hK⟩ := hrel
            obtain ⟨wo, hwo⟩ : ∃ wo : World, wo = wr := ⟨_, rfl⟩
            subst hwo
            have HBL : Hid (Below w.heap.size w wo) := by have := hK.out.d.bel; rwa [hB.out] at this
            by_cases hlt : m < N
            · have hz : m < z1.length := by have := Z1.out; omega
              obtain ⟨g, off, rfl, _, _, hc⟩ := (W1.out.below HBL.out (fun _ h => h)).at hz
              have hc1 := hc m hz
              clear hc
              generalize z1[m] = z at hc1
              have hts : ts.length ≤ 1000 := by have := hF.out.len; omega
              have HLEN := hid hF.out.len
              go_wp2_with fail
              refine (rest_nat _ 8 _ (by omega) (by omega)).mono ?_
              rintro e w3 ⟨i, hi, rfl, rfl⟩
              have hwf := wf_key (i := 1 + (i : Int)) (by omega) (by omega)
              go_upto_block 4 with (go_at_call 13; refine (rest_nat _ 4 _ (by omega) (by omega)).mono ?_; rintro e w5 ⟨s, hs, rfl, rfl⟩)
              go_cut [72] (fun _ wx => ∃ (ts : List DT) (f : Int → Option Value) (nm : Nat), nm ≤ m + 1 ∧ Hid (FInv m k ts) ∧ Hid (OffOk ts f) ∧ Hid (KMem B w F p m ts mb nm f wx))
              case first =>
                have hs3 : s = 0 ∨ s = 1 ∨ 2 ≤ s := by omega
                by_cases hik : i < k
                · have hil : i < ts.length := by have := HLEN.out; omega
                  have hx := List.getElem?_eq_getElem hil
                  generalize ts[i] = x at hx
                  have HNUM := hid (hF.out.numbered hx (1 + (i : Int)) (by omega))
                  have HX := hid hx
                  have HXK := hid (hF.out.ok x (List.mem_of_getElem? hx))
                  clear hx
                  rcases hs3 with rfl | rfl | hs3
                  · go_wp2_with fail
                    refine (dblock_ok _ F p m ts i x _ hK.out.d.dead hts HNUM.out).mono ?_
                    rintro e w6 ⟨rfl, h6, c6⟩
                    have hK6 := hid (hK.out.step h6 c6 (Grew.refl _ _))
                    have hF6 := hid (hF.out.set (y := { x with r := false }) HX.out rfl HXK.out.block)
                    clear h6 c6
                    cases hr : x.r with
                    | true =>
                      replace hr := hid hr
                      have hO6 := hid (off_set (v := true) (y := { x with r := false }) hO.out HX.out rfl (1 + (i : Int)) (by omega))
                      simp only [if_true]
                      go_wp2_with (at_mapUpdate; refine wpList_store _ rfl _ _ _ 50 rfl (k := 3) (e := 4) Try.underlying3 Try.underlying50 mb nm f rfl hK6.out.mp (by omega) _ _ rfl rfl hwf ?_; intro w7 y1 y2; have hK7 := hid (hK6.out.store y1 y2); clear y1 y2)
                      go_meet
                      exact ⟨_, _, nm + 1, by omega, hF6, hO6, hK7⟩
                    | false =>
                      have hO6 := hid (off_keep (y := { x with r := false }) hO.out HX.out hr.symm)
                      replace hr := hid hr
                      simp only [Bool.false_eq_true, if_false]
                      go_wp2
                      go_meet
                      exact ⟨_, _, nm, by omega, hF6, hO6, hK6⟩
                  · go_wp2_with fail
                    refine (dwake_ok _ F p m ts i x _ hK.out.d.dead hts (by omega) HXK.out HNUM.out).mono ?_
                    rintro e w6 ⟨rfl, h6, c6⟩
                    have hK6 := hid (hK.out.step h6 c6 (Grew.refl _ _))
                    clear h6 c6
                    cases hr : x.r with
                    | true =>
                      have e6 : wokeT m x = x := by simp [wokeT, hr]
                      rw [e6, set_same HX.out] at hK6
                      replace hr := hid hr
                      clear e6
                      simp only [if_true]
                      go_wp2
                      go_meet
                      exact ⟨_, _, nm, by omega, hF, hO, hK6⟩
                    | false =>
                      have e6 : wokeT m x = wakeT m x := by simp [wokeT, hr]
                      rw [e6] at hK6
                      have e7 : (!(wakeT m x).r) = false := by unfold wakeT; split <;> rfl
                      have hO6 := hid (off_set (v := false) hO.out HX.out e7 (1 + (i : Int)) (by omega))
                      have hF6 := hid (hF.out.set (y := wakeT m x) HX.out (wakeT_t m x) HXK.out.wake)
                      clear e6 e7
                      replace hr := hid hr
                      simp only [Bool.false_eq_true, if_false]
                      go_wp2_with (at_mapUpdate; refine wpList_store _ rfl _ _ _ 50 rfl (k := 3) (e := 4) Try.underlying3 Try.underlying50 mb nm f rfl hK6.out.mp (by omega) _ _ rfl rfl hwf ?_; intro w7 y1 y2; have hK7 := hid (hK6.out.store y1 y2); clear y1 y2)
                      go_meet
                      exact ⟨_, _, nm + 1, by omega, hF6, hO6, hK7⟩
                  · have b0 : ((s : Int) == 0) = false := by rw [beq_eq_false_iff_ne]; omega
                    have b1 : ((s : Int) == 1) = false := by rw [beq_eq_false_iff_ne]; omega
                    go_wp2
                    go_meet
                    exact ⟨ts, f, nm, by omega, hF, hO, hK⟩
                · have HAB := hid (hF.out.absent (1 + (i : Int)) (by omega))
                  rcases hs3 with rfl | rfl | hs3
                  · go_wp2_with fail
                    refine (dblock_no _ F p m ts _ hK.out.d.dead hts HAB.out).mono ?_
                    rintro e w6 ⟨rfl, rfl⟩
                    go_wp2
                    go_meet
                    exact ⟨ts, f, nm, by omega, hF, hO, hK⟩
                  · go_wp2_with fail
                    refine (dwake_no _ F p m ts _ hK.out.d.dead hts HAB.out).mono ?_
                    rintro e w6 ⟨rfl, rfl⟩
                    go_wp2
                    go_meet
                    exact ⟨ts, f, nm, by omega, hF, hO, hK⟩
                  · have b0 : ((s : Int) == 0) = false := by rw [beq_eq_false_iff_ne]; omega
                    have b1 : ((s : Int) == 1) = false := by rw [beq_eq_false_iff_ne]; omega
                    go_wp2
                    go_meet
                    exact ⟨ts, f, nm, by omega, hF, hO, hK⟩
              case rest =>
                clear hF hO hK HLEN hts
                obtain ⟨ts, f, nm, hnm, hF, hO, hK⟩ := hcut
                obtain ⟨wv, rfl⟩ : ∃ wv : World, wv = wc := ⟨_, rfl⟩
                have hts : ts.length ≤ 1000 := by have := hF.out.len; omega
                have HLEN := hid hF.out.len
                go_wp2_with fail
                refine (dpick_ok _ F p m ts hK.out.d.dead hts).mono ?_
                rintro e w7 ⟨b, hb, rfl, q7, rfl⟩
                have hLK : ∀ (i : Nat) (x : DT) (q : Nat), ts[i]? = some x → i < 16 → (Instr.lookup 50 (.map (some mb)) (.int .i64 ((i : Int) + 1)) false).run Try.prog (wv.drewN q) = .ok (.bool (!x.r)) (wv.drewN q) := fun i x q hx hi => by
                  have h1 := (hK.out.mp.drewN q).look (t := 50) (e := 4) Try.underlying3 Try.underlying50 (zeroBool _) ((i : Int) + 1) (wf_key (by omega) (by omega))
                  rwa [hO.out i x hx] at h1
                replace hLK := hid hLK
                replace hb := hid hb
                obtain ⟨T, hT⟩ : ∃ T, T = numOf ts b := ⟨_, rfl⟩
                obtain ⟨E, hE⟩ : ∃ E : Int, E = if b.isSome then 0 else 4 := ⟨_, rfl⟩
                rw [← hT, ← hE]
                have HT := hid hT
                have HE := hid hE
                clear hT hE
                go_upto_if 94 with (fail)
                go_cut [15] (fun s15 wx => (∃ q, wx = wv.drewN q) ∧ ∃ best : Nat, s15 = .int .i64 best ∧ Hid (∀ j y, b = some j → ts[j]? = some y → best = y.d))
                case first =>
                  cases b with
                  | none =>
                    obtain rfl : E = 4 := HE.out
                    go_wp2
                    go_meet
                    exact ⟨⟨_, rfl⟩, 0, rfl, fun j y h => by cases h⟩
                  | some j =>
                    obtain rfl : E = 0 := HE.out
                    obtain ⟨y, hj, hy, hey, _⟩ := id hb.out
                    have hn := hF.out.num j y hy
                    have hT : T = j + 1 := by rw [HT.out]; simp [numOf, hy, hn]
                    obtain ⟨hr, ho⟩ : y.r = true ∧ y.o = false := by unfold elig at hey; simpa using hey
                    have hoy := hF.out.ok y (List.mem_of_getElem? hy)
                    have hl1 : 1 ≤ y.l := by
                      rcases Nat.eq_zero_or_pos y.l with hl | hl
                      · have := hoy.oz.2 hl; rw [ho] at this; cases this
                      · exact hl
                    have hj16 : j < 16 := by have := HLEN.out; omega
                    have HNU := hid (hF.out.numbered hy (T : Int) (by omega))
                    have HY := hid hy
                    have HLY : Hid (∀ q, (Instr.lookup 50 (.map (some mb)) (.int .i64 (T : Int)) false).run Try.prog (wv.drewN q) = .ok (.bool false) (wv.drewN q)) := fun q => by
                      have := hLK.out j y q hy hj16
                      rwa [hr, show (j : Int) + 1 = (T : Int) by omega] at this
                    clear hy hey hn hT hoy
                    replace hr := hid hr
                    go_wp2_with fail
                    refine (dat_ok _ F p m ts j y _ (hK.out.d.drewN q7).dead hts HNU.out).mono ?_
                    rintro e w8 ⟨rfl, q8, rfl⟩
                    rw [ho]
                    replace ho := hid ho
                    have hlk := HLY.out
                    go_wp2
                    go_meet
                    refine ⟨⟨_, rfl⟩, y.d, rfl, fun j' y' h h' => ?_⟩
                    injection h with h
                    subst h
                    rw [HY.out] at h'
                    injection h' with h'
                    rw [h']
                case rest =>
                  obtain ⟨⟨q0, rfl⟩, best, rfl, hbest⟩ := hcut
                  go_wp2
                  go_loopw [20] (fun s20 wr => ∃ (x q : Nat), x ≤ k ∧ s20 = .int .i64 ((x : Int) + 1) ∧ wr = wv.drewN q) (fun s20 _ => k + 1 - (intOf s20).toNat)
                  case atStart => exact ⟨0, q0, by omega, rfl, rfl⟩
                  case round =>
                    obtain ⟨i, q, hi', rfl, rfl⟩ := hrel
                    by_cases hik : i < k
                    · have hil : i < ts.length := by have := HLEN.out; omega
                      have hx := List.getElem?_eq_getElem hil
                      generalize ts[i] = x at hx
                      have HNU := hid (hF.out.numbered hx ((i : Int) + 1) rfl)
                      have hnx := hF.out.num i x hx
                      have HX := hid hx
                      have HLX : Hid (∀ q, (Instr.lookup 50 (.map (some mb)) (.int .i64 ((i : Int) + 1)) false).run Try.prog (wv.drewN q) = .ok (.bool (!x.r)) (wv.drewN q)) := fun q => hLK.out i x q hx (by omega)
                      clear hx
                      go_wp2_with fail
                      refine (dat_ok _ F p m ts i x _ (hK.out.d.drewN q).dead hts HNU.out).mono ?_
                      rintro e w8 ⟨rfl, q8, rfl⟩
                      have hlk := HLX.out
                      cases hr : x.r with
                      | false =>
                        simp only [hr, Bool.not_false] at hlk
                        replace hr := hid hr
                        go_wp2
                        go_roundw
                        case rel => exact ⟨i + 1, _, by omega, by go_num, rfl⟩
                        case measure => simp [intOf]; omega
                      | true =>
                        simp only [hr, Bool.not_true] at hlk
                        cases ho : x.o with
                        | true =>
                          replace hr := hid hr
                          replace ho := hid ho
                          go_wp2
                          go_roundw
                          case rel => exact ⟨i + 1, _, by omega, by go_num, rfl⟩
                          case measure => simp [intOf]; omega
                        | false =>
                          have hex : elig x = true := by simp [elig, hr, ho]
                          cases b with
                          | none => exact absurd (hb.out i x hil HX.out) (by rw [hex]; decide)
                          | some j =>
                            obtain ⟨y, hj, hy, hey, hmin⟩ := id hb.out
                            have hah := hmin i x hil HX.out hex
                            have hny := hF.out.num j y hy
                            have hT : T = j + 1 := by rw [HT.out]; simp [numOf, hy, hny]
                            obtain rfl : E = 0 := HE.out
                            have hbd := hbest.out j y rfl hy
                            have h1 : best ≤ x.d := by unfold ahead at hah; omega
                            have h2 : x.d = best → T ≤ i + 1 := by unfold ahead at hah; omega
                            have t1 : decide ((x.d : Int) < (best : Int)) = false := by simp; omega
                            clear hah hmin hey hy hj
                            replace hr := hid hr
                            replace ho := hid ho
                            replace hex := hid hex
                            replace hbd := hid hbd
                            by_cases hdb : x.d = best
                            · have t2 : ((x.d : Int) == (best : Int)) = true := by rw [beq_iff_eq]; omega
                              have t3 : decide ((i : Int) + 1 < (T : Int)) = false := by have := h2 hdb; simp; omega
                              clear h2
                              replace hdb := hid hdb
                              replace hT := hid hT
                              replace hny := hid hny
                              replace hnx := hid hnx
                              go_wp2
                              go_roundw
                              case rel => exact ⟨i + 1, _, by omega, by go_num, rfl⟩
                              case measure => simp [intOf]; omega
                            · have t2 : ((x.d : Int) == (best : Int)) = false := by rw [beq_eq_false_iff_ne]; omega
                              clear h2
                              replace hT := hid hT
                              replace hny := hid hny
                              replace hnx := hid hnx
                              go_wp2
                              go_roundw
                              case rel => exact ⟨i + 1, _, by omega, by go_num, rfl⟩
                              case measure => simp [intOf]; omega
                    · go_wp2_with fail
                      refine (dtick_ok _ F p m ts (hK.out.d.drewN q).dead hts (by omega) hF.out.ok).mono ?_
                      rintro e w9 ⟨b9, hb9, rfl, h9, c9⟩
                      obtain rfl := first_same hF.out hb.out hb9
                      have hK9 := hid ((hK.out.drewN q).step h9 c9 (Grew.refl _ _))
                      have hF9 := hid (hF.out.tick hb9)
                      have hO9 := hid (off_tick (m := m) (b := b) hO.out)
                      clear h9 c9 hb9
                      rw [← HT.out]
                      go_wp2
                      go_roundw
                      case rel => exact ⟨m + 1, nm, F, _, f, by omega, by omega, by go_num, hF9, hO9, hK9⟩
                      case measure => simp [intOf]; omega
            · go_wp2
              go_ret
              exact ⟨rfl, HBL.out⟩
end Go.Proofs.Ytoocjfolhghjoaa
