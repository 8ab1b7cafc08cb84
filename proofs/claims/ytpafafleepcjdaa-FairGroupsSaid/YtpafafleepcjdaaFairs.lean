/- Contracts of what the laws on shares begin with: fairs, fairBegun. Condition: at most 16 weights. -/
import Derived.Test.YtpafafleepcjdaaFair4
import Derived.Test.YtpafafleepcjdaaFairQ
import Derived.Deep.DeepCutAuto
namespace Go.Proofs.Ytpafafleepcjdaa
open Go.ChangeShapes Go.WideShapes Go.ChangeAt Go.RowKit
set_option linter.unusedVariables false
/-- The class, in blocks from B on; nothing below B has changed. -/
structure FMem (B : Nat) (w0 : World) (F : Nat → Prop) (p : Nat) (ts : List FT) (w : World) : Prop where
  fair : FairAt w F p ts
  new : ∀ k, F k → B ≤ k
  bel : Below B w0 w
  sz : B ≤ w.heap.size
section
variable {B : Nat} {w0 w w' : World} {F H : Nat → Prop} {p : Nat} {ts : List FT}
theorem FMem.alloc (h : FMem B w0 F p ts w) (o : Obj) : FMem B w0 F p ts (w.alloc o) := ⟨h.fair.chg ((Chg.refl Nil w).alloc o) (fun _ _ h => h), h.new, h.bel.alloc h.sz o, by have := h.sz; simp; omega⟩
theorem FMem.drewN (h : FMem B w0 F p ts w) (n : Nat) : FMem B w0 F p ts (w.drewN n) := ⟨h.fair.chg ((Chg.refl Nil w).drewN n) (fun _ _ h => h), h.new, ⟨h.bel.os, h.bel.tape, h.bel.output, h.bel.size, h.bel.block⟩, h.sz⟩
theorem FMem.step {F' : Nat → Prop} {ts' : List FT} (h : FMem B w0 F p ts w) (hd : FairAt w' F' p ts') (hc : Chg F w w') (hg : Grew w.heap.size F F') : FMem B w0 F' p ts' w' :=
  ⟨hd, fun k hk => by
    rcases hg k hk with h1 | h1
    · exact h.new k h1
    · have := h.sz; omega, h.bel.trans (hc.below (fun i hi hf => by have := h.new i hf; omega) h.sz), Nat.le_trans h.sz hc.size⟩
theorem FMem.chg (h : FMem B w0 F p ts w) (hc : Chg H w w') (hd : Dj F H) (hH : ∀ k, H k → B ≤ k) : FMem B w0 F p ts w' :=
  ⟨h.fair.chg hc hd, h.new, h.bel.trans (hc.below (fun i hi hf => by have := hH i hf; omega) h.sz), Nat.le_trans h.sz hc.size⟩
end
/-- Reading what lies below. -/
theorem Rd.below {B : Nat} {w0 w : World} {R : Nat → Prop} {s n c : Nat} {a : Option Addr} {xs : List Value} (h : Rd w0 R s a n c xs) (hb : Below B w0 w) (hR : ∀ g, R g → g < B) : Rd w R s a n c xs := by
  obtain ⟨h1, h2, h3, h4⟩ := h
  refine ⟨h1, h2, h3, fun hn => ?_⟩
  obtain ⟨g, off, r1, r2, r3, r4⟩ := h4 hn
  exact ⟨g, off, r1, Nat.lt_of_lt_of_le r2 hb.size, r3, fun j hj => (hb.cell (p := ⟨g, off + j, none⟩) (hR g r3)).trans (r4 j hj)⟩
theorem Rd.upto {w : World} {R : Nat → Prop} {s n c : Nat} {a : Option Addr} {xs : List Value} (h : Rd w R s a n c xs) : Rd w (Upto w.heap.size) s a n c xs := by
  obtain ⟨q1, q2, q3, q4⟩ := h
  refine ⟨q1, q2, q3, fun hn => ?_⟩
  obtain ⟨g, off, r1, r2, r3, r4⟩ := q4 hn
  exact ⟨g, off, r1, r2, r2, r4⟩
def PFairs (zs : List Int) (w : World) (e : Ending) (w' : World) : Prop := ∃ F p, e = .returned (.tuple #[.pointer (some ⟨p, 0, none⟩), .bool true]) ∧ FMem w.heap.size w F p (mkF zs zs.length) w'
set_option maxHeartbeats 1000000 in
theorem fairs_ok (R : Nat → Prop) (a : Option Addr) (n c : Nat) (zs : List Int) (w : World) (h : Rd w R 1 a n c (ints .i64 zs)) (hn : n ≤ 16) :
    Calls Try.prog 11 #[.slice a n c] w (PFairs zs w) := by
  obtain rfl := h.ilen
  have H := hid h.upto
  clear h
  go_enter Try.func11, Try.ntmps11
  go_wp2_with fail
  refine (fnew_ok w).mono ?_
  rintro e w1 ⟨F, p, rfl, h1, c1, g1⟩
  have hI : FMem w.heap.size w F p (mkF zs 0) w1 := ⟨h1, fun k hk => by
    rcases g1 k hk with h | h
    · exact h.elim
    · exact h, Chg.below c1 (fun i hi h => h) (Nat.le_refl _), c1.size⟩
  replace hI := hid hI
  clear h1 c1 g1
  go_wp2
  go_loopw [12] (fun s12 wr => ∃ (k : Nat) (F : Nat → Prop), k ≤ zs.length ∧ s12 = .int .i64 k ∧ Hid (FMem w.heap.size w F p (mkF zs k) wr)) (fun s12 _ => zs.length - (intOf s12).toNat)
  case atStart => exact ⟨0, F, by omega, rfl, hI⟩
  case round =>
    clear hI
    obtain ⟨k, F, hk, rfl, hJ⟩ := hrel
    by_cases hlt : k < zs.length
    · obtain ⟨g, off, rfl, _, _, hc⟩ := (H.out.below hJ.out.bel (fun _ h => h)).at hlt
      have hck := hc k hlt
      clear hc
      have HS := hid (mkF_succ zs k hlt)
      have HIN := hid (mkF_inv zs k (by omega))
      generalize zs[k] = z at *
      have hz1 := wtF_int z
      have hz2 := wtF_le z
      have hz3 := rest_nonneg z 100 (by omega)
      have hz4 := rest_lt z 100 (by omega)
      have HZ := hid hz1
      clear hz1
      go_wp2_with fail
      refine (rest_any _ _ _ (by omega) (by omega)).mono ?_
      rintro e w2 ⟨rfl, rfl⟩
      have hz5 : 1 + rest z 100 = (wtF z : Int) := HZ.out
      go_wp2_with fail
      refine (fadd_ok _ F p (mkF zs k) (k + 1) (wtF z) hJ.out.fair (by rw [mkF_len]; omega) (by omega) (by omega) hz2.1 hz2.2 HIN.out.gz (HIN.out.absent (k + 1) (by omega))).mono ?_
      rintro e w3 ⟨F3, o, ho, rfl, h3, c3, g3⟩
      rw [show newF (k + 1) (wtF z) = ⟨k + 1, wtF z, 0, 0, false⟩ from rfl, mkF_woken zs k o ho, ← HS.out] at h3
      have hJ3 := hid (hJ.out.step h3 c3 g3)
      clear h3 c3 g3 ho hz5
      go_wp2
      go_roundw
      case rel => exact ⟨k + 1, F3, by omega, by go_num, hJ3⟩
      case measure => simp [intOf]; omega
    · obtain rfl : k = zs.length := by omega
      go_wp2
      go_ret2
      exact ⟨F, p, rfl, hJ.out⟩
/-- A tick, where it is known who is first. -/
theorem ftick_at (w : World) (F : Nat → Prop) (p V n : Nat) (ts : List FT) (j : Nat) (y : FT) (t : Int) (h : FairAt w F p ts) (hn : n ≤ 1000) (hV : V ≤ 1000000000000000) (hI : NInv V n ts) (hy : ts[j]? = some y) (hr : y.r = true) (hmin : ∀ (i : Nat) x, ts[i]? = some x → x.r = true → aheadF y x) (ht : t = (j : Int) + 1) :
    Calls Try.prog 12 #[.pointer (some ⟨p, 0, none⟩)] w fun e w' => e = .returned (.tuple #[.int .i64 t, .int .i64 0]) ∧ FairAt w' F p (tickF ts (some j)) ∧ Chg F w w' := by
  have hj : j < n := by have := (List.getElem?_eq_some_iff.1 hy).1; rw [hI.len] at this; exact this
  refine (ftick_ok w F p V ts h (by rw [hI.len]; exact hn) hV hI.ok).mono ?_
  rintro e w' ⟨b, hb, rfl, h1, h2⟩
  obtain rfl := hI.first hb hy hr hmin
  rw [hI.numF hj]
  subst ht
  exact ⟨rfl, h1, h2⟩
theorem fbegun_ok (w : World) : Calls Try.prog 9 #[] w fun e w' => e = .returned (.bool true) ∧ Chg Nil w w' := by
  have HR := hid (Rd.of_blk (n := 2) (s := 1) (Blk.new w 3 (ints .i64 [0, 0])) rfl (by decide))
  go_enter Try.func9, Try.ntmps9
  go_wp2_with fail
  refine (fairs_ok _ _ 2 2 [0, 0] _ HR.out (by omega)).mono ?_
  rintro e w1 ⟨F, p, rfl, h1⟩
  have hI := mkF_inv [0, 0] 2 (by omega)
  replace h1 := hid h1
  replace hI := hid hI
  go_wp2_with fail
  refine (ftick_at _ F p 0 2 _ 0 ⟨1, wtF 0, 0, 0, true⟩ 1 h1.out.fair (by omega) (by omega) hI.out rfl rfl (fun i x hx hr => ?_) (by omega)).mono ?_
  · have hi : i < 2 := by have := (List.getElem?_eq_some_iff.1 hx).1; simpa [mkF] using this
    rw [show [(0 : Int), 0].length = 2 from rfl, mkF_get [0, 0] 2 i hi] at hx
    injection hx with hx
    rw [← hx]
    refine .inr ⟨rfl, ?_⟩
    show 1 ≤ i + 1
    omega
  rintro e w2 ⟨rfl, h2, c2⟩
  have h2' := hid (h1.out.step h2 c2 (Grew.refl _ _))
  have hI2 := hid (hI.out.tick (some 0))
  clear h2 c2
  go_wp2_with fail
  refine (ftick_at _ F p _ 2 _ 1 ⟨2, wtF 0, 0, 0, true⟩ 2 h2'.out.fair (by omega) (by omega) hI2.out rfl rfl (fun i x hx hr => ?_) (by omega)).mono ?_
  · rw [tickF_get] at hx
    rcases i with _ | _ | i
    · have : x = ⟨1, wtF 0, 0, 0 + cost (wtF 0), true⟩ := by injection hx with hx; exact hx.symm
      subst this
      refine .inl ?_
      show 0 < 0 + cost (wtF 0)
      decide
    · have : x = ⟨2, wtF 0, 0, 0, true⟩ := by injection hx with hx; exact hx.symm
      subst this
      exact aheadF_refl _
    · simp [mkF] at hx
  rintro e w3 ⟨rfl, h3, c3⟩
  have h3' := h2'.out.step h3 c3 (Grew.refl _ _)
  go_wp2
  go_ret
  exact ⟨rfl, push_chg (Chg.of_below h3'.bel Nil)⟩
end Go.Proofs.Ytpafafleepcjdaa
