/- Sleep that sleeps, and waitBegun. Conditions: at most 999 wait. -/
import Derived.Test.YtaffkdoiooablaaWait3
namespace Go.Proofs.Ytaffkdoiooablaa
open Go.ChangeShapes Go.WideShapes Go.ChangeAt Go.RowKit
set_option linter.unusedVariables false
set_option maxHeartbeats 2000000 in
theorem qsleep_yes (w : World) (F : Nat → Prop) (p : Nat) (l : List WT) (n : Int) (nm : Nat) (f : Int → Option Value) (t : Int) (al : Bool) (h : QAt w F p l n nm f) (hl : l.length ≤ 999) (t1 : 1 ≤ t) (t2 : t ≤ 16) (hn0 : 0 ≤ n) (hn1 : n ≤ 1000000) (hf : f t = some (.int .i64 (n + 1))) (ht : waits l t = false) :
    Calls Try.prog 29 #[.pointer (some ⟨p, 0, none⟩), .int .i64 t, .bool al] w (PQ F p (l ++ [WT.mk t al]) n nm (updM f t none) (.tuple #[.bool true, .int .i64 0]) w) := by
  obtain ⟨a, c, G, mb, h⟩ := h
  have d1 := h.c1
  have hlk := h.mp.look (t := 73) (e := 3) Try.underlying3 Try.underlying73 (zeroInt w) t (wf_key (by omega) (by omega))
  rw [hf] at hlk
  simp only [Option.getD_some] at hlk
  have hm0 : (n + 1 == 0) = false := by rw [beq_eq_false_iff_ne]; omega
  have HH := hid (has_any w F p l n nm f a c G mb t h (by omega))
  rw [ht] at HH
  have H := hid h
  have hwf := wf_key (i := t) (by omega) (by omega)
  clear h hf ht
  go_enter Try.func29, Try.ntmps29
  go_wp2_with fail
  refine HH.out.mono ?_
  rintro e w1 ⟨rfl, c1⟩
  have H1 := H.out.nil c1
  have e1 := H1.c1
  have C1 := hid c1
  replace H1 := hid H1
  clear c1 HH
  go_wp2_with (first | (at_delete; refine wpList_drop _ rfl _ _ 73 3 rfl (e := 3) Try.underlying3 Try.underlying73 mb nm f rfl H1.out.mp _ rfl hwf ?_; intro w2 r1 r2; have H2 : QA w2 F p l n nm (updM f t none) a c G mb := ⟨H1.out.blk.chg r2 (fun hh => H1.out.pm ((show p = mb from hh).symm)), H1.out.sl.chg r2 (fun g hg hh => H1.out.nmb (by rw [hg, show g = mb from hh])), r1, H1.out.fp, H1.out.fm, H1.out.fg, H1.out.nmb, H1.out.pm, fun k hk => Nat.lt_of_lt_of_le (H1.out.lt k hk) r2.size⟩; have k2 := H2.c2; have k0 := H2.c0; have HS := hid (H2.sl.alloc (.cells #[.int .i64 t, .bool al] 78)); have HN := hid (Rd.of_blk (n := 1) (s := 2) (Blk.new w2 78 (wtCells (WT.mk t al))) rfl (by decide)); replace H2 := hid H2; replace r1 := hid r1; replace r2 := hid r2) | (at_builtin; refine wpList_append_sl rfl _ _ eWaiter rfl rfl rfl HS.out HN.out (wt_one _) (by omega) (by omega) ?_; intro a' c' w3 G' q1 q2 q3; have HB1 := (H2.out.blk.alloc (.cells #[.int .i64 t, .bool al] 78)).chg q2 H2.out.ne; have e0 := HB1.cell 0; have g0 := HB1.frozen 0; simp only [List.getElem?_cons_zero] at e0; replace HB1 := hid HB1; replace q1 := hid q1; replace q2 := hid q2; replace q3 := hid q3))
  go_ret2
  have hs : Sl w3 78 2 a' (l ++ [WT.mk t al]).length c' ((l ++ [WT.mk t al]).flatMap wtCells) G' := by
    have h1 := q1.out
    have h2 : l.flatMap wtCells ++ wtCells (WT.mk t al) = (l ++ [WT.mk t al]).flatMap wtCells := by simp
    rw [h2] at h1
    simpa using h1
  have hG : ∀ g, G' = some g → G = some g ∨ w2.heap.size ≤ g := fun g hg => by
    rcases q3.out with h3 | h3 <;> rw [h3] at hg
    · exact .inl hg
    · injection hg with hg; simp at hg; exact .inr (by omega)
  have hcs := q2.out.size
  have hsz : w2.heap.size ≤ w3.heap.size := by simp at hcs; omega
  have hq := H2.out.lay (u := 0) (l' := l ++ [WT.mk t al]) HB1.out hs ((H2.out.mp.alloc _).chg q2.out (fun hh => H2.out.nmb hh)) hsz hG
  have hC2 : Chg F w w2 := (C1.out.mono (G := F) (fun _ _ h => h.elim)).trans r2.out (fun i _ hh => by rw [show i = mb from hh]; exact H1.out.fm)
  refine ⟨Or2 F (Opt G'), rfl, ⟨a', c', G', mb, ?_⟩, ?_, ?_⟩
  · have e : (l ++ [WT.mk t al]).length = l.length + 1 := by simp
    rw [e] at hq
    exact hq
  · have h0 : Chg F w w3 := (hC2.alloc _).trans q2.out (fun i _ h => H2.out.fg i h)
    exact h0.setCell (p := ⟨p, 0, none⟩) (.inl H2.out.fp) _
  · rintro k (hF | hG')
    · exact .inl hF
    · rcases hG k hG' with h1 | h1
      · exact .inl (H2.out.fg k h1)
      · exact .inr (Nat.le_trans hC2.size h1)
/-- The queue, in blocks from B on; nothing below B has changed. -/
structure QMem (B : Nat) (w0 : World) (F : Nat → Prop) (p : Nat) (l : List WT) (n : Int) (nm : Nat) (f : Int → Option Value) (w : World) : Prop where
  q : QAt w F p l n nm f
  new : ∀ k, F k → B ≤ k
  bel : Below B w0 w
  sz : B ≤ w.heap.size
section
variable {B : Nat} {w0 w w' : World} {F : Nat → Prop} {p : Nat} {l : List WT} {n : Int} {nm : Nat} {f : Int → Option Value}
theorem QMem.step {F' : Nat → Prop} {l' : List WT} {n' : Int} {nm' : Nat} {f' : Int → Option Value} (h : QMem B w0 F p l n nm f w) (hd : QAt w' F' p l' n' nm' f') (hc : Chg F w w') (hg : Grew w.heap.size F F') : QMem B w0 F' p l' n' nm' f' w' :=
  ⟨hd, fun k hk => by
    rcases hg k hk with h1 | h1
    · exact h.new k h1
    · have := h.sz; omega, h.bel.trans (hc.below (fun i hi hf => by have := h.new i hf; omega) h.sz), Nat.le_trans h.sz hc.size⟩
theorem QMem.nil (h : QMem B w0 F p l n nm f w) (hc : Chg Nil w w') : QMem B w0 F p l n nm f w' :=
  h.step (h.q.chg hc (fun _ _ h => h)) (hc.mono (fun _ _ h => h.elim)) (Grew.refl _ _)
end
theorem Rd.below {B : Nat} {w0 w : World} {R : Nat → Prop} {s n c : Nat} {a : Option Addr} {xs : List Value} (h : Rd w0 R s a n c xs) (hb : Below B w0 w) (hR : ∀ g, R g → g < B) : Rd w R s a n c xs := by
  obtain ⟨h1, h2, h3, h4⟩ := h
  refine ⟨h1, h2, h3, fun hn => ?_⟩
  obtain ⟨g, off, r1, r2, r3, r4⟩ := h4 hn
  exact ⟨g, off, r1, Nat.lt_of_lt_of_le r2 hb.size, r3, fun j hj => (hb.cell (p := ⟨g, off + j, none⟩) (hR g r3)).trans (r4 j hj)⟩
theorem qnew_mem (w w1 : World) (F : Nat → Prop) (p : Nat) (w0 : World) (hb : Below w0.heap.size w0 w) (h : QAt w1 F p [] 0 0 (fun _ => none)) (hc : Chg Nil w w1) (hg : Grew w.heap.size Nil F) : QMem w0.heap.size w0 F p [] 0 0 (fun _ => none) w1 :=
  ⟨h, fun k hk => by
    rcases hg k hk with h1 | h1
    · exact h1.elim
    · exact Nat.le_trans hb.size h1, hb.trans (hc.below (fun i hi h => h) hb.size), Nat.le_trans hb.size hc.size⟩
theorem qbegun_ok (w : World) : Calls Try.prog 24 #[] w fun e w' => e = .returned (.bool true) ∧ Chg Nil w w' := by
  go_enter Try.func24, Try.ntmps24
  go_wp2_with fail
  refine (qnew_ok w).mono ?_
  rintro e w1 ⟨F, p, rfl, h1, c1, g1⟩
  have hM := hid (qnew_mem w w1 F p w (Below.refl _ w) h1 c1 g1)
  clear h1 c1 g1
  go_wp2_with fail
  refine (qadd_ok _ F p [] 0 0 _ 3 true hM.out.q (by simp) (by omega) (by omega) rfl).mono ?_
  rintro e w2 ⟨F2, rfl, h2, c2, g2⟩
  have hM2 := hid (hM.out.step h2 c2 g2)
  clear h2 c2 g2 hM
  go_wp2_with fail
  refine (qwake_all _ F2 p _ 0 0 _ 1 hM2.out.q (by simp) (by simp [alone]) (by omega) (by omega) (by omega)).mono ?_
  rintro e w3 ⟨a, c, G, rfl, s3, h3, c3, g3⟩
  have hM3 := hid (hM2.out.step h3 c3 (Grew.refl _ _))
  have S3 := hid (s3.rd.alloc (.cells #[.int .i64 3] 3))
  have N3 := hid (Rd.of_blk (n := 1) (s := 1) (Blk.new w3 3 (ints .i64 [3])) rfl (by decide))
  have heq : eqI ([WT.mk 3 true].map WT.t) [3] = true := eqI_true rfl
  clear s3 h3 c3 g3 hM2
  go_wp2_with fail
  refine (equal_int _ _ _ _ _ _ _ _ ([WT.mk 3 true].map WT.t) [3] _ S3.out N3.out (by simp) (by omega)).mono ?_
  rw [heq]
  rintro e w4 ⟨rfl, q, rfl⟩
  go_wp2
  go_ret
  have := (hM3.out.nil (((Chg.refl Nil w3).alloc (.cells #[.int .i64 3] 3)).drewN q)).bel
  exact ⟨rfl, Chg.of_below this Nil⟩
end Go.Proofs.Ytaffkdoiooablaa
