/- More contracts of package prio: Put, Turn. Conditions: at most 999 tasks in each queue; the bits are of eight priorities. -/
import Derived.Test.YtdelelpfombfbaaPrio
namespace Go.Proofs.Ytdelelpfombfbaa
open Go.ChangeShapes Go.WideShapes Go.ChangeAt Go.RowKit
set_option linter.unusedVariables false
theorem or_bit (b v : Nat) (hb : b < 256) (hv : v < 8) : bits .or .u32 (b : Int) ((2 ^ v : Nat) : Int) = ((b ||| 2 ^ v : Nat) : Int) := by
  have : ∀ (b : Fin 256) (v : Fin 8), bits .or .u32 ((b.val : Nat) : Int) ((2 ^ v.val : Nat) : Int) = ((b.val ||| 2 ^ v.val : Nat) : Int) := by decide +kernel
  exact this ⟨b, hb⟩ ⟨v, hv⟩
theorem pow_v (v : Nat) (hv : v < 8) : (2 : Int) ^ v = ((2 ^ v : Nat) : Int) ∧ 2 ^ v < 256 := by
  rcases v with _ | _ | _ | _ | _ | _ | _ | _ | v
  all_goals first | decide | omega
theorem or_lt (b v : Nat) (hb : b < 256) (hv : v < 8) : b ||| 2 ^ v < 256 := Nat.or_lt_two_pow (n := 8) hb (pow_v v hv).2
def PPr (F : Nat → Prop) (p b : Nat) (q : Nat → List Int) (v : Value) (w : World) (e : Ending) (w' : World) : Prop := ∃ F', e = .returned v ∧ PrAt w' F' p b q ∧ Chg F w w' ∧ Grew w.heap.size F F'
set_option maxHeartbeats 2000000 in
theorem pput_ok (w : World) (F : Nat → Prop) (p b : Nat) (q : Nat → List Int) (t : Int) (v : Nat) (h : PrAt w F p b q) (hl : ∀ i, i < 8 → (q i).length ≤ 999) (hb : b < 256) (t1 : 1 ≤ t) (t2 : t ≤ 16) (hv : v < 8) (ht : prOf q t 8 = -1) :
    Calls Try.prog 23 #[.pointer (some ⟨p, 0, none⟩), .int .i64 t, .int .i64 (v : Int)] w (PPr F p (b ||| 2 ^ v) (upF q v (q v ++ [t])) (.int .i64 0) w) := by
  obtain ⟨A, C, G, h⟩ := h
  have HH := hid (pat_ok w F p b q A C G t h (fun i hi => by have := hl i hi; omega))
  rw [ht] at HH
  have hlv := hl v hv
  have hv8 : (v : Int) < 8 := by omega
  have H := hid h
  clear h hl ht
  go_enter Try.func23, Try.ntmps23
  go_wp2_with fail
  refine HH.out.mono ?_
  rintro e w1 ⟨rfl, c1⟩
  have H1 := H.out.nil c1
  have d0 := H1.cq v hv
  have f0 : w1.frozen? ⟨p, 1 + v, none⟩ = false := H1.blk.frozen _
  have x0 : (w1.alloc (.cells #[.int .i64 t] 3)).cell? ⟨p, 1 + v, none⟩ = some (.slice (A v) (q v).length (C v)) := (H1.nil ((Chg.refl Nil w1).alloc _)).cq v hv
  have HS : Hid (Sl (w1.alloc (.cells #[.int .i64 t] 3)).drew 3 1 (A v) (q v).length (C v) (ints .i64 (q v)) (G v)) := (H1.sl v hv).alloc _
  have HN : Hid (Rd (w1.alloc (.cells #[.int .i64 t] 3)).drew (One w1.heap.size) 1 (some ⟨w1.heap.size, 0, none⟩) 1 1 (ints .i64 [t])) := Rd.of_blk (n := 1) (s := 1) (Blk.new w1 3 (ints .i64 [t])) rfl (by decide)
  have C1 := hid c1
  have HNE := hid (H1.ne v hv)
  replace H1 := hid H1
  clear c1 HH
  go_wp2
  go_region_law (refine step_append_sl rfl _ _ eInt rfl rfl rfl HS.out HN.out (ints_one _ _) (by omega) (by omega) ?_; intro a' c' w2 G' q1 q2 q3; have HB1 : Blk w2 p 86 (prCells b A C q) := (H1.out.blk.alloc (.cells #[.int .i64 t] 3)).drew.chg q2 HNE.out; have e0 : w2.cell? ⟨p, 1 + v, none⟩ = some (.slice (A v) (q v).length (C v)) := by { rw [HB1.cell, pr_get _ _ _ _ v hv] }; have g0 := HB1.frozen (1 + v); replace HB1 := hid HB1; replace q1 := hid q1; replace q2 := hid q2; replace q3 := hid q3)
  all_goals
    go_wp2
    have hC2 : Chg (Opt (G v)) w1 w2 := (((Chg.refl _ w1).alloc (.cells #[.int .i64 t] 3)).drew).trans q2.out (fun _ _ h => h)
    have hG2 : ∀ g, G' = some g → G v = some g ∨ w1.heap.size ≤ g := fun g hg => by
      rcases q3.out with h3 | h3 <;> rw [h3] at hg
      · exact .inl hg
      · injection hg with hg; simp at hg; exact .inr (by omega)
    have hs2 : Sl w2 3 1 a' (q v ++ [t]).length c' (ints .i64 (q v ++ [t])) G' := sl_push rfl q1.out
    have hP := H1.out.lay hv hC2 hs2 hG2
    have e : (q v ++ [t]).length = (q v).length + 1 := by simp
    rw [e] at hP
    have hCF : Chg F w (w2.setCell ⟨p, 1 + v, none⟩ (.slice a' ((q v).length + 1) c')) := ((C1.out.mono (G := F) (fun _ _ h => h.elim)).trans hC2 (fun i _ hh => H1.out.fg v i hv hh)).setCell (p := ⟨p, 1 + v, none⟩) (.inl H1.out.fp) _
    have hGr : Grew w.heap.size F (Or2 F (Opt G')) := by
      rintro k (hF | hG')
      · exact .inl hF
      · rcases hG2 k hG' with h1 | h1
        · exact .inl (H1.out.fg v k hv h1)
        · exact .inr (Nat.le_trans C1.out.size h1)
    clear e0 g0 d0 f0 x0 hs2 e
    obtain ⟨W, hW⟩ : ∃ W, W = w2.setCell ⟨p, 1 + v, none⟩ (.slice a' ((q v).length + 1) c') := ⟨_, rfl⟩
    rw [← hW] at hP hCF ⊢
    clear hW
    have k0 := hP.c0
    have k1 : W.frozen? ⟨p, 0, none⟩ = false := hP.blk.frozen 0
    obtain ⟨pv1, pv2⟩ := pow_v v hv
    have hor := or_bit b v hb hv
    generalize (2 ^ v : Nat) = B at *
    have hw : IntKind.u32.wrap (B : Int) = (B : Int) := by simp [IntKind.wrap, IntKind.signed, IntKind.bits]; omega
    have HP := hid hP
    have HCF := hid hCF
    have HGR := hid hGr
    clear hP hCF hGr hC2 hG2
    go_region
    go_wp2
    go_ret
    have hfin := (HP.out.nil ((Chg.refl Nil W).drew)).bits (b ||| B)
    exact ⟨_, rfl, ⟨_, _, _, hfin⟩, (HCF.out.drew).setCell (p := ⟨p, 0, none⟩) (.inl H1.out.fp) _, HGR.out⟩
end Go.Proofs.Ytdelelpfombfbaa
