/- Contracts of package pick: New. No condition. -/
import Derived.Test.YtipmjfpoglkiaaaPk
namespace Go.Proofs.Ytipmjfpoglkiaaa
open Go.ChangeShapes Go.WideShapes Go.ChangeAt Go.RowKit
set_option linter.unusedVariables false
/-- A scheduler, apart. -/
def PkM (w0 : Env) (p n : Nat) (s : PKS) (w : World) : Prop := ∃ y, PkA w0 w p y s ∧ y.nc ≤ n ∧ y.nv ≤ n ∧ y.no ≤ n
def pkNew : PKS := ⟨[], 0, fun _ => [], 0, [], fun _ => none, fun _ => none, fun _ => none, 0, 0⟩
theorem PkM.bel {w0 : Env} {w : World} {p n : Nat} {s : PKS} (h : PkM w0 p n s w) : Chg w0.F w0.w w := by
  obtain ⟨y, h, _⟩ := h
  exact h.bel
theorem PkM.belw {w0 w : World} {p n : Nat} {s : PKS} (h : PkM (Env.of w0) p n s w) : Below w0.heap.size w0 w := env_below h.bel
theorem PkM.nil {w0 : Env} {w w' : World} {p n : Nat} {s : PKS} (h : PkM w0 p n s w) (hc : Chg Nil w w') : PkM w0 p n s w' := by
  obtain ⟨y, h, h2⟩ := h
  exact ⟨y, h.nil hc, h2⟩
set_option maxHeartbeats 1000000 in
theorem pknew_ok {w0 : Env} {w : World} (hb : Chg w0.F w0.w w) : Calls Try.prog 7 #[] w fun e w' => ∃ p, e = .returned (.pointer (some ⟨p, 0, none⟩)) ∧ PkM w0 p 0 pkNew w' := by
  have hmm := hid (@run_makeMap Try.prog)
  have HB := hid hb
  clear hb
  go_enter Try.func7, Try.ntmps7
  go_wp2_with fail
  refine (fnew_ok w).mono ?_
  rintro e w1 ⟨Ff, pf, rfl, a1, a2, a3⟩
  replace a1 := hid a1
  replace a2 := hid a2
  replace a3 := hid a3
  go_wp2_with fail
  refine (pnew_ok w1).mono ?_
  rintro e w2 ⟨Fp, pp, rfl, b1, b2, b3⟩
  replace b1 := hid b1
  replace b2 := hid b2
  replace b3 := hid b3
  go_wp2_with fail
  refine (dnew_ok w2).mono ?_
  rintro e w3 ⟨Fd, pd, rfl, c1, c2, c3⟩
  replace c1 := hid c1
  replace c2 := hid c2
  replace c3 := hid c3
  have mk := hmm.out
  obtain ⟨m1, hm1⟩ : ∃ m1, m1 = w3.heap.size := ⟨_, rfl⟩
  have s4 : (w3.alloc (.map #[] 0)).heap.size = m1 + 1 := by rw [hm1]; simp
  have s5 : ((w3.alloc (.map #[] 0)).alloc (.map #[] 0)).heap.size = m1 + 2 := by rw [hm1]; simp
  have s6 : (((w3.alloc (.map #[] 0)).alloc (.map #[] 0)).alloc (.map #[] 0)).heap.size = m1 + 3 := by rw [hm1]; simp
  have M1 := MpAt.made w3 Try.prog 3
  have M2 := MpAt.made (w3.alloc (.map #[] 0)) Try.prog 3
  have M3 := MpAt.made ((w3.alloc (.map #[] 0)).alloc (.map #[] 0)) Try.prog 3
  have BK := Blk.new (((w3.alloc (.map #[] 0)).alloc (.map #[] 0)).alloc (.map #[] 0)) 49 [.pointer (some ⟨pf, 0, none⟩), .pointer (some ⟨pp, 0, none⟩), .pointer (some ⟨pd, 0, none⟩), .map (some m1), .map (some (m1 + 1)), .map (some (m1 + 2)), .int .i64 0, .int .i64 0]
  rw [s6] at BK
  rw [← hm1] at M1
  rw [s4] at M2
  rw [s5] at M3
  have h1 := HB.out.size
  have h2 := a2.out.size
  have h3 := b2.out.size
  have h4 := c2.out.size
  have S0 := (Sep.empty 0 0).cons (F := w0.K) (N' := w.heap.size) (fun k hk => ⟨Nat.zero_le _, Nat.lt_of_lt_of_le (w0.lt k hk) HB.out.size⟩) (Nat.zero_le _) (Nat.zero_le _)
  have S1 := S0.cons (F := Ff) (N' := w1.heap.size) (fun k hk => ⟨(a3.out k hk).elim (fun h => h.elim) (fun h => h), a1.out.lt k hk⟩) h2 (Nat.zero_le _)
  have S2 := S1.cons (F := Fp) (N' := w2.heap.size) (fun k hk => ⟨(b3.out k hk).elim (fun h => h.elim) (fun h => h), b1.out.lt k hk⟩) h3 (by omega)
  have S3 := S2.cons (F := Fd) (N' := m1) (fun k hk => ⟨(c3.out k hk).elim (fun h => h.elim) (fun h => h), by rw [hm1]; exact c1.out.lt k hk⟩) (by omega) (by omega)
  have S4 := S3.cons (F := One m1) (N' := m1 + 1) (fun k hk => by rw [show k = m1 from hk]; omega) (by omega) (by omega)
  have S5 := S4.cons (F := One (m1 + 1)) (N' := m1 + 2) (fun k hk => by rw [show k = m1 + 1 from hk]; omega) (by omega) (by omega)
  have S6 := S5.cons (F := One (m1 + 2)) (N' := m1 + 3) (fun k hk => by rw [show k = m1 + 2 from hk]; omega) (by omega) (by omega)
  have S7 := S6.cons (F := One (m1 + 3)) (N' := m1 + 4) (fun k hk => by rw [show k = m1 + 3 from hk]; omega) (by omega) (by omega)
  have C3 : Chg Nil w3 ((((w3.alloc (.map #[] 0)).alloc (.map #[] 0)).alloc (.map #[] 0)).alloc (.cells #[.pointer (some ⟨pf, 0, none⟩), .pointer (some ⟨pp, 0, none⟩), .pointer (some ⟨pd, 0, none⟩), .map (some m1), .map (some (m1 + 1)), .map (some (m1 + 2)), .int .i64 0, .int .i64 0] 49)) := ((((Chg.refl _ _).alloc _).alloc _).alloc _).alloc _
  have hsz : ((((w3.alloc (.map #[] 0)).alloc (.map #[] 0)).alloc (.map #[] 0)).alloc (.cells #[.pointer (some ⟨pf, 0, none⟩), .pointer (some ⟨pp, 0, none⟩), .pointer (some ⟨pd, 0, none⟩), .map (some m1), .map (some (m1 + 1)), .map (some (m1 + 2)), .int .i64 0, .int .i64 0] 49)).heap.size = m1 + 4 := by rw [hm1]; simp
  have FIN : PkM w0 (m1 + 3) 0 pkNew ((((w3.alloc (.map #[] 0)).alloc (.map #[] 0)).alloc (.map #[] 0)).alloc (.cells #[.pointer (some ⟨pf, 0, none⟩), .pointer (some ⟨pp, 0, none⟩), .pointer (some ⟨pd, 0, none⟩), .map (some m1), .map (some (m1 + 1)), .map (some (m1 + 2)), .int .i64 0, .int .i64 0] 49)) := ⟨⟨Ff, Fp, Fd, pf, pp, pd, m1, m1 + 1, m1 + 2, 0, 0, 0⟩, ⟨BK, ((a1.out.chg b2.out (fun _ _ h => h)).chg c2.out (fun _ _ h => h)).chg C3 (fun _ _ h => h), (b1.out.chg c2.out (fun _ _ h => h)).chg C3 (fun _ _ h => h), c1.out.chg C3 (fun _ _ h => h), ((M1.alloc _).alloc _).alloc _, (M2.alloc _).alloc _, M3.alloc _, by rw [hsz]; exact S7, env_nil (env_nil (env_nil (env_nil HB.out a2.out) b2.out) c2.out) C3⟩, Nat.le_refl _, Nat.le_refl _, Nat.le_refl _⟩
  rw [hm1] at FIN
  replace FIN := hid FIN
  clear s4 s5 s6 M1 M2 M3 BK C3 S1 S2 S3 S4 S5 S6 S7 hsz hm1
  go_wp2
  go_ret
  exact ⟨_, rfl, FIN.out⟩
end Go.Proofs.Ytipmjfpoglkiaaa
