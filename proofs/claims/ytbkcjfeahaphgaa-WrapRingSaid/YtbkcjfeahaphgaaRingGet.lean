/- Contracts of package wrap's ring: Span, Get, From. -/
import Derived.Test.YtbkcjfeahaphgaaRing
import Derived.Deep.RegionHeld3
import Derived.Deep.RegionLaw
namespace Go.Proofs.Ytbkcjfeahaphgaa
open Go.ChangeShapes Go.WideShapes Go.ChangeAt Go.RowKit
set_option linter.unusedVariables false
/-- The number of the first record that is there. -/
def firstOf (next : Int) (rows : List (List Int)) : Int := (next - rows.length) % 4294967296
set_option maxHeartbeats 1000000 in
theorem span_ok (w : World) (F : Nat → Prop) (p : Nat) (size next : Int) (rows : List (List Int)) (h : RingAt w F p size next rows) (hl : rows.length < 4294967296) :
    Calls Try.prog 26 #[.pointer (some ⟨p, 0, none⟩)] w fun e w' => e = .returned (.tuple #[.int .u32 (firstOf next rows), .int .u32 next]) ∧ Chg Nil w w' := by
  obtain ⟨m0, m1, n1, n2, a, c, hc, hm, m2⟩ := h.cells
  clear h
  have e : IntKind.u32.wrap (next - IntKind.u32.wrap ↑rows.length) = firstOf next rows := by
    rw [u32_wrap, u32_wrap]; unfold firstOf; omega
  replace e := hid e
  go_enter Try.func26, Try.ntmps26
  go_wp2
  go_region_held3 (fun w' => w'.cell? ⟨p, 2, none⟩ = some (.slice a rows.length c) ∧ w'.cell? ⟨p, 1, none⟩ = some (.int .u32 next)) (go_keep) (fail)
  go_wp2
  go_ret2
  exact ⟨by rw [e.out]; rfl, (Chg.refl _ _).drew⟩
theorem RingAt.row {w : World} {F : Nat → Prop} {p : Nat} {size next : Int} {rows : List (List Int)} (h : RingAt w F p size next rows) {i : Nat} (hi : i < rows.length) :
    rows[i].length ≤ 32 ∧ ∃ g off c a' c' G, rows.length ≤ c ∧ c ≤ maxLen ∧ w.cell? ⟨p, 2, none⟩ = some (.slice (some ⟨g, off, none⟩) rows.length c) ∧ w.cell? ⟨g, off + i, none⟩ = some (.slice a' rows[i].length c') ∧ Sl w 5 1 a' rows[i].length c' (ints .u8 rows[i]) G ∧ ∀ g, G = some g → F g := by
  obtain ⟨a, c, G, vs, H, h1, h2, h3, h4, h5, h6, h7⟩ := h
  obtain ⟨k1, a', c', k2, k3⟩ := h3.2.1 i hi
  obtain ⟨g, off, rfl, _, _, hc⟩ := h2.rd.cellAt (by omega)
  exact ⟨k1, g, off, c, a', c', H i, h2.1, h2.2.1, h1.cell 2, by rw [hc i hi, k2], k3, fun g hg => h6 i g hi hg⟩
set_option maxHeartbeats 1000000 in
theorem get_ok (w : World) (F : Nat → Prop) (p : Nat) (size next n : Int) (rows : List (List Int)) (h : RingAt w F p size next rows) (hl : rows.length < 2147483648) (i : Nat) (l : List Int) (hll : rows[i]? = some l) (hn : far (firstOf next rows) n = i) :
    Calls Try.prog 24 #[.pointer (some ⟨p, 0, none⟩), .int .u32 n] w fun e w' => ∃ a c G, e = .returned (.tuple #[.slice a l.length c, .int .i64 0]) ∧ Sl w' 5 1 a l.length c (ints .u8 l) G ∧ Chg Nil w w' ∧ ∀ g, G = some g → w.heap.size ≤ g := by
  obtain ⟨hi, hle⟩ := List.getElem?_eq_some_iff.1 hll
  replace hle := hid hle
  clear hll
  have H := hid h
  have HN := hid hn
  have h32 : rows.length < 4294967296 := by omega
  clear h hn
  go_enter Try.func24, Try.ntmps24
  go_wp2_with fail
  refine (span_ok _ _ _ _ _ _ H.out h32).mono ?_
  rintro e w1 ⟨rfl, q1⟩
  obtain ⟨hl2, g, off, c, a', c', G, hc1, hc2, m2, m3, m4, m5⟩ := (H.out.chg q1 (fun _ _ h => h)).row hi
  unfold maxLen at hc2
  rw [hle.out] at m3 m4 hl2
  have M4 := hid m4.rd
  have hl63 : l.length ≤ 4294967296 := by omega
  clear m4
  go_wp2_with (first | (go_at_call 10; refine (far_any _ _ _).mono ?_; rw [HN.out]; rintro e w' ⟨rfl, rfl⟩) | (go_at_call 20; refine (clone_u8 _ _ _ _ _ _ M4.out (ints_one _ _) hl63).mono ?_; rintro e w2 ⟨a1, c1, G1, rfl, x1, x2, x3⟩))
  go_ret2
  exact ⟨a1, c1, G1, rfl, x1, q1.trans x2 (fun _ _ h => h), fun g hg => by have := x3 g hg; have := q1.size; omega⟩
def FromInv (w0 : World) (rows : List (List Int)) (k : Nat) (a : Option Addr) (c : Nat) (w : World) : Prop :=
  ∃ G vs H, Sl w 46 1 a k c vs G ∧ Held w H (rows.take k) vs ∧ Chg Nil w0 w ∧ (∀ g, G = some g → w0.heap.size ≤ g) ∧ ∀ i g, i < k → H i = some g → w0.heap.size ≤ g
theorem from_step {w0 w w1 w3 : World} {rows : List (List Int)} {k : Nat} {a : Option Addr} {c : Nat} {G : Option Nat} {vs : List Value} {H : Nat → Option Nat} {l : List Int} {a1 : Option Addr} {d1 : Nat} {G1 : Option Nat} {a' : Option Addr} {c' : Nat} {G' : Option Nat} {o : Obj}
    (hk : k < rows.length) (hll : rows[k] = l) (hn : l.length ≤ 32)
    (i1 : Sl w 46 1 a k c vs G) (i2 : Held w H (rows.take k) vs) (i3 : Chg Nil w0 w) (i4 : ∀ g, G = some g → w0.heap.size ≤ g) (i5 : ∀ i g, i < k → H i = some g → w0.heap.size ≤ g)
    (q1 : Sl w1 5 1 a1 l.length d1 (ints .u8 l) G1) (q2 : Chg Nil w w1) (q3 : ∀ g, G1 = some g → w.heap.size ≤ g)
    (y1 : Sl w3 46 1 a' (k + 1) c' (vs ++ [.slice a1 l.length d1]) G') (y2 : Chg (Opt G) (w1.alloc o) w3) (y3 : G' = G ∨ G' = some (w1.alloc o).heap.size) :
    FromInv w0 rows (k + 1) a' c' w3 := by
  have x2 := push_chg y2
  have hw0 := i3.size
  have hw1 := q2.size
  have hw3 := x2.size
  have hh1 := i2.chg q2 (fun _ _ _ _ h => h)
  have hr2 := i1.chg q2 (fun _ _ h => h)
  have hkl : (rows.take k).length = k := by simp; omega
  have hh3 : Held w3 H (rows.take k) vs := hh1.chg x2 (fun i g hi hg h => by
    obtain ⟨_, a0, c0, _, h3⟩ := hh1.2.1 i hi
    exact sl_ne h3 hr2 (by decide) g hg h)
  have hs3 := q1.chg x2 (fun g hg h => sl_ne q1 hr2 (by decide) g hg h)
  have hK := hh3.snoc hn hs3 (fun i g hi hg h => by have := i2.lt hi hg; have := q3 g h; omega)
  have ht : rows.take k ++ [l] = rows.take (k + 1) := by rw [← hll]; simp
  rw [ht] at hK
  refine ⟨G', _, _, y1, hK, (i3.trans q2 (fun _ _ h => h)).trans x2 (fun i hi h => ?_), fun g hg => ?_, fun i g hi hg => ?_⟩
  · have := i4 i h; omega
  · rcases y3 with h | h
    · exact i4 g (h ▸ hg)
    · rw [h] at hg
      have hg' := Option.some.inj hg
      have := ((Chg.refl Nil w1).alloc o).size
      omega
  · rw [hkl] at hg
    by_cases hlt : i < k
    · simp only [hlt, if_true] at hg; exact i5 i g hlt hg
    · simp only [hlt, if_false] at hg; have := q3 g hg; omega
set_option maxHeartbeats 2000000 in
theorem from_ok (w : World) (F : Nat → Prop) (p : Nat) (size next : Int) (rows : List (List Int)) (h : RingAt w F p size next rows) (hl : rows.length ≤ 64) (h0 : 0 ≤ next) (h1 : next < 4294967296) :
    Calls Try.prog 25 #[.pointer (some ⟨p, 0, none⟩), .int .u32 (firstOf next rows)] w fun e w' => ∃ a c, e = .returned (.tuple #[.slice a rows.length c, .int .i64 0]) ∧ FromInv w rows rows.length a c w' := by
  have hf1 : far (firstOf next rows) (firstOf next rows) = 0 := by rw [far_eq]; omega
  have hf2 : far (firstOf next rows) next = rows.length := by rw [far_eq]; unfold firstOf; omega
  have h32 : rows.length < 4294967296 := by omega
  have H := hid h
  have F1 := hid hf1
  have F2 := hid hf2
  clear h hf1 hf2
  go_enter Try.func25, Try.ntmps25
  go_wp2_with fail
  refine (span_ok _ _ _ _ _ _ H.out h32).mono ?_
  rintro e w1 ⟨rfl, q1⟩
  have H1 := H.out.chg q1 (fun _ _ h => h)
  obtain ⟨m0, m1, n1, n2, a, c, hc, hm, m2⟩ := H1.cells
  unfold maxLen at hm
  replace H1 := hid H1
  go_wp2_with (go_at_call 10; refine (far_any _ _ _).mono ?_; (first | rw [F1.out] | rw [F2.out]); rintro e w' ⟨rfl, rfl⟩)
  go_region_held3 (fun w' => w'.cell? ⟨p, 2, none⟩ = some (.slice a rows.length c)) (go_keep) (first | (go_at_call 10; refine (far_any _ _ _).mono ?_; rw [F1.out]; rintro e w' ⟨rfl, rfl⟩))
  have PLT : Hid (p < w.heap.size) := by obtain ⟨_, _, _, _, _, hb, _⟩ := H.out; exact hb.lt
  have hI : Hid (FromInv w rows 0 none 0 w1.drew) := ⟨none, [], fun _ => none, Sl.empty _ _ _ _, held_nil _ _, q1.drew, (fun g hg => by cases hg), fun i g hi => by omega⟩
  go_wp2
  go_loopw [8, 35] (fun s8 s35 wr => ∃ (k : Nat) (a' : Option Addr) (c' : Nat), k ≤ rows.length ∧ s35 = .int .i64 k ∧ s8 = .slice a' k c' ∧ Hid (FromInv w rows k a' c' wr)) (fun _ s35 _ => rows.length - (intOf s35).toNat)
  case atStart => exact ⟨0, none, 0, by omega, rfl, rfl, hI⟩
  case round =>
    obtain ⟨k, a', c', hk, rfl, rfl, hJ⟩ := hrel
    clear hI
    by_cases hlt : k < rows.length
    · obtain ⟨G, vs, H', i1, i2, i3, i4, i5⟩ := hJ.out
      obtain ⟨hl2, g, off, c2, a2, c3, G2, hc1, hc2, t2, t3, t4, t5⟩ := (H.out.chg i3 (fun _ _ h => h)).row hlt
      have hp := lt_of_cell m2
      have e1 := q1.cell (a := ⟨p, 2, none⟩) (PLT.out) (fun h => h)
      have e2 := i3.cell (a := ⟨p, 2, none⟩) (PLT.out) (fun h => h)
      rw [e1] at m2
      rw [e2, m2] at t2
      simp only [Option.some.injEq, Value.slice.injEq, true_and] at t2
      obtain ⟨rfl, rfl⟩ := t2
      rw [← e1] at m2
      clear e1 e2 hp
      obtain ⟨l, hll⟩ : ∃ l, rows[k] = l := ⟨_, rfl⟩
      rw [hll] at hl2 t3 t4
      have T4 := hid t4.rd
      have hl63 : l.length ≤ 4294967296 := by omega
      have hk63 : k + 1 ≤ 4294967296 := by omega
      have h24 : 24 ≤ 4096 := by omega
      have I1 := hid i1
      have I2 := hid i2
      have I3 := hid i3
      have I4 := hid i4
      have I5 := hid i5
      replace hll := hid hll
      clear i1 i2 i3 i4 i5 t4 t5
      unfold maxLen at hc2
      go_wp2_with (first | (go_at_call 20; refine (clone_u8 _ _ _ _ _ _ T4.out (ints_one _ _) hl63).mono ?_; rintro e w2 ⟨a1, d1, G1, rfl, x1, x2, x3⟩; have HS := hid ((I1.out.chg x2 (fun _ _ h => h)).alloc (.cells #[.slice a1 l.length d1] 46)); have HN := hid (Rd.of_blk (n := 1) (s := 1) (Blk.new w2 46 [.slice a1 l.length d1]) rfl (by decide)); replace x3 := hid x3) | (at_builtin; refine wpList_append_sl rfl _ _ eRows8 rfl rfl rfl HS.out HN.out (slice_one _ _ _) hk63 h24 ?_; intro a4 c4 w3 G' y1 y2 y3; replace y3 := hid y3))
      go_roundw
      case rel => exact ⟨k + 1, a4, c4, by omega, by simp, rfl, from_step (o := .cells #[.slice a1 l.length d1] 46) hlt hll.out hl2 I1.out I2.out I3.out I4.out I5.out x1 x2 x3.out y1 y2 y3.out⟩
      case measure => simp [intOf]; omega
    · obtain rfl : k = rows.length := by omega
      go_wp2
      go_ret2
      exact ⟨a', c', rfl, hJ.out⟩
end Go.Proofs.Ytbkcjfeahaphgaa
