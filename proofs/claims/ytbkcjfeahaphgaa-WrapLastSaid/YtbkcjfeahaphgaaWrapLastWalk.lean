/- The walk of the law WrapLast: it returns true and changes nothing that was there. No condition. -/
import Derived.Test.YtbkcjfeahaphgaaLast
import Derived.Deep.DeepCutAuto
import Derived.Deep.RegionLaw
import Derived.Deep.RegionHeld3
namespace Go.Proofs.Ytbkcjfeahaphgaa
open Go.ChangeShapes Go.WideShapes Go.ChangeAt Go.RowKit
set_option linter.unusedVariables false
/-- The numbers that lie so far from one. -/
def from_ (f : Int) (ks : List Int) : List Int := ks.map (fun k => (f + k) % 4294967296)
/-- s[r:], as the model writes it. -/
theorem Rd.drop_at {w : World} {R : Nat → Prop} {a : Option Addr} {n c r : Nat} {xs : List Value} (h : Rd w R 1 a n c xs) (hr : r ≤ n) (A : Option Addr) (hA : r < n → ∀ g off, a = some ⟨g, off, none⟩ → A = some ⟨g, off + r, none⟩) : Rd w R 1 A (n - r) (c - r) (xs.drop r) := by
  obtain ⟨h1, h2, h3, h4⟩ := h
  refine ⟨by omega, by omega, by rw [List.length_drop]; omega, fun hn => ?_⟩
  obtain ⟨g, off, r1, r2, r3, r4⟩ := h4 (by omega)
  refine ⟨g, off + r, hA (by omega) g off r1, r2, r3, fun j hj => ?_⟩
  rw [List.getElem?_drop, Nat.add_assoc]
  exact r4 (r + j) (by omega)
theorem Rd.take_at {w : World} {R : Nat → Prop} {a : Option Addr} {n c r : Nat} {xs : List Value} (h : Rd w R 1 a n c xs) (hr : r ≤ n) : Rd w R 1 a r c (xs.take r) := by
  obtain ⟨h1, h2, h3, h4⟩ := h
  refine ⟨by omega, by omega, by rw [List.length_take]; omega, fun hn => ?_⟩
  obtain ⟨g, off, r1, r2, r3, r4⟩ := h4 (by omega)
  exact ⟨g, off, r1, r2, r3, fun j hj => by rw [r4 j (by omega), List.getElem?_take_of_lt (by omega)]⟩
/-- Concat of a list's end and its beginning: the same elements. -/
theorem turned_cat (w : World) (R : Nat → Prop) (A a : Option Addr) (n c r : Nat) (l : List Int) (h : Rd w R 1 a n c (ints .u32 l)) (hn : n < 4294967296) (hr : r ≤ n) (hA : r < n → ∀ g off, a = some ⟨g, off, none⟩ → A = some ⟨g, off + r, none⟩) :
    Calls Try.prog 18 #[.slice (some ⟨w.heap.size, 0, none⟩) 2 2] (w.alloc (.cells #[.slice A (n - r) (c - r), .slice a r c] 39)).drew fun e w' => ∃ a' c' l', e = .returned (.slice a' n c') ∧ Rd w' (fun _ => True) 1 a' n c' (ints .u32 l') ∧ (∀ y, y ∈ l' ↔ y ∈ l) ∧ Chg Nil w w' := by
  have hl := h.ilen
  have h1 := ((h.drop_at hr A hA).alloc (.cells #[.slice A (n - r) (c - r), .slice a r c] 39)).drewN 1
  have h2 := ((h.take_at hr).alloc (.cells #[.slice A (n - r) (c - r), .slice a r c] 39)).drewN 1
  have hb := (Rd.of_blk (n := 2) (s := 1) (Blk.new w 39 [.slice A (n - r) (c - r), .slice a r c]) rfl (by decide)).drewN 1
  have hp : partsLen [⟨A, n - r, c - r, (ints .u32 l).drop r⟩, ⟨a, r, c, (ints .u32 l).take r⟩] = n := by simp [partsLen]; omega
  refine (concat_u32 R _ _ 2 2 [⟨A, n - r, c - r, (ints .u32 l).drop r⟩, ⟨a, r, c, (ints .u32 l).take r⟩] _ hb ?_ (by decide) (by rw [hp]; omega)).mono ?_
  · intro p hp
    simp only [List.mem_cons, List.not_mem_nil, or_false] at hp
    rcases hp with rfl | rfl
    · exact ⟨h1, fun u hu => ints_one _ _ u (List.mem_of_mem_drop hu)⟩
    · exact ⟨h2, fun u hu => ints_one _ _ u (List.mem_of_mem_take hu)⟩
  · rintro e w' ⟨a', c', G, rfl, q1, q2, q3⟩
    rw [hp] at q1 ⊢
    refine ⟨a', c', l.drop r ++ l.take r, rfl, ?_, ?_, (((Chg.refl Nil w).alloc _).drew).trans q2 (fun _ _ h => h)⟩
    · have : partsCells [⟨A, n - r, c - r, (ints .u32 l).drop r⟩, ⟨a, r, c, (ints .u32 l).take r⟩] = ints .u32 (l.drop r ++ l.take r) := by
        simp [partsCells, ints, List.map_drop, List.map_take]
      rw [this] at q1
      obtain ⟨z1, z2, z3, z4⟩ := q1.rd
      refine ⟨z1, z2, z3, fun h => ?_⟩
      obtain ⟨g, off, y1, y2, y3, y4⟩ := z4 h
      exact ⟨g, off, y1, y2, trivial, y4⟩
    · intro y
      rw [List.mem_append, or_comm, ← List.mem_append, List.take_append_drop]
def LLInv (w0 : World) (f : Int) (ks : List Int) (most : Int) (a : Option Addr) (c : Nat) (w : World) : Prop :=
  ∃ G, Sl w 22 1 a ks.length c (ints .u32 (from_ f ks)) G ∧ Below w0.heap.size w0 w ∧ (∀ g, G = some g → w0.heap.size ≤ g) ∧ (∀ k ∈ ks, 0 ≤ k ∧ k < 2147483648 ∧ k ≤ most) ∧ (ks ≠ [] → most ∈ ks) ∧ (ks = [] → most = 0 ∧ a = none ∧ c = 0)
theorem far_from (f k m : Int) (k0 : 0 ≤ k) (k1 : k < 2147483648) (m0 : 0 ≤ m) (m1 : m < 2147483648) : far ((f + k) % 4294967296) ((f + m) % 4294967296) = m - k := by
  rw [far_eq]; omega
/-- Of such numbers just the one that lies farthest has none behind it. -/
theorem behind_from (f : Int) (ks : List Int) (most x : Int) (l : List Int) (hl : ∀ y, y ∈ l ↔ y ∈ from_ f ks) (hb : ∀ k ∈ ks, 0 ≤ k ∧ k < 2147483648 ∧ k ≤ most) (hm : most ∈ ks) :
    behind l ((f + most) % 4294967296) = false ∧ (x ∈ l → behind l x = false → x = (f + most) % 4294967296) := by
  have hmb := hb most hm
  constructor
  · refine behind_false fun j hj => ?_
    have hy : l[j] ∈ from_ f ks := (hl _).1 (List.getElem_mem hj)
    obtain ⟨k, hk, he⟩ := List.mem_map.1 hy
    have hkb := hb k hk
    rw [← he, far_from f most k hmb.1 hmb.2.1 hkb.1 hkb.2.1]
    omega
  · intro hx hf
    obtain ⟨k, hk, rfl⟩ := List.mem_map.1 ((hl x).1 hx)
    have hkb := hb k hk
    have hin : (f + most) % 4294967296 ∈ l := (hl _).2 (List.mem_map.2 ⟨most, hm, rfl⟩)
    obtain ⟨j, hj, hje⟩ := List.mem_iff_getElem.1 hin
    by_cases hlt : k < most
    · have : behind l ((f + k) % 4294967296) = true := by
        refine behind_true hj ?_
        rw [hje, far_from f k most hkb.1 hkb.2.1 hmb.1 hmb.2.1]
        omega
      rw [this] at hf
      cases hf
    · rw [show k = most by omega]
set_option maxRecDepth 100000 in
set_option maxHeartbeats 1000000 in
theorem wrapLast_walk (a0 : Int) (a1 : Option Addr) (len1 cap1 : Nat) (z1 : List Int) (a2 : Int) (w : World) (w0 : (Lit.int .u32 a0).wf = true) (w1 : IsRow .i64 w a1 len1 cap1 z1) (w2 : (Lit.int .i64 a2).wf = true) :
    Calls Try.prog 7 #[.int .u32 a0, .slice a1 len1 cap1, .int .i64 a2] w fun e w' => e = .returned (.bool true) ∧ Below w.heap.size w w' := by
  have b0 := bounds_u32 w0
  have hl1 := w1.1.1
  have hl2 := w1.1.2.1
  unfold maxLen at hl2
  have hz1 := w1.1.ilen
  have W1 := hid w1
  have Z1 := hid hz1
  clear w1 hz1
  have R0 : Hid (Rd (w.alloc (.cells #[.int .u32 4294967295, .int .u32 2, .int .u32 1] 22)) (One w.heap.size) 1 (some ⟨w.heap.size, 0, none⟩) 3 3 (ints .u32 [4294967295, 2, 1])) := Rd.of_blk (n := 3) (s := 1) (Blk.new w 22 (ints .u32 [4294967295, 2, 1])) rfl (by decide)
  go_enter Try.func7, Try.ntmps7
  go_wp2_with fail
  refine (last_some _ _ _ _ [4294967295, 2, 1] _ R0.out (by omega) (by omega) ⟨2, by simp, by decide +kernel⟩).mono ?_
  rintro e w1 ⟨x, rfl, hx, hb, c1⟩
  obtain rfl : x = 2 := by
    simp only [List.mem_cons, List.not_mem_nil, or_false] at hx
    rcases hx with rfl | rfl | rfl
    · exact absurd hb (by decide +kernel)
    · rfl
    · exact absurd hb (by decide +kernel)
  have hI : LLInv w a0 [] 0 none 0 w1 := ⟨none, Sl.empty _ _ _ _, below_nil (Below.refl _ w) (push_chg c1), (fun g h => by cases h), by simp, by simp, fun _ => ⟨rfl, rfl, rfl⟩⟩
  replace hI := hid hI
  clear c1 hb hx
  go_upto_region 6 with fail
  go_cut [30, 31, 32] (fun s30 s31 s32 wx => wx = w1 ∧ ∃ N : Nat, N ≤ 200 ∧ N ≤ len1 ∧ s30 = .slice a1 N cap1 ∧ s31 = .int .i64 N ∧ s32 = .int .i64 0)
  case first =>
    go_wp2
    · go_meet
      exact ⟨rfl, 200, by omega, by omega, rfl, rfl, rfl⟩
    · go_meet
      exact ⟨rfl, len1, by omega, by omega, by simp, by simp, rfl⟩
  case rest =>
    obtain ⟨rfl, N, hN1, hN2, rfl, rfl, rfl⟩ := hcut
    go_wp2
    go_loopw [9, 10, 32] (fun s9 s10 s32 wr => ∃ (ks : List Int) (most : Int) (a : Option Addr) (c : Nat), ks.length ≤ N ∧ 0 ≤ most ∧ most < 2147483648 ∧ s32 = .int .i64 ks.length ∧ s10 = .int .i64 most ∧ s9 = .slice a ks.length c ∧ Hid (LLInv w a0 ks most a c wr)) (fun _ _ s32 _ => N - (intOf s32).toNat)
    case atStart => exact ⟨[], 0, none, 0, by simp, by omega, by omega, rfl, rfl, rfl, hI⟩
    case round =>
      obtain ⟨ks, most, a, c, hk, m0, m1, rfl, rfl, rfl, hJ⟩ := hrel
      clear hI
      obtain ⟨G, i1, i2, i3, i4, i5, i6⟩ := id hJ.out
      by_cases hlt : ks.length < N
      · have hz : ks.length < z1.length := by have := Z1.out; omega
        obtain ⟨g, off, rfl, _, _, hc⟩ := (W1.out.1.chg (Chg.of_below i2 Nil) (fun _ _ _ h => h)).at hz
        have hc1 := hc ks.length hz
        clear hc
        obtain ⟨z, hzz⟩ : ∃ z, z = z1[ks.length] := ⟨_, rfl⟩
        rw [← hzz] at hc1
        replace hzz := hid hzz
        have r1 := rest_nonneg z 2147483648 (by omega)
        have r2 := rest_lt z 2147483648 (by omega)
        replace i3 := hid i3
        replace i4 := hid i4
        replace i5 := hid i5
        replace i6 := hid i6
        have HS := hid (i1.alloc (.cells #[.int .u32 ((a0 + rest z 2147483648) % 4294967296)] 22))
        have HN := hid (Rd.of_blk (n := 1) (s := 1) (Blk.new wr 22 (ints .u32 [(a0 + rest z 2147483648) % 4294967296])) rfl (by decide))
        have hfin : ∀ (m' : Int) (a' : Option Addr) (c' : Nat) (w3 : World) (G' : Option Nat), (m' = most ∧ rest z 2147483648 ≤ most ∨ m' = rest z 2147483648 ∧ most ≤ m') → Sl w3 22 1 a' (ks.length + 1) c' (ints .u32 (from_ a0 ks) ++ ints .u32 [(a0 + rest z 2147483648) % 4294967296]) G' → Chg (Opt G) (wr.alloc (.cells #[.int .u32 ((a0 + rest z 2147483648) % 4294967296)] 22)) w3 → (G' = G ∨ G' = some (wr.alloc (.cells #[.int .u32 ((a0 + rest z 2147483648) % 4294967296)] 22)).heap.size) → LLInv w a0 (ks ++ [rest z 2147483648]) m' a' c' w3 := by
          intro m' a' c' w3 G' hm y1 y2 y3
          refine ⟨G', ?_, below_chg i2 (push_chg y2) i3.out, ?_, ?_, ?_, by simp⟩
          · rw [ints_append] at y1
            have : from_ a0 ks ++ [(a0 + rest z 2147483648) % 4294967296] = from_ a0 (ks ++ [rest z 2147483648]) := by simp [from_]
            rw [this] at y1
            simpa using y1
          · intro g hg
            rcases push_grew y3 g hg with h | h
            · exact i3.out g h
            · have := i2.size; omega
          · intro k hkm
            rcases List.mem_append.1 hkm with h | h
            · have := i4.out k h; omega
            · have : k = rest z 2147483648 := by simpa using h
              omega
          · intro _
            rcases hm with ⟨h1, h2⟩ | ⟨h1, h2⟩
            · by_cases hks : ks = []
              · have h6 := (i6.out hks).1
                rw [h1]
                have : most = rest z 2147483648 := by omega
                rw [this]; simp
              · rw [h1]; exact List.mem_append_left _ (i5.out hks)
            · rw [h1]; simp
        replace hfin := hid hfin
        by_cases hmx : most < rest z 2147483648
        · go_wp2_with (first | (go_at_call 12; refine (rest_any _ _ _ (by omega) (by omega)).mono ?_; rintro e w' ⟨rfl, rfl⟩) | (at_builtin; refine wpList_append_sl rfl _ _ eU32 rfl rfl rfl HS.out HN.out (ints_one _ _) (by omega) (by omega) ?_; intro a' c' w3 G' y1 y2 y3; replace y3 := hid y3))
          go_roundw
          case rel => exact ⟨ks ++ [rest z 2147483648], rest z 2147483648, a', c', by simp; omega, by omega, by omega, by simp, rfl, by simp, hfin.out _ _ _ _ _ (.inr ⟨rfl, by omega⟩) y1 y2 y3.out⟩
          case measure => simp [intOf]; omega
        · go_wp2_with (first | (go_at_call 12; refine (rest_any _ _ _ (by omega) (by omega)).mono ?_; rintro e w' ⟨rfl, rfl⟩) | (at_builtin; refine wpList_append_sl rfl _ _ eU32 rfl rfl rfl HS.out HN.out (ints_one _ _) (by omega) (by omega) ?_; intro a' c' w3 G' y1 y2 y3; replace y3 := hid y3))
          go_roundw
          case rel => exact ⟨ks ++ [rest z 2147483648], most, a', c', by simp; omega, by omega, by omega, by simp, rfl, by simp, hfin.out _ _ _ _ _ (.inl ⟨rfl, by omega⟩) y1 y2 y3.out⟩
          case measure => simp [intOf]; omega
      · have hkl := ks.length
        have r1 := rest_nonneg a2 (ks.length + 1) (by omega)
        have r2 := rest_lt a2 (ks.length + 1) (by omega)
        obtain ⟨r, hr⟩ := Int.eq_ofNat_of_zero_le r1
        have hrk : r ≤ ks.length := by omega
        have HR := hid hr
        clear hr r1 r2 hkl
        have hcc := i1.1
        have hcm := i1.2.1
        unfold maxLen at hcm
        have hrc : r ≤ c := by omega
        have hk32 : ks.length < 4294967296 := by omega
        have HEX : Hid (∀ l : List Int, (∀ y, y ∈ l ↔ y ∈ from_ a0 ks) → ks ≠ [] → ∃ x ∈ l, behind l x = false) := fun l hl h0 => ⟨(a0 + most) % 4294967296, (hl _).2 (List.mem_map.2 ⟨most, i5 h0, rfl⟩), (behind_from a0 ks most 0 l hl i4 (i5 h0)).1⟩
        have HEQ : Hid (∀ (l : List Int) (x : Int), (∀ y, y ∈ l ↔ y ∈ from_ a0 ks) → ks ≠ [] → x ∈ l → behind l x = false → x = (a0 + most) % 4294967296) := fun l x hl h0 hx hf => (behind_from a0 ks most x l hl i4 (i5 h0)).2 hx hf
        replace i3 := hid i3
        replace i4 := hid i4
        replace i5 := hid i5
        replace i6 := hid i6
        by_cases h0 : ks = []
        · obtain ⟨h6, rfl, rfl⟩ := i6.out h0
          subst h0
          obtain rfl : r = 0 := by omega
          have HT := turned_cat wr _ none none 0 0 0 _ i1.rd (by omega) (by omega) (fun h => by omega)
          replace HT := hid HT
          have HR0 : rest a2 1 = 0 := by have := HR.out; simpa using this
          replace HR0 := hid HR0
          clear HR
          go_wp2_with (go_at_call 12; refine (rest_any _ _ _ (by omega) (by omega)).mono ?_; (first | rw [HR0.out] | skip); rintro e w' ⟨rfl, rfl⟩)
          go_region_held3 (fun _ => True) (exact trivial)
            (first | (go_at_call 18; refine HT.out.mono ?_; rintro e w3 ⟨a', c', l', rfl, y1, y2, y3⟩; replace y1 := hid y1; replace y2 := hid y2; replace y3 := hid y3) | (go_at_call 17; refine (last_none _ _ _).mono ?_; rintro e w4 ⟨rfl, rfl⟩))
          go_wp2
          go_ret
          exact ⟨rfl, below_nil i2 y3.out⟩
        · have hpos : 0 < ks.length := List.length_pos_iff.2 h0
          obtain ⟨g, off, rfl, _, _, hc⟩ := i1.rd.cellAt hpos
          clear hc
          have H0 := hid h0
          clear h0
          have hA1 : r < ks.length → ∀ (g' off' : Nat), some (⟨g, off, none⟩ : Addr) = some ⟨g', off', none⟩ → some (⟨g, off + r, none⟩ : Addr) = some ⟨g', off' + r, none⟩ := by intro _ g' off' h; cases h; rfl
          replace hA1 := hid hA1
          have hp0 : ((ks.length : Int) == 0) = false := by rw [beq_eq_false_iff_ne]; omega
          by_cases hcr : c = r
          · have hA2 : ∀ A : Option Addr, r < ks.length → ∀ (g' off' : Nat), some (⟨g, off, none⟩ : Addr) = some ⟨g', off', none⟩ → A = some ⟨g', off' + r, none⟩ := by intro A h; omega
            subst hcr
            have HT := turned_cat wr _ (some ⟨g, off, none⟩) (some ⟨g, off, none⟩) ks.length c c _ i1.rd hk32 hrk (hA2 _)
            rw [Nat.sub_self, show ks.length - c = 0 by omega] at HT
            replace HT := hid HT
            clear hA2
            go_wp2_with (go_at_call 12; refine (rest_any _ _ _ (by omega) (by omega)).mono ?_; (first | rw [HR.out] | skip); rintro e w' ⟨rfl, rfl⟩)
            go_region_held3 (fun _ => True) (exact trivial)
              (first | (go_at_call 18; refine HT.out.mono ?_; rintro e w3 ⟨a', c', l', rfl, y1, y2, y3⟩; replace y1 := hid y1; replace y2 := hid y2; replace y3 := hid y3) | (go_at_call 17; refine (last_some _ _ _ _ _ _ y1.out hk32 hpos (HEX.out _ y2.out H0.out)).mono ?_; rintro e w4 ⟨x, rfl, x1, x2, x3⟩; replace x1 := hid x1; replace x2 := hid x2; replace x3 := hid x3; obtain rfl := HEQ.out _ _ y2.out H0.out x1.out x2.out))
            go_wp2
            go_ret
            exact ⟨rfl, below_nil i2 (y3.out.trans x3.out (fun _ _ h => h))⟩
          · have HT := hid (turned_cat wr _ (some ⟨g, off + r, none⟩) (some ⟨g, off, none⟩) ks.length c r _ i1.rd hk32 hrk hA1.out)
            go_wp2_with (go_at_call 12; refine (rest_any _ _ _ (by omega) (by omega)).mono ?_; (first | rw [HR.out] | skip); rintro e w' ⟨rfl, rfl⟩)
            go_region_held3 (fun _ => True) (exact trivial)
              (first | (go_at_call 18; refine HT.out.mono ?_; rintro e w3 ⟨a', c', l', rfl, y1, y2, y3⟩; replace y1 := hid y1; replace y2 := hid y2; replace y3 := hid y3) | (go_at_call 17; refine (last_some _ _ _ _ _ _ y1.out hk32 hpos (HEX.out _ y2.out H0.out)).mono ?_; rintro e w4 ⟨x, rfl, x1, x2, x3⟩; replace x1 := hid x1; replace x2 := hid x2; replace x3 := hid x3; obtain rfl := HEQ.out _ _ y2.out H0.out x1.out x2.out))
            go_wp2
            go_ret
            exact ⟨rfl, below_nil i2 (y3.out.trans x3.out (fun _ _ h => h))⟩
end Go.Proofs.Ytbkcjfeahaphgaa
