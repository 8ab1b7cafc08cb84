/- The walk of the law FairShares: it returns true and changes nothing that was there. No condition. -/
import Derived.Test.YtpafafleepcjdaaFairRow
namespace Go.Proofs.Ytpafafleepcjdaa
open Go.ChangeShapes Go.WideShapes Go.ChangeAt Go.RowKit
set_option linter.unusedVariables false
/-- What is so, so many ticks later. -/
structure SI (zs : List Int) (most m : Nat) (ts : List FT) (g : Nat → Nat) : Prop where
  inv : NInv (m * 1048576) zs.length ts
  each : ∀ (i : Nat) x, ts[i]? = some x → x.r = true ∧ x.w = wtF (zs.getD i 0) ∧ x.v = cost (wtF (zs.getD i 0)) * g i
  near : ∀ (i j : Nat) x y, ts[i]? = some x → ts[j]? = some y → x.v ≤ y.v + most
  few : ∀ i, g i ≤ m
theorem si_new (zs : List Int) (most : Nat) (hl : zs.length ≤ 16) : SI zs most 0 (mkF zs zs.length) (fun _ => 0) := by
  have hx : ∀ (i : Nat) x, (mkF zs zs.length)[i]? = some x → x = ⟨i + 1, wtF (zs.getD i 0), 0, 0, true⟩ := fun i x hx => by
    have hi : i < zs.length := by have := (List.getElem?_eq_some_iff.1 hx).1; rwa [mkF_len] at this
    rw [mkF_get zs _ i hi] at hx
    injection hx with hx
    exact hx.symm
  refine ⟨by rw [Nat.zero_mul]; exact mkF_inv zs _ hl, fun i x h => ?_, fun i j x y h h' => ?_, fun _ => Nat.le_refl _⟩
  · rw [hx i x h]; exact ⟨rfl, rfl, by simp⟩
  · rw [hx i x h, hx j y h']; simp
theorem si_tick {zs : List Int} {most m : Nat} {ts : List FT} {g : Nat → Nat} (h : SI zs most m ts g) (hm : ∀ i, i < zs.length → cost (wtF (zs.getD i 0)) ≤ most) (h0 : 0 < zs.length) {b : Option Nat} (hb : FFirst ts ts.length b) :
    ∃ j, j < zs.length ∧ b = some j ∧ SI zs most (m + 1) (tickF ts b) (fun i => if i = j then g i + 1 else g i) := by
  have hlen := h.inv.len
  cases b with
  | none =>
    have := hb 0 _ (by omega) (List.getElem?_eq_getElem (by omega))
    rw [(h.each 0 _ (List.getElem?_eq_getElem (by omega))).1] at this
    cases this
  | some j =>
    obtain ⟨y, hj, hy, hr, hmin⟩ := hb
    refine ⟨j, by omega, rfl, ?_, fun i x hx => ?_, fun i k x z hx hz => ?_, fun i => ?_⟩
    · have := h.inv.tick (some j)
      rw [Nat.add_mul, Nat.one_mul]; exact this
    · rw [tickF_get] at hx
      cases hk : ts[i]? with
      | none => rw [hk] at hx; cases hx
      | some v =>
        rw [hk] at hx
        simp only [Option.map_some, Option.some.injEq] at hx
        obtain ⟨e1, e2, e3⟩ := h.each i v hk
        rw [← hx]
        by_cases hij : j = i
        · subst hij
          rw [if_pos rfl, if_pos rfl]
          refine ⟨e1, e2, ?_⟩
          show v.v + cost v.w = _
          rw [e2, e3, Nat.mul_add, Nat.mul_one]
        · rw [if_neg hij, if_neg (fun hh => hij hh.symm)]
          exact ⟨e1, e2, e3⟩
    · rw [tickF_get] at hx hz
      cases hk : ts[i]? with
      | none => rw [hk] at hx; cases hx
      | some v =>
        cases hk' : ts[k]? with
        | none => rw [hk'] at hz; cases hz
        | some u =>
          rw [hk] at hx
          rw [hk'] at hz
          simp only [Option.map_some, Option.some.injEq] at hx hz
          have hn := h.near i k v u hk hk'
          have hu : u.v ≤ z.v := by
            rw [← hz]
            split
            · show u.v ≤ u.v + cost u.w
              omega
            · exact Nat.le_refl _
          rw [← hx]
          by_cases hij : j = i
          · subst hij
            rw [if_pos rfl]
            rw [hy] at hk; injection hk with hk; subst hk
            have hku : k < ts.length := (List.getElem?_eq_some_iff.1 hk').1
            have hlu := hmin k u hku hk' (h.each k u hk').1
            have hc := hm j (by omega)
            have e2 := (h.each j y hy).2.1
            show y.v + cost y.w ≤ z.v + most
            rw [e2]
            unfold aheadF at hlu
            omega
          · rw [if_neg (by simpa using hij)]
            omega
    · have := h.few i
      show (if i = j then g i + 1 else g i) ≤ m + 1
      split <;> omega
/-- The least and the greatest of the first k. -/
def LoHi (ts : List FT) (k low high : Nat) : Prop := (∀ (i : Nat) x, i < k → ts[i]? = some x → low ≤ x.v ∧ x.v ≤ high) ∧ (k = 0 ∨ (∃ (i : Nat) (x : FT), ts[i]? = some x ∧ x.v = low) ∧ ∃ (i : Nat) (x : FT), ts[i]? = some x ∧ x.v = high)
theorem lohi_step {ts : List FT} {k low high : Nat} {x : FT} (h : LoHi ts k low high) (hx : ts[k]? = some x) (hb : k = 0 → x.v ≤ low ∧ high ≤ x.v) : LoHi ts (k + 1) (min low x.v) (max high x.v) := by
  obtain ⟨h1, h2⟩ := h
  refine ⟨fun i y hi hy => ?_, .inr ⟨?_, ?_⟩⟩
  · by_cases hik : i = k
    · subst hik; rw [hx] at hy; injection hy with hy; subst hy; omega
    · have := h1 i y (by omega) hy; omega
  · by_cases hlv : x.v ≤ low
    · exact ⟨k, x, hx, by omega⟩
    · rcases h2 with h2 | ⟨⟨i, y, h3, h4⟩, _⟩
      · have := hb h2; omega
      · exact ⟨i, y, h3, by omega⟩
  · by_cases hlv : high ≤ x.v
    · exact ⟨k, x, hx, by omega⟩
    · rcases h2 with h2 | ⟨_, i, y, h3, h4⟩
      · have := hb h2; omega
      · exact ⟨i, y, h3, by omega⟩
theorem cost_mul (c k : Nat) (hc : c ≤ 1048576) (hk : k ≤ 1000) : wrap64 ((c : Int) * (k : Int)) = ((c * k : Nat) : Int) := by
  have := Nat.mul_le_mul hc hk
  rw [← Int.natCast_mul]
  exact IntWalk.wrap64_in _ ⟨by omega, by omega⟩
set_option maxRecDepth 100000 in
set_option maxHeartbeats 4000000 in
theorem fairShares_walk (a0 : Option Addr) (len0 cap0 : Nat) (z0 : List Int) (a1 : Int) (w : World) (w0 : IsRow .i64 w a0 len0 cap0 z0) (w1 : (Lit.int .i64 a1).wf = true) :
    Calls Try.prog 5 #[.slice a0 len0 cap0, .int .i64 a1] w fun e w' => e = .returned (.bool true) ∧ Below w.heap.size w w' := by
  have hl1 := w0.1.1
  have hl2 := w0.1.2.1
  unfold maxLen at hl2
  have Z0 := hid w0.1.ilen
  have W0 := hid w0.1
  clear w0
  go_enter Try.func5, Try.ntmps5
  go_wp2_with fail
  refine (fbegun_ok _).mono ?_
  rintro e w1 ⟨rfl, c1⟩
  have C1 := hid (Chg.below c1 (fun i hi h => h) (Nat.le_refl _))
  clear c1
  go_upto_region 3 with fail
  go_cut [0] (fun s0 wx => wx = w1 ∧ ∃ N : Nat, N ≤ 16 ∧ N ≤ len0 ∧ s0 = .slice a0 N cap0)
  case first =>
    go_wp2
    · go_meet
      exact ⟨rfl, 16, by omega, by omega, rfl⟩
    · go_meet
      exact ⟨rfl, len0, by omega, by omega, by simp⟩
  case rest =>
    obtain ⟨rfl, N, hN1, hN2, rfl⟩ := hcut
    obtain ⟨zs, hzs⟩ : ∃ zs, zs = z0.take N := ⟨_, rfl⟩
    have hzl : zs.length = N := by rw [hzs, List.length_take, Z0.out]; omega
    have hR : Rd w (Upto w.heap.size) 1 a0 N cap0 (ints .i64 zs) := by
      have := W0.out.take_n (k := N) hN2
      have e : (ints .i64 z0).take (N * 1) = ints .i64 zs := by rw [hzs]; simp [ints, List.map_take]
      rwa [e] at this
    obtain rfl := hzl
    have HR := hid hR
    clear hR hzs W0 Z0
    go_wp2_with fail
    refine (fairs_ok _ _ _ _ zs _ (HR.out.below C1.out (fun _ h => h)) hN1).mono ?_
    rintro e w2 ⟨F, p, rfl, h2⟩
    have hM : FMem w.heap.size w F p (mkF zs zs.length) w2 := ⟨h2.fair, fun k hk => by have := h2.new k hk; have := C1.out.size; omega, C1.out.trans (h2.bel.mono C1.out.size), Nat.le_trans C1.out.size h2.sz⟩
    replace hM := hid hM
    clear h2 C1
    by_cases h0 : zs.length = 0
    · obtain rfl : zs = [] := List.eq_nil_of_length_eq_zero h0
      clear h0
      have hok0 : ∀ x ∈ mkF [] 0, FOk 0 x := fun x hx => by cases hx
      go_wp2_with fail
      refine (ftick_ok _ F p 0 _ hM.out.fair (by simp [mkF]) (by omega) hok0).mono ?_
      rintro e w3 ⟨b, hb, rfl, h3, c3⟩
      have hM3 := hid (hM.out.step h3 c3 (Grew.refl _ _))
      cases b with
      | none =>
        simp only [Option.isSome_none]
        go_wp2
        go_ret
        exact ⟨rfl, hM3.out.bel⟩
      | some j =>
        obtain ⟨y, hj, _⟩ := hb
        simp [mkF] at hj
    have hp0 : ((zs.length : Int) == 0) = false := by rw [beq_eq_false_iff_ne]; omega
    have hpos : 0 < zs.length := by omega
    clear h0
    obtain ⟨B, hB⟩ : ∃ B, B = w.heap.size := ⟨_, rfl⟩
    rw [← hB] at hM
    replace hB := hid hB
    go_wp2
    go_loop [9, 51] (fun s9 s51 => ∃ k most : Nat, k ≤ zs.length ∧ most ≤ 1048576 ∧ s51 = .int .i64 k ∧ s9 = .int .i64 most ∧ Hid (∀ i, i < k → cost (wtF (zs.getD i 0)) ≤ most)) (fun _ s51 => zs.length - (intOf s51).toNat)
    case atStart => exact ⟨0, 0, by omega, by omega, rfl, rfl, fun i hi => absurd hi (by omega)⟩
    case round =>
      obtain ⟨k, most, hk, hmo, rfl, rfl, hmx⟩ := hrel
      by_cases hlt : k < zs.length
      · obtain ⟨g, off, rfl, _, _, hc⟩ := (HR.out.below hM.out.bel (fun g hg => by rw [hB.out]; exact hg)).at hlt
        have hck := hc k hlt
        clear hc
        have hzk : zs.getD k 0 = zs[k] := by rw [List.getD_eq_getElem?_getD, List.getElem?_eq_getElem hlt]; rfl
        generalize zs[k] = z at *
        replace hzk := hid hzk
        have hz1 := wtF_int z
        have hz2 := wtF_le z
        have hz3 := rest_nonneg z 100 (by omega)
        have hz4 := rest_lt z 100 (by omega)
        have hcl := cost_le (wtF z)
        go_wp2_with fail
        refine (rest_any _ _ _ (by omega) (by omega)).mono ?_
        rintro e w3 ⟨rfl, rfl⟩
        go_wp2_with fail
        refine (cost_ok (wtF z) _ hz2.1 hz2.2).mono ?_
        rintro e w3 ⟨rfl, rfl⟩
        generalize hcc : cost (wtF z) = cc at *
        replace hcc := hid hcc
        clear hz1
        by_cases hmc : most < cc
        · go_wp2
          go_round
          case rel =>
            refine ⟨k + 1, cc, by omega, by omega, by go_num, rfl, fun i hi => ?_⟩
            by_cases hik : i = k
            · subst hik; rw [hzk.out, hcc.out]; exact Nat.le_refl _
            · have := hmx.out i (by omega); omega
          case measure => simp [intOf]; omega
        · go_wp2
          go_round
          case rel =>
            refine ⟨k + 1, most, by omega, by omega, by go_num, rfl, fun i hi => ?_⟩
            by_cases hik : i = k
            · subst hik; rw [hzk.out, hcc.out]; omega
            · exact hmx.out i (by omega)
          case measure => simp [intOf]; omega
      · obtain rfl : k = zs.length := by omega
        have hmk := run_make1 (P := Try.prog) (t := 24) (e := 3) (z := .int .i64 0) (bytes := 8) Try.underlying24 (by kernel_rfl) rfl (by omega) zs.length (by omega)
        have hG := hid (FRow.made hM.out zs.length)
        have hS := hid (si_new zs most hN1)
        clear hM
        have r1 := rest_nonneg a1 500 (by omega)
        have r2 := rest_lt a1 500 (by omega)
        obtain ⟨T, hT⟩ := Int.eq_ofNat_of_zero_le r1
        have hT5 : T < 500 := by omega
        replace hT := hid hT
        clear r1 r2
        obtain ⟨gl, hgl⟩ : ∃ gl, gl = w2.heap.size := ⟨_, rfl⟩
        go_wp2_with fail
        refine (rest_any _ _ _ (by omega) (by omega)).mono ?_
        rw [hT.out]
        rintro e w3 ⟨rfl, rfl⟩
        go_wp2
        rw [← hgl] at hG ⊢
        clear hmk
        replace hgl := hid hgl
        go_loopw [71] (fun s71 wr => ∃ (m : Nat) (F : Nat → Prop) (ts : List FT) (f : Nat → Nat), m ≤ T ∧ s71 = .int .i64 m ∧ Hid (SI zs most m ts f) ∧ Hid (FRow B w F p ts gl zs.length f wr)) (fun s71 _ => T - (intOf s71).toNat)
        case atStart => exact ⟨0, F, _, _, by omega, rfl, hS, hG⟩
        case round =>
          clear hS hG
          obtain ⟨m, F, ts, f, hm, rfl, hS, hG⟩ := hrel
          obtain ⟨wo, hwo⟩ : ∃ wo : World, wo = wr := ⟨_, rfl⟩
          subst hwo
          by_cases hlt2 : m < T
          · have htl : ts.length ≤ 1000 := by have := hS.out.inv.len; omega
            go_wp2_with fail
            refine (ftick_ok _ F p (m * 1048576) ts hG.out.d.fair htl (by omega) hS.out.inv.ok).mono ?_
            rintro e w4 ⟨b, hb, rfl, h4, c4⟩
            obtain ⟨j, hj, rfl, hS2⟩ := si_tick hS.out hmx.out hpos hb
            have hG2 := hid (hG.out.step h4 c4 (Grew.refl _ _))
            have hnum := hS.out.inv.numF hj
            rw [hnum]
            simp only [Option.isSome_some, if_true]
            obtain ⟨f', hf'⟩ : ∃ f' : Nat → Nat, f' = fun i => if i = j then f i + 1 else f i := ⟨_, rfl⟩
            rw [← hf'] at hS2
            have hFN : ∀ i, i ≠ j → f' i = f i := fun i hi => by rw [hf']; simp [hi]
            have hFJ : f' j = f j + 1 := by rw [hf']; simp
            have hfm := hS.out.few j
            obtain ⟨ts', hts'⟩ : ∃ ts', ts' = tickF ts (some j) := ⟨_, rfl⟩
            rw [← hts'] at hS2 hG2
            replace hFN := hid hFN
            replace hFJ := hid hFJ
            replace hS2 := hid hS2
            clear hnum hf' hts' h4 c4 hS hG
            replace hb := hid hb
            have hx := hG2.out.row.cell j
            rw [cellsN_get _ _ _ hj] at hx
            have hfz := hG2.out.row.frozen j
            have hj2 : (j : Int) < (zs.length : Int) := by omega
            go_wp2
            have hG3 := hid (hG2.out.put j ((f j : Int) + 1) (by rw [hFJ.out]; omega) hFN.out)
            obtain ⟨w5, hw5⟩ : ∃ w5, w5 = w4.setCell ⟨gl, j, none⟩ (.int .i64 ((f j : Int) + 1)) := ⟨_, rfl⟩
            rw [← hw5] at hG3 ⊢
            clear hw5 hG2 hx hfz
            have hn2 := hS2.out.inv.len
            have HN2 := hid hn2
            clear hn2
            go_loop [17, 18, 99] (fun s17 s18 s99 => ∃ k low high : Nat, k ≤ zs.length ∧ low ≤ 4611686018427387904 ∧ high ≤ 1000000000 ∧ s17 = .int .i64 low ∧ s18 = .int .i64 high ∧ s99 = .int .i64 k ∧ Hid (LoHi ts' k low high) ∧ Hid (k = 0 → low = 4611686018427387904 ∧ high = 0)) (fun _ _ s99 => zs.length - (intOf s99).toNat)
            case atStart => exact ⟨0, 4611686018427387904, 0, by omega, by omega, by omega, rfl, rfl, rfl, ⟨fun i x hi => absurd hi (by omega), .inl rfl⟩, fun _ => ⟨rfl, rfl⟩⟩
            case round =>
              obtain ⟨k, low, high, hk2, hlo, hhi, rfl, rfl, rfl, hLH, hLH0⟩ := hrel
              by_cases hlt3 : k < zs.length
              · have hkt : k < ts'.length := by have := HN2.out; omega
                have hxk := List.getElem?_eq_getElem hkt
                generalize ts'[k] = x at hxk
                obtain ⟨e1, e2, e3⟩ := hS2.out.each k x hxk
                have hvb := (hS2.out.inv.ok x (List.mem_of_getElem? hxk)).v2
                have hnx := hS2.out.inv.num k x hxk
                have hnu : NumF ts' k x ((k : Int) + 1) := ⟨hxk, by omega, fun j' y hj' hy => by have := hS2.out.inv.num j' y hy; omega⟩
                have hrow := hG3.out.row.cell k
                rw [cellsN_get _ _ _ hlt3] at hrow
                have hfk := hS2.out.few k
                obtain ⟨g, off, rfl, _, _, hc⟩ := (HR.out.below hG3.out.d.bel (fun g hg => by rw [hB.out]; exact hg)).at hlt3
                have hck := hc k hlt3
                clear hc
                have hzk : zs.getD k 0 = zs[k] := by rw [List.getD_eq_getElem?_getD, List.getElem?_eq_getElem hlt3]; rfl
                rw [hzk] at e3
                have HE3 := hid e3
                have HXK := hid hxk
                have HNU := hid hnu
                have HS3 := hid (lohi_step hLH.out hxk (fun h => by have := hLH0.out h; omega))
                generalize zs[k] = z at *
                have hz1 := wtF_int z
                have hz2 := wtF_le z
                have hz3 := rest_nonneg z 100 (by omega)
                have hz4 := rest_lt z 100 (by omega)
                have hcl := cost_le (wtF z)
                clear e1 e2 e3 hzk hxk hnu hnx
                have htl2 : ts'.length ≤ 1000 := by have := HN2.out; omega
                have hkz : (k : Int) < (zs.length : Int) := by omega
                go_wp2_with fail
                refine (fat_ok _ F p ts' k x _ hG3.out.d.fair htl2 HNU.out).mono ?_
                rintro e w6 ⟨rfl, rfl⟩
                go_wp2_with fail
                refine (rest_any _ _ _ (by omega) (by omega)).mono ?_
                rintro e w6 ⟨rfl, rfl⟩
                go_wp2_with fail
                refine (cost_ok (wtF z) _ hz2.1 hz2.2).mono ?_
                rintro e w6 ⟨rfl, rfl⟩
                have hcm := cost_mul (cost (wtF z)) (f' k) hcl (by omega)
                rw [← HE3.out] at hcm
                generalize cost (wtF z) = cc at *
                generalize hvv : x.v = v at *
                generalize hff : f' k = fk at *
                have hne : ((v : Int) != wrap64 ((cc : Int) * (fk : Int))) = false := by rw [hcm, bne_eq_false_iff_eq]
                clear hcm hz1
                replace hvv := hid hvv
                replace hff := hid hff
                have c1 : v < low ∨ low ≤ v := by omega
                have c2 : high < v ∨ v ≤ high := by omega
                rcases c1 with c1 | c1 <;> rcases c2 with c2 | c2
                · go_wp2
                  go_round
                  case rel =>
                    refine ⟨k + 1, v, v, by omega, by omega, by omega, rfl, rfl, by go_num, ?_, fun h => absurd h (by omega)⟩
                    have := HS3.out
                    rwa [show min low v = v by omega, show max high v = v by omega] at this
                  case measure => simp [intOf]; omega
                · go_wp2
                  go_round
                  case rel =>
                    refine ⟨k + 1, v, high, by omega, by omega, by omega, rfl, rfl, by go_num, ?_, fun h => absurd h (by omega)⟩
                    have := HS3.out
                    rwa [show min low v = v by omega, show max high v = high by omega] at this
                  case measure => simp [intOf]; omega
                · go_wp2
                  go_round
                  case rel =>
                    refine ⟨k + 1, low, v, by omega, by omega, by omega, rfl, rfl, by go_num, ?_, fun h => absurd h (by omega)⟩
                    have := HS3.out
                    rwa [show min low v = low by omega, show max high v = v by omega] at this
                  case measure => simp [intOf]; omega
                · go_wp2
                  go_round
                  case rel =>
                    refine ⟨k + 1, low, high, by omega, by omega, by omega, rfl, rfl, by go_num, ?_, fun h => absurd h (by omega)⟩
                    have := HS3.out
                    rwa [show min low v = low by omega, show max high v = high by omega] at this
                  case measure => simp [intOf]; omega
              · obtain rfl : k = zs.length := by omega
                have hle : high ≤ low + most := by
                  rcases hLH.out.2 with h | ⟨⟨i, x, h1, h2⟩, i', x', h3, h4⟩
                  · omega
                  · have := hS2.out.near i' i x' x h3 h1
                    omega
                have hle2 : (high : Int) - (low : Int) ≤ (most : Int) := by omega
                go_wp2
                go_roundw
                case rel => exact ⟨m + 1, F, ts', f', by omega, by go_num, hS2, hG3⟩
                case measure => simp [intOf]; omega
          · go_wp2
            go_ret
            have := hG.out.d.bel
            rw [hB.out] at this
            exact ⟨rfl, this⟩
end Go.Proofs.Ytpafafleepcjdaa
