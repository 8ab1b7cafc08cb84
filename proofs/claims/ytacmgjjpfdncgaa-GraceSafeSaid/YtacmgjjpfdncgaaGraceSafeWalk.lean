/- The walk of the law GraceSafe: it returns true and changes nothing that was there. No condition. -/
import Derived.Test.YtacmgjjpfdncgaaGraceW
import Derived.Test.YtacmgjjpfdncgaaMapLen
import Derived.Deep.DeepCutAuto
namespace Go.Proofs.Ytacmgjjpfdncgaa
open Go.ChangeShapes Go.WideShapes Go.ChangeAt Go.RowKit
set_option linter.unusedVariables false
/-- The world behind the law's own variables. -/
def safeW (w : World) (p : Nat) : World :=
  ((((((w.alloc (.cells #[.pointer (some ⟨p, 0, none⟩)] 56)).alloc (.cells #[.int .i64 0, .int .i64 0, .int .i64 0, .int .i64 0] 59)).alloc (.cells #[.int .i64 0, .int .i64 0, .int .i64 0, .int .i64 0] 59)).alloc (.map #[] 0)).alloc (.cells #[.map (some (w.heap.size + 1 + 1 + 1))] 60)).alloc (.map #[] 0)).alloc (.cells #[.map (some (w.heap.size + 1 + 1 + 1 + 1 + 1))] 61)
theorem gv_start {w0 w : World} {F : Nat → Prop} {p : Nat} (h : GrAt w F p (fun _ => 0) (fun _ => 0) []) (hb : Below w0.heap.size w0 w) (hf : ∀ k, F k → w0.heap.size ≤ k) :
    GV w0 F p (fun _ => 0) (fun _ => 0) [] w.heap.size (w.heap.size + 1 + 1 + 1 + 1) (w.heap.size + 1 + 1 + 1 + 1 + 1 + 1) (w.heap.size + 1) (w.heap.size + 1 + 1) (w.heap.size + 1 + 1 + 1) (w.heap.size + 1 + 1 + 1 + 1 + 1) 0 0 (sawF 0 (fun _ _ => 0)) (dnK 0 (([] : List GCall).map GCall.id) []) (safeW w p) := by
  have e1 : sawF 0 (fun _ _ => 0) = fun _ => none := by funext i; unfold sawF; rw [if_neg (by omega)]
  have e2 : dnK 0 (([] : List GCall).map GCall.id) [] = fun _ => none := by funext i; unfold dnK; rw [if_neg (by omega)]
  rw [e1, e2]
  have hlt := h.lt
  have b0 := Blk.new w 56 [.pointer (some ⟨p, 0, none⟩)]
  obtain ⟨w1, h1⟩ : ∃ w1, w1 = w.alloc (.cells #[.pointer (some ⟨p, 0, none⟩)] 56) := ⟨_, rfl⟩
  have z1 : w1.heap.size = w.heap.size + 1 := by rw [h1]; simp
  have b1 := Blk.new w1 59 (arr4 (fun _ => 0))
  obtain ⟨w2, h2⟩ : ∃ w2, w2 = w1.alloc (.cells #[.int .i64 0, .int .i64 0, .int .i64 0, .int .i64 0] 59) := ⟨_, rfl⟩
  have z2 : w2.heap.size = w.heap.size + 1 + 1 := by rw [h2]; simp [z1]
  have b2 := Blk.new w2 59 (arr4 (fun _ => 0))
  obtain ⟨w3, h3⟩ : ∃ w3, w3 = w2.alloc (.cells #[.int .i64 0, .int .i64 0, .int .i64 0, .int .i64 0] 59) := ⟨_, rfl⟩
  have z3 : w3.heap.size = w.heap.size + 1 + 1 + 1 := by rw [h3]; simp [z2]
  have b3 := MpAt.made w3 Try.prog 3
  obtain ⟨w4, h4⟩ : ∃ w4, w4 = w3.alloc (.map #[] 0) := ⟨_, rfl⟩
  have z4 : w4.heap.size = w.heap.size + 1 + 1 + 1 + 1 := by rw [h4]; simp [z3]
  have b4 := Blk.new w4 60 [.map (some (w.heap.size + 1 + 1 + 1))]
  obtain ⟨w5, h5⟩ : ∃ w5, w5 = w4.alloc (.cells #[.map (some (w.heap.size + 1 + 1 + 1))] 60) := ⟨_, rfl⟩
  have z5 : w5.heap.size = w.heap.size + 1 + 1 + 1 + 1 + 1 := by rw [h5]; simp [z4]
  have b5 := MpAt.made w5 Try.prog 3
  obtain ⟨w6, h6⟩ : ∃ w6, w6 = w5.alloc (.map #[] 0) := ⟨_, rfl⟩
  have z6 : w6.heap.size = w.heap.size + 1 + 1 + 1 + 1 + 1 + 1 := by rw [h6]; simp [z5]
  have b6 := Blk.new w6 61 [.map (some (w.heap.size + 1 + 1 + 1 + 1 + 1))]
  have hw : safeW w p = w6.alloc (.cells #[.map (some (w.heap.size + 1 + 1 + 1 + 1 + 1))] 61) := by rw [h6, h5, h4, h3, h2, h1]; rfl
  rw [hw]
  obtain ⟨w7, h7⟩ : ∃ w7, w7 = w6.alloc (.cells #[.map (some (w.heap.size + 1 + 1 + 1 + 1 + 1))] 61) := ⟨_, rfl⟩
  rw [← h7]
  have k1 : Chg Nil w w1 := by rw [h1]; exact (Chg.refl _ _).alloc _
  have k2 : Chg Nil w1 w2 := by rw [h2]; exact (Chg.refl _ _).alloc _
  have k3 : Chg Nil w2 w3 := by rw [h3]; exact (Chg.refl _ _).alloc _
  have k4 : Chg Nil w3 w4 := by rw [h4]; exact (Chg.refl _ _).alloc _
  have k5 : Chg Nil w4 w5 := by rw [h5]; exact (Chg.refl _ _).alloc _
  have k6 : Chg Nil w5 w6 := by rw [h6]; exact (Chg.refl _ _).alloc _
  have k7 : Chg Nil w6 w7 := by rw [h7]; exact (Chg.refl _ _).alloc _
  have n : ∀ i, ¬ Nil i := fun _ h => h
  have t27 := k7
  have t16 : Chg Nil w5 w7 := k6.trans k7 (fun _ _ h => h)
  have t15 : Chg Nil w4 w7 := k5.trans t16 (fun _ _ h => h)
  have t14 : Chg Nil w3 w7 := k4.trans t15 (fun _ _ h => h)
  have t13 : Chg Nil w2 w7 := k3.trans t14 (fun _ _ h => h)
  have t12 : Chg Nil w1 w7 := k2.trans t13 (fun _ _ h => h)
  have t11 : Chg Nil w w7 := k1.trans t12 (fun _ _ h => h)
  change Blk (w.alloc (.cells #[.pointer (some ⟨p, 0, none⟩)] 56)) _ _ _ at b0
  change Blk (w1.alloc (.cells #[.int .i64 0, .int .i64 0, .int .i64 0, .int .i64 0] 59)) _ _ _ at b1
  change Blk (w2.alloc (.cells #[.int .i64 0, .int .i64 0, .int .i64 0, .int .i64 0] 59)) _ _ _ at b2
  change Blk (w4.alloc (.cells #[.map (some (w.heap.size + 1 + 1 + 1))] 60)) _ _ _ at b4
  change Blk (w6.alloc (.cells #[.map (some (w.heap.size + 1 + 1 + 1 + 1 + 1))] 61)) _ _ _ at b6
  rw [← h1] at b0
  rw [← h2, z1] at b1
  rw [← h3, z2] at b2
  rw [← h4, z3] at b3
  rw [← h5, z4] at b4
  rw [← h6, z5] at b5
  rw [← h7, z6] at b6
  refine ⟨h.chg t11 (fun _ _ h => h), b0.chg t12 (n _), b4.chg t16 (n _), b6, b1.chg t13 (n _), b2.chg t14 (n _), b3.chg t15 (n _), b5.chg k7 (n _), ?_, fun k hk => ⟨fun hF => ?_, ?_⟩, hf, below_nil hb t11⟩
  · simp; omega
  · have := hlt k hF
    simp only [List.mem_cons, List.not_mem_nil, or_false] at hk
    omega
  · have := hb.size
    simp only [List.mem_cons, List.not_mem_nil, or_false] at hk
    omega
theorem saw_put (next : Nat) (wt : Nat → Nat → Int) (f : Nat → Int) : updM (sawF next wt) (next : Int) (some (arrV f)) = sawF (next + 1) (fun i => if i = next then f else wt i) := by
  funext j
  unfold updM sawF
  by_cases hj : j = (next : Int)
  · subst hj
    rw [if_pos rfl, if_pos ⟨by omega, by omega⟩]
    simp
  · rw [if_neg hj]
    by_cases h2 : 0 ≤ j ∧ j < (next : Int)
    · rw [if_pos h2, if_pos ⟨h2.1, by omega⟩]
      show _ = some (arrV (if j.toNat = next then f else wt j.toNat))
      rw [if_neg (by omega)]
    · rw [if_neg h2, if_neg (by omega)]
theorem dn_call (next : Nat) (l : List GCall) (f : Nat → Int) : dnK next (l.map GCall.id) [] = dnK (next + 1) ((l ++ [(⟨(next : Int), f⟩ : GCall)]).map GCall.id) [] := by
  funext j
  unfold dnK
  have e : (l ++ [(⟨(next : Int), f⟩ : GCall)]).map GCall.id = l.map GCall.id ++ [(next : Int)] := by simp
  rw [e]
  by_cases hj : j = (next : Int)
  · subst hj
    rw [if_neg (by omega), if_neg]
    rintro ⟨_, _, h | h⟩
    · exact h (by simp)
    · cases h
  · have h1 : j ∉ l.map GCall.id ++ [(next : Int)] ↔ j ∉ l.map GCall.id := by simp [hj]
    simp only [h1]
    by_cases h2 : 0 ≤ j ∧ j < (next : Int)
    · simp only [h2.1, h2.2, show j < ((next + 1 : Nat) : Int) by omega, true_and]
    · rw [if_neg (fun h => h2 ⟨h.1, h.2.1⟩), if_neg (fun h => h2 ⟨h.1, by omega⟩)]
/-- What holds at the end: the first i processors read no more. -/
def SafeEnd (w0 : World) (p gb sb db ab tb ms md : Nat) (i next : Nat) (w : World) : Prop :=
  ∃ F dp tn l wt ns nd, F p ∧ GV w0 F p dp tn l gb sb db ab tb ms md ns nd (sawF next wt) (dnK next (l.map GCall.id) []) w ∧ GS next dp tn l wt ∧ next ≤ 200 ∧ ns ≤ 200 ∧ nd + l.length ≤ 200 ∧ ∀ j, j < i → dp j = 0
def dpAt (w : World) (ab i : Nat) : Nat := (((w.cell? ⟨ab, i, none⟩).map intOf).getD 0).toNat
/-- What holds ahead of each round. -/
def SafeInv (w0 : World) (p gb sb db ab tb ms md : Nat) (k next : Nat) (w : World) : Prop :=
  ∃ F dp tn l wt ns nd, F p ∧ GV w0 F p dp tn l gb sb db ab tb ms md ns nd (sawF next wt) (dnK next (l.map GCall.id) []) w ∧ GS next dp tn l wt ∧ next ≤ k ∧ ns ≤ k ∧ nd + l.length ≤ k ∧ ∀ i, i < 4 → tn i ≤ k
theorem grAt_p {w : World} {F : Nat → Prop} {p : Nat} {dp tn : Nat → Int} {l : List GCall} (h : GrAt w F p dp tn l) : F p := by
  obtain ⟨_, _, _, _, _, h3, _⟩ := h
  exact h3
set_option maxRecDepth 100000 in
set_option maxHeartbeats 1000000 in
theorem graceSafe_walk (a0 : Option Addr) (len0 cap0 : Nat) (z0 : List Int) (w : World) (w0 : IsRow .i64 w a0 len0 cap0 z0) :
    Calls Try.prog 9 #[.slice a0 len0 cap0] w fun e w' => e = .returned (.bool true) ∧ Below w.heap.size w w' := by
  have hl1 := w0.1.1
  have hl2 := w0.1.2.1
  unfold maxLen at hl2
  have W0 := hid w0
  clear w0
  have hmm := @run_makeMap Try.prog
  go_enter Try.func9, Try.ntmps9
  go_wp2_with fail
  refine (graceBegun_ok _).mono ?_
  rintro e w1 ⟨rfl, c1⟩
  go_wp2_with fail
  refine (newGrace_ok _).mono ?_
  rintro e w2 ⟨F, p, rfl, s2, c2, g2⟩
  have b2 : Below w.heap.size w w2 := below_nil (below_nil (Below.refl _ w) c1) c2
  have f2 : ∀ k, F k → w.heap.size ≤ k := grew_ge g2 (fun _ h => h.elim) c1.size
  replace b2 := hid b2
  replace f2 := hid f2
  replace s2 := hid s2
  clear c1 c2 g2
  go_upto_region 9 with fail
  have hgv := hid (gv_start s2.out b2.out f2.out)
  unfold safeW at hgv
  generalize w2.heap.size + 1 + 1 + 1 + 1 + 1 + 1 = db at hgv ⊢
  generalize w2.heap.size + 1 + 1 + 1 + 1 + 1 = md at hgv ⊢
  generalize w2.heap.size + 1 + 1 + 1 + 1 = sb at hgv ⊢
  generalize w2.heap.size + 1 + 1 + 1 = ms at hgv ⊢
  generalize w2.heap.size + 1 + 1 = tb at hgv ⊢
  generalize w2.heap.size + 1 = ab at hgv ⊢
  generalize w2.heap.size = gb at hgv ⊢
  generalize ((((((w2.alloc (.cells #[.pointer (some ⟨p, 0, none⟩)] 56)).alloc (.cells #[.int .i64 0, .int .i64 0, .int .i64 0, .int .i64 0] 59)).alloc (.cells #[.int .i64 0, .int .i64 0, .int .i64 0, .int .i64 0] 59)).alloc (.map #[] 0)).alloc (.cells #[.map (some ms)] 60)).alloc (.map #[] 0)).alloc (.cells #[.map (some md)] 61) = w3 at hgv ⊢
  have hI : SafeInv w p gb sb db ab tb ms md 0 0 w3 := ⟨F, _, _, [], _, 0, 0, grAt_p s2.out, hgv.out, GS.start, by omega, by omega, by simp, by simp⟩
  replace hI := hid hI
  clear hgv s2 f2 b2
  go_cut [28, 29, 30] (fun s28 s29 s30 wx => wx = w3 ∧ ∃ N : Nat, N ≤ 200 ∧ N ≤ len0 ∧ s28 = .slice a0 N cap0 ∧ s29 = .int .i64 N ∧ s30 = .int .i64 0)
  case first =>
    go_wp2
    · go_meet
      exact ⟨rfl, 200, by omega, by omega, rfl, rfl, rfl⟩
    · go_meet
      exact ⟨rfl, len0, by omega, by omega, by simp, by simp, rfl⟩
  case rest =>
    obtain ⟨rfl, N, hN1, hN2, rfl, rfl, rfl⟩ := hcut
    go_wp2
    go_loopw [7, 30] (fun s7 s30 wr => ∃ k next : Nat, k ≤ N ∧ s30 = .int .i64 k ∧ s7 = .int .i64 next ∧ Hid (SafeInv w p gb sb db ab tb ms md k next wr)) (fun _ s30 _ => N - (intOf s30).toNat)
    case atStart => exact ⟨0, 0, by omega, rfl, rfl, hI⟩
    case round =>
      obtain ⟨k, next, hk, rfl, rfl, hJ⟩ := hrel
      clear hI
      obtain ⟨F, dp, tn, l, wt, ns, nd, i0, i1, i2, i3, i4, i5, i6⟩ := id hJ.out
      by_cases hlt : k < N
      · have hz : k < z0.length := by have := W0.out.1.ilen; omega
        have HA : Rd wr (Upto w.heap.size) 1 a0 len0 cap0 (ints .i64 z0) := W0.out.1.chg (Chg.of_below i1.bel Nil) (fun _ _ _ h => h)
        obtain ⟨g, off, rfl, _, _, hc⟩ := HA.at hz
        have hc1 := hc k hz
        clear hc HA
        have r1 := rest_nonneg z0[k] 5 (by omega)
        have r2 := rest_lt z0[k] 5 (by omega)
        have r3 := rest_nonneg (wrap64 (z0[k].tdiv 5)) 4 (by omega)
        have r4 := rest_lt (wrap64 (z0[k].tdiv 5)) 4 (by omega)
        obtain ⟨i, hi⟩ := Int.eq_ofNat_of_zero_le r3
        have hi4 : i < 4 := by omega
        have HI := hid hi
        rw [hi] at r3 r4
        clear hi
        have hlen := i2.len
        have hbd := i1.g.bd i hi4
        have hti := i6 i hi4
        have e0 := i1.bg.cell 0
        simp only [List.getElem?_cons_zero] at e0
        have e1 := i1.ba.cell i
        have e2 := i1.bt.cell i
        rw [arr4_get _ hi4] at e1 e2
        have H := hid i1
        have HG := hid i2
        have hpF : One p p := rfl
        replace i0 := hid i0
        replace i6 := hid i6
        clear i1 i2 hpF
        have hr5 : rest z0[k] 5 = 0 ∨ rest z0[k] 5 = 1 ∨ rest z0[k] 5 = 2 ∨ rest z0[k] 5 = 3 ∨ rest z0[k] 5 = 4 := by omega
        have ne1 : ∀ k ∈ [gb, sb, db, ab, tb, ms, md], ¬ One p k := fun k hk hh => (H.out.nf k hk).1 (by rw [show k = p from hh]; exact i0.out)
        have nab : ab ≠ tb := by have := H.out.dist; simp only [List.nodup_cons, List.mem_cons, List.not_mem_nil, or_false, not_or] at this; omega
        have nba : tb ≠ ab := fun h => nab h.symm
        replace ne1 := hid ne1
        rcases hr5 with hr5 | hr5 | hr5 | hr5 | hr5
        · have b0 : (rest z0[k] 5 == 0) = true := by rw [beq_iff_eq]; exact hr5
          clear hr5
          by_cases hd : dp i = 8
          · replace hd := hid hd
            go_wp2_with (first | (go_at_call 13; refine (rest_any _ _ _ (by omega) (by omega)).mono ?_; (first | rw [HI.out] | skip); rintro e w' ⟨rfl, rfl⟩) | (go_at_call 34; refine (enter_full _ F p i dp tn l H.out.g hi4 hd.out).mono ?_; rintro e w' ⟨rfl, rfl⟩))
            go_roundw
            case rel => exact ⟨k + 1, next, by omega, by go_num, rfl, F, dp, tn, l, wt, ns, nd, i0.out, H.out, HG.out, by omega, by omega, by omega, fun j hj => by have := i6.out j hj; omega⟩
            case measure => simp [intOf]; omega
          · have hd8 : dp i < 8 := by omega
            clear hd
            have ne1 := ne1.out
            replace ne1 := hid ne1
            by_cases hz0 : dp i = 0
            · have hb : (dp i + 1 == 1) = true := by rw [beq_iff_eq]; omega
              have hT : enterT dp tn i = upI tn i (tn i + 1) := if_pos hz0
              replace hT := hid hT
              clear hz0
              go_wp2_with (first | (go_at_call 13; refine (rest_any _ _ _ (by omega) (by omega)).mono ?_; (first | rw [HI.out] | skip); rintro e w' ⟨rfl, rfl⟩) | (go_at_call 34; refine (enter_ok _ F p i dp tn l H.out.g hi4 (by omega) (by omega)).mono ?_; rintro e w3 ⟨rfl, q1, q2⟩; have d1 := (H.out.ba.chg q2 (ne1.out _ (by simp))).cell i; have d2 := (H.out.bt.chg q2 (ne1.out _ (by simp))).cell i; have d3 := (H.out.ba.chg q2 (ne1.out _ (by simp))).frozen i; have d4 := (H.out.bt.chg q2 (ne1.out _ (by simp))).frozen i; rw [arr4_get _ hi4] at d1 d2; replace q1 := hid q1; replace q2 := hid q2))
              go_roundw
              case rel =>
                rw [hT.out] at q1
                exact ⟨k + 1, next, by omega, by go_num, rfl, F, _, _, l, wt, ns, nd, i0.out, H.out.deep2 q1.out q2.out i0.out hi4 (dp i + 1) (tn i + 1) rfl rfl, by have := HG.out.enter i hi4 (by omega); rw [hT.out] at this; exact this, by omega, by omega, by omega, fun j hj => by have := i6.out j hj; unfold upI; split <;> omega⟩
              case measure => simp [intOf]; omega
            · have hb : (dp i + 1 == 1) = false := by rw [beq_eq_false_iff_ne]; omega
              have hT : enterT dp tn i = tn := if_neg hz0
              replace hT := hid hT
              have hz1 : 1 ≤ dp i := by omega
              clear hz0
              go_wp2_with (first | (go_at_call 13; refine (rest_any _ _ _ (by omega) (by omega)).mono ?_; (first | rw [HI.out] | skip); rintro e w' ⟨rfl, rfl⟩) | (go_at_call 34; refine (enter_ok _ F p i dp tn l H.out.g hi4 (by omega) (by omega)).mono ?_; rintro e w3 ⟨rfl, q1, q2⟩; have d1 := (H.out.ba.chg q2 (ne1.out _ (by simp))).cell i; have d2 := (H.out.bt.chg q2 (ne1.out _ (by simp))).cell i; have d3 := (H.out.ba.chg q2 (ne1.out _ (by simp))).frozen i; have d4 := (H.out.bt.chg q2 (ne1.out _ (by simp))).frozen i; rw [arr4_get _ hi4] at d1 d2; replace q1 := hid q1; replace q2 := hid q2))
              go_roundw
              case rel =>
                rw [hT.out] at q1
                exact ⟨k + 1, next, by omega, by go_num, rfl, F, _, _, l, wt, ns, nd, i0.out, H.out.deep q1.out q2.out i0.out hi4 (dp i + 1) rfl, by have := HG.out.enter i hi4 (by omega); rw [hT.out] at this; exact this, by omega, by omega, by omega, fun j hj => by have := i6.out j hj; omega⟩
              case measure => simp [intOf]; omega
        · have b0 : (rest z0[k] 5 == 0) = false := by rw [beq_eq_false_iff_ne]; omega
          have b1 : (rest z0[k] 5 == 1) = true := by rw [beq_iff_eq]; exact hr5
          clear hr5
          by_cases hd : dp i = 8
          · replace hd := hid hd
            go_wp2_with (first | (go_at_call 13; refine (rest_any _ _ _ (by omega) (by omega)).mono ?_; (first | rw [HI.out] | skip); rintro e w' ⟨rfl, rfl⟩) | (go_at_call 34; refine (enter_full _ F p i dp tn l H.out.g hi4 hd.out).mono ?_; rintro e w' ⟨rfl, rfl⟩))
            go_roundw
            case rel => exact ⟨k + 1, next, by omega, by go_num, rfl, F, dp, tn, l, wt, ns, nd, i0.out, H.out, HG.out, by omega, by omega, by omega, fun j hj => by have := i6.out j hj; omega⟩
            case measure => simp [intOf]; omega
          · have hd8 : dp i < 8 := by omega
            clear hd
            have ne1 := ne1.out
            replace ne1 := hid ne1
            by_cases hz0 : dp i = 0
            · have hb : (dp i + 1 == 1) = true := by rw [beq_iff_eq]; omega
              have hT : enterT dp tn i = upI tn i (tn i + 1) := if_pos hz0
              replace hT := hid hT
              clear hz0
              go_wp2_with (first | (go_at_call 13; refine (rest_any _ _ _ (by omega) (by omega)).mono ?_; (first | rw [HI.out] | skip); rintro e w' ⟨rfl, rfl⟩) | (go_at_call 34; refine (enter_ok _ F p i dp tn l H.out.g hi4 (by omega) (by omega)).mono ?_; rintro e w3 ⟨rfl, q1, q2⟩; have d1 := (H.out.ba.chg q2 (ne1.out _ (by simp))).cell i; have d2 := (H.out.bt.chg q2 (ne1.out _ (by simp))).cell i; have d3 := (H.out.ba.chg q2 (ne1.out _ (by simp))).frozen i; have d4 := (H.out.bt.chg q2 (ne1.out _ (by simp))).frozen i; rw [arr4_get _ hi4] at d1 d2; replace q1 := hid q1; replace q2 := hid q2))
              go_roundw
              case rel =>
                rw [hT.out] at q1
                exact ⟨k + 1, next, by omega, by go_num, rfl, F, _, _, l, wt, ns, nd, i0.out, H.out.deep2 q1.out q2.out i0.out hi4 (dp i + 1) (tn i + 1) rfl rfl, by have := HG.out.enter i hi4 (by omega); rw [hT.out] at this; exact this, by omega, by omega, by omega, fun j hj => by have := i6.out j hj; unfold upI; split <;> omega⟩
              case measure => simp [intOf]; omega
            · have hb : (dp i + 1 == 1) = false := by rw [beq_eq_false_iff_ne]; omega
              have hT : enterT dp tn i = tn := if_neg hz0
              replace hT := hid hT
              have hz1 : 1 ≤ dp i := by omega
              clear hz0
              go_wp2_with (first | (go_at_call 13; refine (rest_any _ _ _ (by omega) (by omega)).mono ?_; (first | rw [HI.out] | skip); rintro e w' ⟨rfl, rfl⟩) | (go_at_call 34; refine (enter_ok _ F p i dp tn l H.out.g hi4 (by omega) (by omega)).mono ?_; rintro e w3 ⟨rfl, q1, q2⟩; have d1 := (H.out.ba.chg q2 (ne1.out _ (by simp))).cell i; have d2 := (H.out.bt.chg q2 (ne1.out _ (by simp))).cell i; have d3 := (H.out.ba.chg q2 (ne1.out _ (by simp))).frozen i; have d4 := (H.out.bt.chg q2 (ne1.out _ (by simp))).frozen i; rw [arr4_get _ hi4] at d1 d2; replace q1 := hid q1; replace q2 := hid q2))
              go_roundw
              case rel =>
                rw [hT.out] at q1
                exact ⟨k + 1, next, by omega, by go_num, rfl, F, _, _, l, wt, ns, nd, i0.out, H.out.deep q1.out q2.out i0.out hi4 (dp i + 1) rfl, by have := HG.out.enter i hi4 (by omega); rw [hT.out] at this; exact this, by omega, by omega, by omega, fun j hj => by have := i6.out j hj; omega⟩
              case measure => simp [intOf]; omega
        · have b0 : (rest z0[k] 5 == 0) = false := by rw [beq_eq_false_iff_ne]; omega
          have b1 : (rest z0[k] 5 == 1) = false := by rw [beq_eq_false_iff_ne]; omega
          have b2 : (rest z0[k] 5 == 2) = true := by rw [beq_iff_eq]; exact hr5
          clear hr5
          by_cases hd : dp i = 0
          · replace hd := hid hd
            go_wp2_with (first | (go_at_call 13; refine (rest_any _ _ _ (by omega) (by omega)).mono ?_; (first | rw [HI.out] | skip); rintro e w' ⟨rfl, rfl⟩) | (go_at_call 35; refine (leave_none _ F p i dp tn l H.out.g hi4 hd.out).mono ?_; rintro e w' ⟨rfl, rfl⟩))
            go_roundw
            case rel => exact ⟨k + 1, next, by omega, by go_num, rfl, F, dp, tn, l, wt, ns, nd, i0.out, H.out, HG.out, by omega, by omega, by omega, fun j hj => by have := i6.out j hj; omega⟩
            case measure => simp [intOf]; omega
          · have hd8 : 1 ≤ dp i := by omega
            clear hd
            go_wp2_with (first | (go_at_call 13; refine (rest_any _ _ _ (by omega) (by omega)).mono ?_; (first | rw [HI.out] | skip); rintro e w' ⟨rfl, rfl⟩) | (go_at_call 35; refine (leave_ok _ F p i dp tn l H.out.g hi4 (by omega)).mono ?_; rintro e w3 ⟨rfl, q1, q2⟩; have d1 := (H.out.ba.chg q2 (ne1.out _ (by simp))).cell i; have d3 := (H.out.ba.chg q2 (ne1.out _ (by simp))).frozen i; rw [arr4_get _ hi4] at d1; replace q1 := hid q1; replace q2 := hid q2))
            go_roundw
            case rel => exact ⟨k + 1, next, by omega, by go_num, rfl, F, _, _, l, wt, ns, nd, i0.out, H.out.deep q1.out q2.out i0.out hi4 (dp i - 1) rfl, HG.out.leave i, by omega, by omega, by omega, fun j hj => by have := i6.out j hj; omega⟩
            case measure => simp [intOf]; omega
        · have b0 : (rest z0[k] 5 == 0) = false := by rw [beq_eq_false_iff_ne]; omega
          have b1 : (rest z0[k] 5 == 1) = false := by rw [beq_eq_false_iff_ne]; omega
          have b2 : (rest z0[k] 5 == 2) = false := by rw [beq_eq_false_iff_ne]; omega
          have b3 : (rest z0[k] 5 == 3) = true := by rw [beq_iff_eq]; exact hr5
          clear hr5
          have hids : hasId l (next : Int) = false := hasId_false fun j hj => by obtain ⟨q, hq, he⟩ := HG.out.ids _ (List.getElem_mem hj); rw [he]; show (q : Int) ≠ next; omega
          replace hids := hid hids
          go_wp2_with (first | (go_at_call 13; refine (rest_any _ _ _ (by omega) (by omega)).mono ?_; (first | rw [HI.out] | skip); rintro e w' ⟨rfl, rfl⟩) | (go_at_call 32; refine (gcall_ok _ F p dp tn l _ H.out.g (by omega) hids.out).mono ?_; rintro e w3 ⟨F3, rfl, q1, q2, q3⟩; replace q1 := hid q1; replace q2 := hid q2; replace q3 := hid q3))
          obtain ⟨wa, hwa⟩ : ∃ wa, wa = w3.alloc (.cells #[.int .i64 0, .int .i64 0, .int .i64 0, .int .i64 0] 59) := ⟨_, rfl⟩
          rw [← hwa]
          have HA : Hid (Chg Nil w3 wa) := hid (by rw [hwa]; exact (Chg.refl _ _).alloc _)
          have HBA : Hid (Blk wa w3.heap.size 59 (arr4 (wtTo dp tn 0))) := hid (by rw [hwa]; exact Blk.new w3 _ (arr4 (wtTo dp tn 0)))
          have H3 := hid ((H.out.step q1.out q2.out q3.out rfl rfl).nil HA.out)
          have hrl : w3.heap.size ∉ [gb, sb, db, ab, tb, ms, md] := fun hh => by have h1 := H.out.lts _ hh; have h2 := q2.out.size; omega
          have hrF : ¬ F3 w3.heap.size := fun hh => by have := q1.out.lt _ hh; omega
          have hrB : w.heap.size ≤ w3.heap.size := Nat.le_trans H.out.bel.size q2.out.size
          obtain ⟨q, hq⟩ : ∃ q, q = w3.heap.size := ⟨_, rfl⟩
          rw [← hq] at HBA hrl hrF hrB ⊢
          have i03 := hid (grAt_p q1.out)
          have hqa : q ≠ ab ∧ q ≠ tb := by simp only [List.mem_cons, List.not_mem_nil, or_false, not_or] at hrl; exact ⟨hrl.2.2.2.1, hrl.2.2.2.2.1⟩
          replace hqa := hid hqa
          replace hrl := hid hrl
          replace hrF := hid hrF
          clear hwa hq
          obtain ⟨wv, rfl⟩ : ∃ wv : World, wv = wr := ⟨_, rfl⟩
          clear e0 e1 e2
          go_loopw [80] (fun s80 wr => ∃ j : Nat, j ≤ 4 ∧ s80 = .int .i64 j ∧ Hid (Chg (One q) wa wr ∧ Blk wr q 59 (arr4 (wtTo dp tn j)))) (fun s80 _ => 4 - (intOf s80).toNat)
          case atStart => exact ⟨0, by omega, rfl, Chg.refl _ _, HBA.out⟩
          case round =>
            clear HBA
            obtain ⟨j, hj, rfl, hC⟩ := hrel
            have H4 := hid (H3.out.far hC.out.1 hrl.out hrF.out hrB)
            by_cases hj4 : j < 4
            · have e1 := hC.out.2.frozen j
              have e2 := H4.out.ba.cell j
              have e3 := H4.out.bt.cell j
              have e4 := hC.out.2.cell j
              rw [arr4_get _ hj4] at e2 e3 e4
              have hj8 : (j : Int) < 4 := by omega
              have hbj := H4.out.g.bd j hj4
              by_cases hp : 0 < dp j
              · have hT := hid (wtTo_pos (tn := tn) hp)
                go_wp2
                go_roundw
                case rel =>
                  have hb := hC.out.2.set j (.int .i64 (tn j))
                  rw [arr4_set _ hj4, hT.out] at hb
                  exact ⟨j + 1, by omega, by go_num, (hC.out.1).setCell (p := ⟨q, j, none⟩) (.inl (show One q q from rfl)) _, hb⟩
                case measure => simp [intOf]; omega
              · have hT := hid (wtTo_neg (tn := tn) hp)
                have hp2 : dp j ≤ 0 := by omega
                clear hp
                go_wp2
                go_roundw
                case rel => exact ⟨j + 1, by omega, by go_num, hC.out.1, by rw [← hT.out]; exact hC.out.2⟩
                case measure => simp [intOf]; omega
            · have hb4 : Blk wr q 59 (arr4 (waitsFor dp tn)) := by have := hC.out.2; rw [show j = 4 by omega] at this; exact this
              have c0 := hb4.cell 0
              have c1 := hb4.cell 1
              have c2 := hb4.cell 2
              have c3 := hb4.cell 3
              have c4 := H4.out.bs.cell 0
              have c5 := H4.out.ba.cell i
              rw [arr4_get _ hi4] at c5
              simp only [arr4, List.getElem?_cons_zero, List.getElem?_cons_succ] at c0 c1 c2 c3 c4
              have HM := hid H4.out.mps
              clear hb4
              go_wp2_with (refine wpList_store _ rfl _ _ _ 60 rfl Try.underlying3 Try.underlying60 ms ns _ rfl HM.out (by omega) (next : Int) (arrV (waitsFor dp tn)) rfl rfl (wfN next (by omega)) ?_; intro w9 y1 y2; have c6 := (H4.out.ba.chg y2 (fun hh => by have := H4.out.dist; simp only [List.nodup_cons, List.mem_cons, List.not_mem_nil, or_false, not_or] at this; exact this.2.2.2.1.2.1 hh)).cell i; rw [arr4_get _ hi4] at c6; replace y1 := hid y1; replace y2 := hid y2)
              refine ⟨⟨k + 1, next + 1, by omega, by go_num, by go_num, F3, dp, tn, _, _, ns + 1, nd, i03.out, ?_, HG.out.call (fun j hj => (H.out.g.bd j hj).2.2.1), by omega, by omega, by rw [List.length_append]; simp; omega, fun j hj => by have := i6.out j hj; omega⟩, by simp [intOf]; omega⟩
              have h5 := H4.out.putS y1.out y2.out
              rw [saw_put, dn_call next l (waitsFor dp tn)] at h5
              exact h5
        · have b0 : (rest z0[k] 5 == 0) = false := by rw [beq_eq_false_iff_ne]; omega
          have b1 : (rest z0[k] 5 == 1) = false := by rw [beq_eq_false_iff_ne]; omega
          have b2 : (rest z0[k] 5 == 2) = false := by rw [beq_eq_false_iff_ne]; omega
          have b3 : (rest z0[k] 5 == 3) = false := by rw [beq_eq_false_iff_ne]; omega
          clear hr5
          have HD := hid (dnK_left HG.out)
          go_wp2_with (first | (go_at_call 13; refine (rest_any _ _ _ (by omega) (by omega)).mono ?_; (first | rw [HI.out] | skip); rintro e w' ⟨rfl, rfl⟩) | (go_at_call 36; refine (grun_ok w _ F p next dp tn l wt gb sb db ab tb ms md ns nd H.out HG.out (by omega) (by omega) (by omega) (by omega)).mono ?_; rintro e w3 ⟨rfl, F3, nd3, hn3, q1⟩; rw [HD.out] at q1; have d1 := q1.ba.cell i; rw [arr4_get _ hi4] at d1; replace q1 := hid q1))
          go_roundw
          case rel => exact ⟨k + 1, next, by omega, by go_num, rfl, F3, _, _, _, wt, ns, nd3, grAt_p q1.out.g, q1.out, HG.out.run, by omega, by omega, by omega, fun j hj => by have := i6.out j hj; omega⟩
          case measure => simp [intOf]; omega
      · have hE : SafeEnd w p gb sb db ab tb ms md 0 next wr := ⟨F, dp, tn, l, wt, ns, nd, i0, i1, i2, by omega, by omega, by omega, fun j hj => absurd hj (by omega)⟩
        have hnx : next ≤ 200 := by omega
        replace hE := hid hE
        clear hJ i1 i2 i0 i6 i3 i4 i5
        go_wp2
        obtain ⟨wv, rfl⟩ : ∃ wv : World, wv = wr := ⟨_, rfl⟩
        go_loopw [109] (fun s109 wr => ∃ i : Nat, i ≤ 4 ∧ s109 = .int .i64 i ∧ Hid (SafeEnd w p gb sb db ab tb ms md i next wr)) (fun s109 _ => 4 - (intOf s109).toNat)
        case atStart => exact ⟨0, by omega, rfl, hE⟩
        case round =>
          clear hE
          obtain ⟨i, hi, rfl, hE⟩ := hrel
          by_cases hi4 : i < 4
          · have hi8 : (i : Int) < 4 := by omega
            go_wp2
            obtain ⟨wu, rfl⟩ : ∃ wu : World, wu = wr := ⟨_, rfl⟩
            go_loopw [113] (fun _ wr => Hid (SafeEnd w p gb sb db ab tb ms md i next wr)) (fun _ wr => dpAt wr ab i)
            case atStart => exact hE
            case round =>
              clear hE
              have hE := hrel
              obtain ⟨F, dp, tn, l, wt, ns, nd, i0, i1, i2, i3, i4, i5, i6⟩ := id hE.out
              have hbd := i1.g.bd i hi4
              have e0 := i1.bg.cell 0
              simp only [List.getElem?_cons_zero] at e0
              have e1 := i1.ba.cell i
              rw [arr4_get _ hi4] at e1
              have hms : dpAt wr ab i = (dp i).toNat := by unfold dpAt; rw [e1]; rfl
              have H := hid i1
              have HG := hid i2
              have ne1 : ∀ k ∈ [gb, sb, db, ab, tb, ms, md], ¬ One p k := fun k hk hh => (H.out.nf k hk).1 (by rw [show k = p from hh]; exact i0)
              replace i0 := hid i0
              replace i6 := hid i6
              replace ne1 := hid ne1
              replace hms := hid hms
              clear i1 i2
              by_cases hd : 0 < dp i
              · go_wp2_with (first | (go_at_call 35; refine (leave_ok _ F p i dp tn l H.out.g hi4 (by omega)).mono ?_; rintro e w3 ⟨rfl, q1, q2⟩; have d1 := (H.out.ba.chg q2 (ne1.out _ (by simp))).cell i; have d3 := (H.out.ba.chg q2 (ne1.out _ (by simp))).frozen i; rw [arr4_get _ hi4] at d1; replace q1 := hid q1; replace q2 := hid q2))
                have H5 := hid (H.out.deep q1.out q2.out i0.out hi4 (dp i - 1) rfl)
                go_roundw
                case rel => exact ⟨F, _, _, l, wt, ns, nd, i0.out, H5.out, HG.out.leave i, i3, i4, i5, fun j hj => by unfold upI; rw [if_neg (by omega)]; exact i6.out j hj⟩
                case measure =>
                  have e5 := H5.out.ba.cell i
                  rw [arr4_get _ hi4] at e5
                  have : dpAt (w3.setCell ⟨ab, i, none⟩ (.int .i64 (dp i - 1))) ab i = (dp i - 1).toNat := by unfold dpAt; rw [e5]; simp [upI, intOf]
                  rw [this, hms.out]
                  omega
              · have hd2 : dp i ≤ 0 := by omega
                have hE2 : SafeEnd w p gb sb db ab tb ms md (i + 1) next wr := ⟨F, dp, tn, l, wt, ns, nd, i0.out, H.out, HG.out, i3, i4, i5, fun j hj => by
                  by_cases hji : j = i
                  · subst hji; omega
                  · exact i6.out j (by omega)⟩
                replace hE2 := hid hE2
                go_wp2
                go_roundw
                case rel => exact ⟨i + 1, by omega, by go_num, hE2⟩
                case measure => simp [intOf]; omega
          · obtain ⟨F, dp, tn, l, wt, ns, nd, i0, i1, i2, i3, i4, i5, i6⟩ := id hE.out
            have hz : ∀ j, j < 4 → dp j = 0 := fun j hj => i6 j (by omega)
            have hidl := done_idle dp tn l hz
            have e0 := i1.bg.cell 0
            have e9 := i1.bd.cell 0
            simp only [List.getElem?_cons_zero] at e0 e9
            have H := hid i1
            have HG := hid i2
            have HD := hid (dnK_left i2)
            replace hidl := hid hidl
            replace hz := hid hz
            clear i1 i2 i0 i6 e0 e9 hE
            go_wp2_with fail
            refine (grun_ok w _ F p next dp tn l wt gb sb db ab tb ms md ns nd H.out HG.out (by omega) (by omega) (by omega) (by omega)).mono ?_
            rintro e w3 ⟨rfl, F3, nd3, hn3, q1⟩
            rw [HD.out, hidl.out.2] at q1
            have e0 := q1.bg.cell 0
            have e9 := q1.bd.cell 0
            simp only [List.getElem?_cons_zero] at e0 e9
            have hbb := q1.bel
            obtain ⟨L, l1, l2, l3⟩ := q1.mpd.len Try.underlying3 Try.underlying61
            have hLn : L.length = next := keys_upto l1 (fun j => by
              rw [l2]
              unfold dnK
              by_cases h2 : 0 ≤ j ∧ j < (next : Int)
              · rw [if_pos ⟨h2.1, h2.2, .inl (by simp)⟩]; simp [h2]
              · rw [if_neg (fun h => h2 ⟨h.1, h.2.1⟩)]; simp [h2])
            rw [hLn] at l3
            have l4 := fun n ty => show (Builtin.len_ #[61] ty #[.map (some md)]).run Try.prog (w3.drewN n) = .ok (.int .i64 next) (w3.drewN n) by
              obtain ⟨L, l1, l2, l3⟩ := (q1.mpd.drewN n).len Try.underlying3 Try.underlying61
              have hLn : L.length = next := keys_upto l1 (fun j => by
                rw [l2]
                unfold dnK
                by_cases h2 : 0 ≤ j ∧ j < (next : Int)
                · rw [if_pos ⟨h2.1, h2.2, .inl (by simp)⟩]; simp [h2]
                · rw [if_neg (fun h => h2 ⟨h.1, h.2.1⟩)]; simp [h2])
              rw [l3 ty, hLn]
            have HB := hid hbb
            replace q1 := hid q1
            clear l1 l2 l3 hLn hbb
            go_wp2_with (go_at_call 37; refine (reads_any _ F3 p dp tn [] q1.out.g (by simp)).mono ?_; rintro e w4 ⟨m, rfl, hm, kq, rfl⟩; obtain rfl := hm hz.out)
            go_ret
            exact ⟨rfl, HB.out.trans ((Chg.refl Nil w3).drewN kq |>.below (fun _ _ h => h) HB.out.size)⟩
end Go.Proofs.Ytacmgjjpfdncgaa
