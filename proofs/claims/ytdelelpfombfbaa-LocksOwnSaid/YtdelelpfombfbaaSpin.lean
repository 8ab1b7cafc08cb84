/- Contracts of the ticket lock: New, Take, Mine, Free and Row in terms of the row of processors that hold a ticket. No condition but that processors are 0 to 3. -/
import Derived.Test.YtdelelpfombfbaaSlices
import Derived.RegionTactic
import Derived.ChangeAlike
namespace Go.Proofs.Ytdelelpfombfbaa
open Go.ChangeShapes Go.WideShapes Go.ChangeAt Go.RowKit
set_option linter.unusedVariables false
def updK {α : Type} (f : Nat → α) (i : Nat) (v : α) : Nat → α := fun j => if j = i then v else f j
def lockCells (nx c : Int) (hs : Nat → Bool) (ts : Nat → Int) : List Value :=
  [.int .u16 nx, .int .u16 c, .bool (hs 0), .bool (hs 1), .bool (hs 2), .bool (hs 3), .int .u16 (ts 0), .int .u16 (ts 1), .int .u16 (ts 2), .int .u16 (ts 3)]
/-- The fields say just this row: each has a ticket of its own, from the called one on. -/
def LRep (c : Int) (row : List Nat) (hs : Nat → Bool) (ts : Nat → Int) : Prop :=
  0 ≤ c ∧ c < 65536 ∧ row.Nodup ∧ (∀ x ∈ row, x < 4) ∧ (∀ i, i < 4 → hs i = decide (i ∈ row)) ∧ ∀ j (h : j < row.length), ts row[j] = (c + j) % 65536
/-- In block p lies a lock: the ticket that is called, and who has a ticket. -/
def LockAt (w : World) (p : Nat) (c : Int) (row : List Nat) : Prop := ∃ hs ts, Blk w p 75 (lockCells ((c + row.length) % 65536) c hs ts) ∧ LRep c row hs ts
theorem LockAt.chg {w w' : World} {F : Nat → Prop} {p : Nat} {c : Int} {row : List Nat} (h : LockAt w p c row) (hc : Chg F w w') (hF : ¬ F p) : LockAt w' p c row := by
  obtain ⟨hs, ts, h1, h2⟩ := h
  exact ⟨hs, ts, h1.chg hc hF, h2⟩
theorem LockAt.lt {w : World} {p : Nat} {c : Int} {row : List Nat} (h : LockAt w p c row) : p < w.heap.size := by
  obtain ⟨hs, ts, h1, h2⟩ := h
  exact h1.lt
theorem nodup_len {row : List Nat} (h : row.Nodup) (h4 : ∀ x ∈ row, x < 4) : row.length ≤ 4 := nodup_bound 4 row h h4
theorem LockAt.len {w : World} {p : Nat} {c : Int} {row : List Nat} (h : LockAt w p c row) : row.length ≤ 4 := by
  obtain ⟨hs, ts, h1, h2, h3, h4, h5, h6⟩ := h
  exact nodup_len h4 h5
theorem lc_has (nx c : Int) (hs : Nat → Bool) (ts : Nat → Int) {i : Nat} (hi : i < 4) : (lockCells nx c hs ts)[2 + i]? = some (.bool (hs i)) := by
  rcases i with _ | _ | _ | _ | i <;> first | rfl | omega
theorem lc_ticket (nx c : Int) (hs : Nat → Bool) (ts : Nat → Int) {i : Nat} (hi : i < 4) : (lockCells nx c hs ts)[6 + i]? = some (.int .u16 (ts i)) := by
  rcases i with _ | _ | _ | _ | i <;> first | rfl | omega
theorem lc_set_has (nx c : Int) (hs : Nat → Bool) (ts : Nat → Int) (b : Bool) {i : Nat} (hi : i < 4) : (lockCells nx c hs ts).set (2 + i) (.bool b) = lockCells nx c (updK hs i b) ts := by
  rcases i with _ | _ | _ | _ | i <;> first | rfl | omega
theorem lc_set_ticket (nx c : Int) (hs : Nat → Bool) (ts : Nat → Int) (t : Int) {i : Nat} (hi : i < 4) : (lockCells nx c hs ts).set (6 + i) (.int .u16 t) = lockCells nx c hs (updK ts i t) := by
  rcases i with _ | _ | _ | _ | i <;> first | rfl | omega
theorem LRep.push {c : Int} {row : List Nat} {hs : Nat → Bool} {ts : Nat → Int} {i : Nat} (h : LRep c row hs ts) (hi : i < 4) (hn : i ∉ row) :
    LRep c (row ++ [i]) (updK hs i true) (updK ts i ((c + row.length) % 65536)) := by
  obtain ⟨h1, h2, h3, h4, h5, h6⟩ := h
  refine ⟨h1, h2, ?_, ?_, ?_, ?_⟩
  · rw [List.nodup_append]
    exact ⟨h3, by simp, fun x hx y hy => by simp at hy; subst hy; rintro rfl; exact hn hx⟩
  · intro x hx
    rcases List.mem_append.1 hx with hx | hx
    · exact h4 x hx
    · simp at hx; omega
  · intro j hj
    unfold updK
    split
    · rename_i hji; subst hji; simp
    · rename_i hji; rw [h5 j hj]; simp [hji]
  · intro j hj
    by_cases hjl : j < row.length
    · rw [List.getElem_append_left hjl]
      unfold updK
      rw [if_neg (fun (he : row[j] = i) => hn (by rw [← he]; exact List.getElem_mem hjl))]
      exact h6 j hjl
    · simp only [List.length_append, List.length_singleton] at hj
      obtain rfl : j = row.length := by omega
      rw [List.getElem_append_right (by omega)]
      simp [updK]
theorem LRep.pop {c : Int} {r : List Nat} {hs : Nat → Bool} {ts : Nat → Int} {i : Nat} (h : LRep c (i :: r) hs ts) : LRep ((c + 1) % 65536) r (updK hs i false) ts := by
  obtain ⟨h1, h2, h3, h4, h5, h6⟩ := h
  have hn := List.nodup_cons.1 h3
  refine ⟨by omega, by omega, hn.2, fun x hx => h4 x (by simp [hx]), ?_, ?_⟩
  · intro j hj
    unfold updK
    split
    · rename_i hji; subst hji; simp [hn.1]
    · rename_i hji; rw [h5 j hj]; simp [hji]
  · intro j hj
    have := h6 (j + 1) (by simpa using hj)
    simp only [List.getElem_cons_succ] at this
    rw [this]
    omega
/-- Whose ticket is the j-th? -/
theorem LRep.whose {c : Int} {row : List Nat} {hs : Nat → Bool} {ts : Nat → Int} {i j : Nat} (h : LRep c row hs ts) (hi : i < 4) (hj : j < row.length) :
    (hs i && (ts i == (c + j) % 65536)) = decide (i = row[j]) := by
  obtain ⟨h1, h2, h3, h4, h5, h6⟩ := h
  have hl := nodup_len h3 h4
  rw [Bool.eq_iff_iff]
  simp only [Bool.and_eq_true, beq_iff_eq, decide_eq_true_eq]
  constructor
  · rintro ⟨ha, hb⟩
    rw [h5 i hi, decide_eq_true_eq] at ha
    obtain ⟨m, hm, rfl⟩ := List.mem_iff_getElem.1 ha
    rw [h6 m hm] at hb
    have : m = j := by omega
    subst this; rfl
  · rintro rfl
    exact ⟨by rw [h5 _ hi]; simp, h6 j hj⟩
theorem newLock_ok (f : Int) (w : World) (h0 : 0 ≤ f) (h1 : f < 65536) :
    Calls Try.prog 11 #[.int .u16 f] w fun e w' => ∃ p, e = .returned (.pointer (some ⟨p, 0, none⟩)) ∧ LockAt w' p f [] ∧ Chg Nil w w' ∧ w.heap.size ≤ p := by
  go_enter Try.func11, Try.ntmps11
  go_wp2
  go_ret
  refine ⟨w.heap.size, rfl, ⟨fun _ => false, fun _ => 0, ?_, by omega, by omega, by simp, by simp, by simp, fun j h => absurd h (by simp)⟩, (Chg.refl _ _).alloc _, Nat.le_refl _⟩
  have hf : (f + (([] : List Nat).length : Int)) % 65536 = f := by simp; omega
  rw [hf]
  exact Blk.new w _ _
theorem cpu_ok (i : Nat) (w : World) (hi : i < 4) : Calls Try.prog 42 #[.int .i64 i] w fun e w' => e = .returned (.bool true) ∧ w = w' := by
  have hd : decide ((i : Int) < 4) = true := by simp; omega
  go_enter Try.func42, Try.ntmps42
  go_wp2
  go_ret
  exact ⟨rfl, rfl⟩
theorem take_has (i : Nat) (w : World) (p : Nat) (c : Int) (row : List Nat) (h : LockAt w p c row) (hi : i < 4) (hm : i ∈ row) :
    Calls Try.prog 19 #[.pointer (some ⟨p, 0, none⟩), .int .i64 i] w fun e w' => e = .returned (.tuple #[.int .u16 0, .int .i64 5]) ∧ w = w' := by
  obtain ⟨hs, ts, hb, hr⟩ := h
  have ch := hb.cell (2 + i)
  rw [lc_has _ _ _ _ hi, hr.2.2.2.2.1 i hi, decide_eq_true hm] at ch
  clear hb hr
  go_enter Try.func19, Try.ntmps19
  go_wp2_with (go_at_call 42; refine (cpu_ok _ _ hi).mono ?_; rintro e w' ⟨rfl, rfl⟩)
  go_ret2
  exact ⟨rfl, rfl⟩
theorem take_ok (i : Nat) (w : World) (p : Nat) (c : Int) (row : List Nat) (h : LockAt w p c row) (hi : i < 4) (hm : i ∉ row) :
    Calls Try.prog 19 #[.pointer (some ⟨p, 0, none⟩), .int .i64 i] w fun e w' => e = .returned (.tuple #[.int .u16 ((c + row.length) % 65536), .int .i64 0]) ∧ LockAt w' p c (row ++ [i]) ∧ Chg (One p) w w' := by
  obtain ⟨hs, ts, hb, hr⟩ := h
  obtain ⟨nx, hnx⟩ : ∃ nx, nx = (c + row.length) % 65536 := ⟨_, rfl⟩
  rw [← hnx] at hb ⊢
  have n1 : 0 ≤ nx := by omega
  have n2 : nx < 65536 := by omega
  have ch := hb.cell (2 + i)
  have ct := hb.cell (6 + i)
  have c0 := hb.cell 0
  rw [lc_has _ _ _ _ hi, hr.2.2.2.2.1 i hi, decide_eq_false hm] at ch
  rw [lc_ticket _ _ _ _ hi] at ct
  have c0' : w.cell? ⟨p, 0, none⟩ = some (.int .u16 nx) := c0
  have f0 := hb.frozen 0
  have f1 := hb.frozen (2 + i)
  have f2 := hb.frozen (6 + i)
  have HB := hid hb
  have HR := hid hr
  have HX := hid hnx
  clear hb hr hnx c0
  go_enter Try.func19, Try.ntmps19
  go_wp2_with (go_at_call 42; refine (cpu_ok _ _ hi).mono ?_; rintro e w' ⟨rfl, rfl⟩)
  go_region
  all_goals
    go_wp2
    go_ret2
  refine ⟨rfl, ⟨updK hs i true, updK ts i nx, ?_, ?_⟩, ?_⟩
  · have h1 := ((HB.out.set (2 + i) (.bool true)).set (6 + i) (.int .u16 nx)).set 0 (.int .u16 (IntKind.u16.wrap (nx + 1)))
    rw [lc_set_has _ _ _ _ _ hi, lc_set_ticket _ _ _ _ _ hi] at h1
    have h2 : IntKind.u16.wrap (nx + 1) = (c + ((row ++ [i]).length : Nat)) % 65536 := by
      rw [u16_wrap, HX.out]; simp; omega
    rw [h2] at h1
    show Blk (World.setCell _ _ _) _ _ _
    rw [h2]
    exact h1
  · have := HR.out.push hi hm
    rw [← HX.out] at this
    exact this
  · exact ((((Chg.refl (One p) w).setCell (p := ⟨p, 2 + i, none⟩) (.inl rfl) _).setCell (p := ⟨p, 6 + i, none⟩) (.inl rfl) _).setCell (p := ⟨p, 0, none⟩) (.inl rfl) _).drew
theorem mine_any (i : Nat) (w : World) (p : Nat) (c : Int) (row : List Nat) (h : LockAt w p c row) (hi : i < 4) :
    Calls Try.prog 38 #[.pointer (some ⟨p, 0, none⟩), .int .i64 i] w fun e w' => e = .returned (.tuple #[.bool (decide (row.head? = some i)), .int .i64 0]) ∧ ∃ k, w' = w.drewN k := by
  obtain ⟨hs, ts, hb, hr⟩ := h
  have ch := hb.cell (2 + i)
  have ct := hb.cell (6 + i)
  have c1 : w.cell? ⟨p, 1, none⟩ = some (.int .u16 c) := hb.cell 1
  rw [lc_has _ _ _ _ hi] at ch
  rw [lc_ticket _ _ _ _ hi] at ct
  have hv : decide (row.head? = some i) = (hs i && (ts i == c)) := by
    cases row with
    | nil => rw [hr.2.2.2.2.1 i hi]; simp
    | cons x r =>
      have := hr.whose (i := i) (j := 0) hi (by simp)
      have hc : (c + ((0 : Nat) : Int)) % 65536 = c := by have := hr.1; have := hr.2.1; omega
      rw [hc] at this
      rw [this]
      simp [eq_comm]
  clear hb hr
  have i1 : (i : Int) < 4 := by omega
  rw [hv]
  clear hv
  cases hh : hs i with
  | false =>
    rw [hh] at ch
    replace hh := hid hh
    go_enter Try.func38, Try.ntmps38
    go_wp2_with (go_at_call 42; refine (cpu_ok _ _ hi).mono ?_; rintro e w' ⟨rfl, rfl⟩)
    go_quiet (fail)
    go_wp2
    go_ret2
    exact ⟨rfl, _, rfl⟩
  | true =>
    rw [hh] at ch
    replace hh := hid hh
    go_enter Try.func38, Try.ntmps38
    go_wp2_with (go_at_call 42; refine (cpu_ok _ _ hi).mono ?_; rintro e w' ⟨rfl, rfl⟩)
    go_quiet (fail)
    go_wp2
    go_ret2
    exact ⟨rfl, _, rfl⟩
/-- The row, as numbers. -/
def nats (l : List Nat) : List Int := l.map (fun x : Nat => (x : Int))
theorem nats_length (l : List Nat) : (nats l).length = l.length := by simp [nats]
theorem row_any (w : World) (p : Nat) (c : Int) (row : List Nat) (h : LockAt w p c row) :
    Calls Try.prog 27 #[.pointer (some ⟨p, 0, none⟩)] w fun e w' => ∃ a cc G, e = .returned (.slice a row.length cc) ∧ Sl w' 3 1 a row.length cc (ints .i64 (nats row)) G ∧ Chg Nil w w' ∧ ∀ g, G = some g → w.heap.size ≤ g := by
  have hlen := h.len
  obtain ⟨hs, ts, hb, hr⟩ := h
  have b1 := hr.1
  have b2 := hr.2.1
  obtain ⟨nx, hnx⟩ : ∃ nx, nx = (c + row.length) % 65536 := ⟨_, rfl⟩
  rw [← hnx] at hb
  have c0 : w.cell? ⟨p, 0, none⟩ = some (.int .u16 nx) := hb.cell 0
  have c1 : w.cell? ⟨p, 1, none⟩ = some (.int .u16 c) := hb.cell 1
  have HB := hid hb
  have HR := hid hr
  have HX := hid hnx
  clear hb hr hnx
  go_enter Try.func27, Try.ntmps27
  go_wp2
  go_loopw [3, 4] (fun s3 s4 wr => ∃ (j : Nat) (a : Option Addr) (cc : Nat) (G : Option Nat), j ≤ row.length ∧ s4 = .int .u16 ((c + j) % 65536) ∧ s3 = .slice a j cc ∧ Hid (Sl wr 3 1 a j cc (ints .i64 (nats (row.take j))) G ∧ Chg Nil w wr ∧ ∀ g, G = some g → w.heap.size ≤ g)) (fun _ s4 _ => ((c + row.length - intOf s4) % 65536).toNat)
  case atStart =>
    have hc : (c + ((0 : Nat) : Int)) % 65536 = c := by omega
    exact ⟨0, none, 0, none, Nat.zero_le _, by rw [hc], rfl, Sl.empty _ _ _ _, Chg.refl _ _, fun _ h => by cases h⟩
  case round =>
    obtain ⟨j, a, cc, G, hj, rfl, rfl, q⟩ := hrel
    have hb := HB.out.chg q.out.2.1 (fun h => h)
    have d0 : wr.cell? ⟨p, 0, none⟩ = some (.int .u16 nx) := hb.cell 0
    replace hb := hid hb
    by_cases hlt : j < row.length
    · have hne : ((c + (j : Int)) % 65536 != nx) = true := by rw [bne_iff_ne, HX.out]; omega
      go_wp2
      obtain ⟨wo, rfl⟩ : ∃ wo : World, wo = wr := ⟨_, rfl⟩
      go_loopw [3, 18] (fun s3 s18 wi => ∃ (i m : Nat) (a : Option Addr) (cc : Nat) (G : Option Nat), i ≤ 4 ∧ m ≤ 4 ∧ s18 = .int .i64 i ∧ s3 = .slice a m cc ∧ Hid (m = j + (if row[j] < i then 1 else 0)) ∧ Hid (Sl wi 3 1 a m cc (ints .i64 (nats (row.take m))) G ∧ Chg Nil w wi ∧ ∀ g, G = some g → w.heap.size ≤ g)) (fun _ s18 _ => 4 - (intOf s18).toNat)
      case atStart => exact ⟨0, j, a, cc, G, by omega, by omega, rfl, rfl, by simp [Hid], q⟩
      case round =>
        clear q hb d0
        obtain ⟨i, m, a, cc, G, hi, hm4, rfl, rfl, hm, q⟩ := hrel
        have hb := HB.out.chg q.out.2.1 (fun h => h)
        by_cases hi4 : i < 4
        · have ch := hb.cell (2 + i)
          have ct := hb.cell (6 + i)
          rw [lc_has _ _ _ _ hi4] at ch
          rw [lc_ticket _ _ _ _ hi4] at ct
          have hw := HR.out.whose hi4 hlt
          have i1 : (i : Int) < 4 := by omega
          replace hb := hid hb
          by_cases hx : i = row[j]
          · rw [decide_eq_true hx] at hw
            obtain ⟨hw1, hw2⟩ := Bool.and_eq_true_iff.1 hw
            rw [hw1] at ch
            have hmj : m = j := by have := hm.out; rw [if_neg (by omega)] at this; omega
            have hx' := hid hx
            clear hx hw
            subst hmj
            have HS := hid (q.out.1.alloc (.cells #[.int .i64 i] 3))
            have HN := hid (Rd.of_blk (n := 1) (s := 1) (Blk.new wr 3 (ints .i64 [(i : Int)])) rfl (by decide))
            go_wp2_with (at_builtin; refine wpList_append_sl rfl _ _ eInt rfl rfl rfl HS.out HN.out (ints_one _ _) (by omega) (by omega) ?_; intro a' c' w3 G' y1 y2 y3; replace y3 := hid y3)
            go_roundw
            case rel =>
              refine ⟨i + 1, m + 1, a', c', G', by omega, by omega, by go_num, rfl, ?_, ?_, ?_, ?_⟩
              · show m + 1 = m + _
                rw [if_pos (by have := hx'.out; omega)]
              · rw [ints_append] at y1
                have : nats (row.take m) ++ [(i : Int)] = nats (row.take (m + 1)) := by
                  rw [List.take_succ_eq_append_getElem hlt, ← hx'.out]; simp [nats]
                rw [this] at y1
                exact y1
              · exact q.out.2.1.trans (push_chg y2) (fun k hk hG => by have := q.out.2.2 k hG; omega)
              · intro g hg
                rcases push_grew y3.out g hg with h | h
                · exact q.out.2.2 g h
                · exact Nat.le_trans q.out.2.1.size h
            case measure => simp [intOf]; omega
          · rw [decide_eq_false hx] at hw
            have hx' := hid hx
            clear hx
            cases hh : hs i with
            | false =>
              rw [hh] at ch
              replace hh := hid hh
              clear hw
              go_wp2
              go_roundw
              case rel =>
                refine ⟨i + 1, m, a, cc, G, by omega, by omega, by go_num, rfl, ?_, q⟩
                have h1 := hm.out
                have h2 := hx'.out
                show m = j + _
                rw [h1]
                split <;> split <;> omega
              case measure => simp [intOf]; omega
            | true =>
              rw [hh] at ch
              rw [hh, Bool.true_and] at hw
              replace hh := hid hh
              go_wp2
              go_roundw
              case rel =>
                refine ⟨i + 1, m, a, cc, G, by omega, by omega, by go_num, rfl, ?_, q⟩
                have h1 := hm.out
                have h2 := hx'.out
                show m = j + _
                rw [h1]
                split <;> split <;> omega
              case measure => simp [intOf]; omega
        · have hmj : m = j + 1 := by
            have h1 := hm.out
            have h4 := HR.out.2.2.2.1 row[j] (List.getElem_mem hlt)
            rw [if_pos (by omega)] at h1
            exact h1
          subst hmj
          clear hm
          go_wp2
          go_roundw
          case rel =>
            refine ⟨j + 1, a, cc, G, by omega, ?_, rfl, q⟩
            have : ((c + (j : Int)) % 65536 + 1) % 65536 = (c + ((j + 1 : Nat) : Int)) % 65536 := by omega
            rw [u16_wrap, this]
          case measure =>
            simp [intOf, u16_wrap]
            omega
    · have hjl : j = row.length := by omega
      subst hjl
      have hne : ((c + (row.length : Int)) % 65536 != nx) = false := by rw [bne_eq_false_iff_eq, HX.out]
      go_wp2
      go_ret
      have q1 := q.out.1
      rw [List.take_length] at q1
      exact ⟨a, cc, G, rfl, q1, q.out.2⟩
end Go.Proofs.Ytdelelpfombfbaa
