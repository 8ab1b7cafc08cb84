/- What the law keeps while it goes on: the kernel, and blocks of its own. No program is walked here; no condition · The states of the kernel that the law comes through. Plain facts; no program is walked here · The law's calls of the kernel, each told as what it makes of what the law keeps. Conditions: the law's own. -/
import Derived.Test.YtjllklddjkkddaaGreatDoorZ41
import Derived.Test.YtjllklddjkkddaaGreatDoorZ42
import Derived.Test.YtjllklddjkkddaaGreatDoorZ43
import Derived.Test.YtjllklddjkkddaaGreatDoorZ40
namespace Go.Proofs.YtjllklddjkkddaaGreatDoor
open Go.ChangeShapes Go.WideShapes Go.ChangeAt Go.RowKit
set_option linter.unusedVariables false
def FlS (w0 w : World) (pk : Nat) (X : KX) (L : List (Nat × TypeId × List Value)) : Prop :=
  ∃ B U, KAt w B U pk X ∧ w0.heap.size ≤ B ∧ Below w0.heap.size w0 w ∧ ∀ x ∈ L, Blk w x.1 x.2.1 x.2.2 ∧ ¬ U x.1
section
variable {w0 w w' : World} {pk : Nat} {X : KX} {XP : KX → Prop} {L : List (Nat × TypeId × List Value)}
theorem FlS.nil (h : FlS w0 w pk X L) (hc : Chg Nil w w') : FlS w0 w' pk X L := by
  obtain ⟨B, U, h1, h2, h3, h4⟩ := h
  exact ⟨B, U, h1.nil hc, h2, below_nil h3 hc, fun x hx => ⟨(h4 x hx).1.chg hc (fun h => h), (h4 x hx).2⟩⟩
theorem FlS.lay (h : FlS w0 w pk X L) (t : TypeId) (cs : List Value) : FlS w0 (w.alloc (.cells cs.toArray t)) pk X ((w.heap.size, t, cs) :: L) := by
  obtain ⟨B, U, h1, h2, h3, h4⟩ := h.nil ((Chg.refl Nil w).alloc (.cells cs.toArray t))
  obtain ⟨B', U', k1, k2, k3, k4⟩ := h
  refine ⟨B', U', k1.nil ((Chg.refl Nil w).alloc (.cells cs.toArray t)), k2, h3, fun x hx => ?_⟩
  rcases List.mem_cons.1 hx with rfl | hx
  · exact ⟨Blk.new w t cs, fun hh => absurd (k1.lt _ hh) (Nat.lt_irrefl _)⟩
  · exact ⟨(k4 x hx).1.alloc _, (k4 x hx).2⟩
theorem FlS.less {x : Nat × TypeId × List Value} (h : FlS w0 w pk X (x :: L)) : FlS w0 w pk X L := by
  obtain ⟨B, U, h1, h2, h3, h4⟩ := h
  exact ⟨B, U, h1, h2, h3, fun y hy => h4 y (List.mem_cons_of_mem _ hy)⟩
theorem FlS.blk (h : FlS w0 w pk X L) {x : Nat × TypeId × List Value} (hx : x ∈ L) : Blk w x.1 x.2.1 x.2.2 := by
  obtain ⟨B, U, h1, h2, h3, h4⟩ := h
  exact (h4 x hx).1
theorem FlS.below (h : FlS w0 w pk X L) : Below w0.heap.size w0 w := by
  obtain ⟨B, U, h1, h2, h3, h4⟩ := h
  exact h3
theorem FlS.call {f : FuncId} {args : Array Value} {n a b : Int} {ds : List Int} (h : FlS w0 w pk X L) (H : ∀ B U, KAt w B U pk X → KCall f args w B U pk XP n a b ds) :
    Calls Tryz.prog f args w fun e w' => ∃ X' sa sc G, e = .returned (.agg (anC n a b (.slice sa ds.length sc)).toArray) ∧ XP X' ∧ Sl w' 5 1 sa ds.length sc (bys ds) G ∧ FlS w0 w' pk X' L := by
  obtain ⟨B, U, hk, hB, hb, hL⟩ := h
  refine (H B U hk).mono ?_
  rintro e w' ⟨vs, rfl, X', sa, sc, G, hX, rfl, hs, U', k1, k2, k3⟩
  refine ⟨X', sa, sc, G, rfl, hX, hs, B, U', k1, hB, below_chg hb k2 (fun k hk' => Nat.le_trans hB (hk.ge k hk')), fun x hx => ?_⟩
  obtain ⟨b1, b2⟩ := hL x hx
  refine ⟨b1.chg k2 b2, fun hh => ?_⟩
  rcases k3 _ hh with h1 | h1
  · exact b2 h1
  · have := b1.lt; omega
/-- What came in reads as it did. -/
theorem rd_below {R : Nat → Prop} {s : Nat} {a : Option Addr} {n c : Nat} {xs : List Value} (h : Rd w0 (Upto w0.heap.size) s a n c xs) (hb : Below w0.heap.size w0 w) : Rd w (Upto w0.heap.size) s a n c xs := by
  obtain ⟨h1, h2, h3, h4⟩ := h
  refine ⟨h1, h2, h3, fun hn => ?_⟩
  obtain ⟨g, off, r1, r2, r3, r4⟩ := h4 hn
  exact ⟨g, off, r1, Nat.lt_of_lt_of_le r2 hb.size, r3, fun j hj => by rw [hb.cell (p := ⟨g, off + j, none⟩) r3]; exact r4 j hj⟩
end
end Go.Proofs.YtjllklddjkkddaaGreatDoor
namespace Go.Proofs.YtjllklddjkkddaaGreatDoor
open Go.ChangeShapes Go.WideShapes Go.ChangeAt Go.RowKit
set_option linter.unusedVariables false
/-- With a pipe. -/
def xP (ts : Nat → Nat → Value) : KX := { xS ts with pipe := some (1, 1, []), fl := updF (updF (fun _ => flZ) 0 ⟨2, 1, 1, false, 0, 1⟩) 1 ⟨3, 1, 2, false, 0, 1⟩, fd := updD (updD (fun _ _ => 0) 1 0 1) 1 1 2 }
/-- With a child. -/
def xF (ts ts' : Nat → Nat → Value) : KX := fkX (xP ts) ts'
/-- Each has one end of the pipe. -/
def xC (ts ts' : Nat → Nat → Value) : KX := clX (clX (xF ts ts') 1 1 1) 2 0 0
/-- Bytes are on their way. -/
def xL (ts ts' : Nat → Nat → Value) (bs : List Int) : KX := { xC ts ts' with pipe := some (1, 1, bs) }
def xD (ts ts' : Nat → Nat → Value) : (Nat → Fl) × (Nat → Nat → Nat) × List Fl := dropM (xC ts ts').fl (xC ts ts').fd 2 8
/-- The child has ended. -/
def xE (ts ts' : Nat → Nat → Value) (bs : List Int) : KX := exX (xL ts ts' bs) 2 2 0 (xD ts ts').1 (xD ts ts').2.1 bs
section
variable (ts ts' : Nat → Nat → Value) (bs : List Int)
theorem xC_eq : xL ts ts' [] = xC ts ts' := rfl
theorem xL_pl1 : ((xL ts ts' bs).pl 1).state = 1 := by kernel_rfl
theorem xL_pl2 : ((xL ts ts' bs).pl 2).state = 1 := by kernel_rfl
theorem xL_fd1 : (xL ts ts' bs).fd 1 0 = 1 := by kernel_rfl
theorem xL_fl0 : (xL ts ts' bs).fl 0 = ⟨2, 1, 1, false, 0, 1⟩ := by kernel_rfl
theorem xL_fd2 : (xL ts ts' bs).fd 2 1 = 2 := by kernel_rfl
theorem xL_fl1 : (xL ts ts' bs).fl 1 = ⟨3, 1, 2, false, 0, 1⟩ := by kernel_rfl
theorem xD_l : (xD ts ts').2.2 = [⟨3, 1, 2, false, 0, 1⟩] := by kernel_rfl
theorem xE_pl1 : ((xE ts ts' bs).pl 1).state = 1 := by kernel_rfl
theorem xE_pl2 : ((xE ts ts' bs).pl 2).state = 2 := by kernel_rfl
theorem xE_up2 : ((xE ts ts' bs).pl 2).parent = 1 := by kernel_rfl
theorem xE_fd1 : (xE ts ts' bs).fd 1 0 = 1 := by kernel_rfl
theorem xE_fl0 : (xE ts ts' bs).fl 0 = ⟨2, 1, 1, false, 0, 1⟩ := by kernel_rfl
theorem xE_low (j : Nat) (hj : j < 2) : ¬ (((xE ts ts' bs).pl j).state = 2 ∧ ((xE ts ts' bs).pl j).parent = 1) := by
  obtain rfl | rfl : j = 0 ∨ j = 1 := by omega
  · intro h
    have h1 : ((xE ts ts' bs).pl 0).state = 0 := by kernel_rfl
    rw [h1] at h
    exact absurd h.1 (by decide)
  · intro h
    rw [xE_pl1] at h
    exact absurd h.1 (by decide)
theorem xL_up : (orph (xL ts ts' bs).pl 2 17 2).parent = 1 := by kernel_rfl
theorem xL_rd (d : Nat) (hd : d < 8) : (xL ts ts' bs).fd 2 d ≤ 32 := by
  obtain rfl | rfl | rfl | rfl | rfl | rfl | rfl | rfl : d = 0 ∨ d = 1 ∨ d = 2 ∨ d = 3 ∨ d = 4 ∨ d = 5 ∨ d = 6 ∨ d = 7 := by omega
  all_goals exact Nat.le_of_ble_eq_true (by kernel_rfl)
theorem xP_rd (d : Nat) (hd : d < 8) : (xP ts).fd 1 d ≤ 32 := by
  obtain rfl | rfl | rfl | rfl | rfl | rfl | rfl | rfl : d = 0 ∨ d = 1 ∨ d = 2 ∨ d = 3 ∨ d = 4 ∨ d = 5 ∨ d = 6 ∨ d = 7 := by omega
  all_goals exact Nat.le_of_ble_eq_true (by kernel_rfl)
theorem xP_z (d : Nat) (hd : d < 8) : (xP ts).fd 2 d = 0 := by
  obtain rfl | rfl | rfl | rfl | rfl | rfl | rfl | rfl : d = 0 ∨ d = 1 ∨ d = 2 ∨ d = 3 ∨ d = 4 ∨ d = 5 ∨ d = 6 ∨ d = 7 := by omega
  all_goals kernel_rfl
theorem xS_run : SOk 1 (xS ts).run := by
  have := SOk.add (t := 1) (cl := 1) (va := 10) (new_ok 1 (by omega) (by omega)) (by decide) (by omega) (by omega) rfl
  exact this
theorem xL_run : SOk 2 (xL ts ts' bs).run := by
  have := SOk.add (t := 2) (cl := 1) (va := 10) (xS_run ts) (by show (1 : Nat) < 1000; omega) (by omega) (by omega) rfl
  exact this
end
end Go.Proofs.YtjllklddjkkddaaGreatDoor
namespace Go.Proofs.YtjllklddjkkddaaGreatDoor
open Go.ChangeShapes Go.WideShapes Go.ChangeAt Go.RowKit
set_option linter.unusedVariables false
/-- An answer, written out. -/
def anV (n a b : Int) (sa : Option Addr) (l sc : Nat) : Value := .agg #[.int .i64 n, .int .i64 a, .int .i64 b, .slice sa l sc, .slice none 0 0, .int .i64 0, .int .i64 0, .int .i64 0, .int .i64 0, .int .i64 0, .int .i64 0]
/-- A call, written out. -/
def clV (num a b c : Int) (d : Value) : Value := .agg #[.int .i64 num, .int .i64 a, .int .i64 b, .int .i64 c, .string ⟨#[]⟩, .string ⟨#[]⟩, d]
theorem an_field (n a b : Int) (d : Value) (w : World) : (Instr.field 33 (.agg #[.int .i64 n, .int .i64 a, .int .i64 b, d, .slice none 0 0, .int .i64 0, .int .i64 0, .int .i64 0, .int .i64 0, .int .i64 0, .int .i64 0]) 0).run Tryz.prog w = .ok (.int .i64 n) w := by kernel_rfl
def AskTo (w0 w : World) (pk : Nat) (f : FuncId) (args : Array Value) (XP : KX → Prop) (n a b : Int) (ds : List Int) (L : List (Nat × TypeId × List Value)) : Prop :=
  Calls Tryz.prog f args w fun e w' => ∃ X sa sc G, e = .returned (.agg #[.int .i64 n, .int .i64 a, .int .i64 b, .slice sa ds.length sc, .slice none 0 0, .int .i64 0, .int .i64 0, .int .i64 0, .int .i64 0, .int .i64 0, .int .i64 0]) ∧ XP X ∧ Sl w' 5 1 sa ds.length sc (bys ds) G ∧ FlS w0 w' pk X L
section
variable {w0 w : World} {pk : Nat} {ts ts' : Nat → Nat → Value} {L : List (Nat × TypeId × List Value)} {X : KX} {XP : KX → Prop}
theorem FlS.to {f : FuncId} {args : Array Value} {n a b : Int} {ds : List Int} (h : FlS w0 w pk X L) (H : ∀ B U, KAt w B U pk X → KCall f args w B U pk XP n a b ds) : AskTo w0 w pk f args XP n a b ds L := by
  refine (h.call H).mono ?_
  rintro e w' ⟨X', sa, sc, G, rfl, hX, hs, hf⟩
  exact ⟨X', sa, sc, G, rfl, hX, hs, hf⟩
theorem l_pipe (h : FlS w0 w pk (xS ts) L) (ht : TsA ts 1 1) : AskTo w0 w pk 5 #[.pointer (some ⟨pk, 0, none⟩), .int .i64 1, clV 10 0 0 0 (.slice none 0 0)] (fun Y => Y = xP ts) 0 0 1 [] L :=
  h.to (XP := fun Y => Y = xP ts) fun B U hk => ask_pipe hk 1 (by omega) (by omega) rfl 1 ht rfl rfl rfl rfl rfl
theorem l_fork (h : FlS w0 w pk (xP ts) L) (ht : TsA ts 1 1) (hN : TsN ts 1) : AskTo w0 w pk 5 #[.pointer (some ⟨pk, 0, none⟩), .int .i64 1, clV 2 0 0 0 (.slice none 0 0)] (fun Y => ∃ ts', Y = xF ts ts' ∧ TsA ts' 1 1 ∧ TsA ts' 2 2) 0 2 0 [] L :=
  h.to (XP := fun Y => ∃ ts', Y = xF ts ts' ∧ TsA ts' 1 1 ∧ TsA ts' 2 2) fun B U hk => ask_proc hk 1 (by omega) (by omega) rfl 1 ht 2 0 2 0 (by omega) fun w1 c1 => kpfork_ok w1 B U pk (xP ts) _ (hk.nil c1) 0 0 0 _ fun w2 c2 => by
    refine (kfork_ok w2 B U pk (xP ts) ((hk.nil c1).nil c2) rfl rfl rfl (by show (1 : Nat) ≤ 1000; omega) rfl rfl (xP_z ts) (xP_rd ts) 1 (xS_run ts) (by omega) (by show (1 : Nat) < 1000; omega) ht hN).mono ?_
    rintro e w3 ⟨ts', rfl, kp, h2, ho⟩
    exact ⟨xF ts ts', rfl, kp, ts', rfl, by
      have e1 : ts' 1 = ts 1 := ho 1 (by omega)
      exact ⟨by rw [e1]; exact ht.sp, fun j hj => by rw [e1]; exact ht.sg j hj, by rw [e1]; exact ht.aw, fun j hj => by rw [e1]; exact ht.one j hj⟩, h2⟩
theorem l_close1 (h : FlS w0 w pk (xF ts ts') L) (ht : TsA ts' 1 1) : AskTo w0 w pk 5 #[.pointer (some ⟨pk, 0, none⟩), .int .i64 1, clV 6 1 0 0 (.slice none 0 0)] (fun Y => Y = clX (xF ts ts') 1 1 1) 0 0 0 [] L :=
  h.to (XP := fun Y => Y = clX (xF ts ts') 1 1 1) fun B U hk => ask_close hk 1 (by omega) (by omega) (by kernel_rfl) 1 ht 1 1 (by omega) (by omega) (by kernel_rfl) 3 1 2 2 (by kernel_rfl) (by kernel_rfl)
theorem l_close2 (h : FlS w0 w pk (clX (xF ts ts') 1 1 1) L) (ht : TsA ts' 2 2) : AskTo w0 w pk 5 #[.pointer (some ⟨pk, 0, none⟩), .int .i64 2, clV 6 0 0 0 (.slice none 0 0)] (fun Y => Y = xL ts ts' []) 0 0 0 [] L :=
  h.to (XP := fun Y => Y = xL ts ts' []) fun B U hk => ask_close hk 2 (by omega) (by omega) (by kernel_rfl) 2 ht 0 0 (by omega) (by omega) (by kernel_rfl) 2 1 1 2 (by kernel_rfl) (by kernel_rfl)
theorem l_read (bs : List Int) (h : FlS w0 w pk (xL ts ts' bs) L) (ht : TsA ts' 1 1) (n : Nat) (hn : n ≤ 256) :
    ∃ (er : Int) (m : Nat) (ds bs' : List Int), (er = 0 ∨ er = 9) ∧ bs = ds ++ bs' ∧ AskTo w0 w pk 5 #[.pointer (some ⟨pk, 0, none⟩), .int .i64 1, clV 7 0 0 (n : Int) (.slice none 0 0)] (fun Y => Y = xL ts ts' bs') er (m : Int) 0 ds L := by
  by_cases hw : n = 0 ∨ bs ≠ []
  · exact ⟨0, min n bs.length, bs.take n, bs.drop n, .inl rfl, (List.take_append_drop n bs).symm, h.to (XP := fun Y => Y = xL ts ts' (bs.drop n)) fun B U hk => ask_read hk 1 (by omega) (by omega) (xL_pl1 ts ts' bs) 1 ht (xL_fd1 ts ts' bs) 1 (xL_fl0 ts ts' bs) 1 bs rfl n hn (by rcases hw with h1 | h1; exact .inl h1; exact .inr (.inl h1))⟩
  · have hn0 : 0 < n := by
      rcases Nat.eq_zero_or_pos n with h1 | h1
      · exact absurd (.inl h1) hw
      · exact h1
    have hb : bs = [] := by
      cases bs with
      | nil => rfl
      | cons b bs => exact absurd (.inr (by simp)) hw
    subst hb
    exact ⟨9, 0, [], [], .inr rfl, rfl, h.to (XP := fun Y => Y = xL ts ts' []) fun B U hk => ask_none hk 1 (by omega) (by omega) (xL_pl1 ts ts' []) 1 ht (xL_fd1 ts ts' []) 1 (xL_fl0 ts ts' []) 1 (by omega) rfl n hn0 hn⟩
theorem l_write (bs : List Int) (hb : bs.length ≤ 64) (h : FlS w0 w pk (xL ts ts' bs) L) (ht : TsA ts' 2 2) (R : Nat → Prop) (da : Option Addr) (dl dc : Nat) (ds : List Int) (hds : Rd w R 1 da dl dc (bys ds)) (hd : dl ≤ 90) :
    ∃ (er : Int) (m : Nat), (er = 0 ∨ er = 9) ∧ m ≤ dl ∧ (bs ++ ds.take m).length ≤ 64 ∧ AskTo w0 w pk 5 #[.pointer (some ⟨pk, 0, none⟩), .int .i64 2, clV 8 1 0 0 (.slice da dl dc)] (fun Y => Y = xL ts ts' (bs ++ ds.take m)) er (m : Int) 0 [] L := by
  by_cases hw : dl = 0 ∨ bs.length < 64
  · refine ⟨0, min dl (64 - bs.length), .inl rfl, Nat.min_le_left _ _, by rw [List.length_append, List.length_take]; omega, h.to (XP := fun Y => Y = xL ts ts' (bs ++ ds.take (min dl (64 - bs.length)))) fun B U hk => ask_write hk 2 (by omega) (by omega) (xL_pl2 ts ts' bs) 2 ht (xL_fd2 ts ts' bs) 1 (xL_fl1 ts ts' bs) bs rfl R da dl dc ds hds (by omega) hw⟩
  · refine ⟨9, 0, .inr rfl, Nat.zero_le _, by simpa using hb, h.to (XP := fun Y => Y = xL ts ts' (bs ++ ds.take 0)) fun B U hk => ?_⟩
    rw [List.take_zero, List.append_nil]
    exact ask_full hk 2 (by omega) (by omega) (xL_pl2 ts ts' bs) 2 ht (xL_fd2 ts ts' bs) 1 (xL_fl1 ts ts' bs) bs rfl (by omega) da dl dc (by omega) (by omega)
theorem l_exit (bs : List Int) (h : FlS w0 w pk (xL ts ts' bs) L) (ht : TsA ts' 1 1) (ht2 : TsA ts' 2 2) : AskTo w0 w pk 5 #[.pointer (some ⟨pk, 0, none⟩), .int .i64 2, clV 1 0 0 0 (.slice none 0 0)] (fun Y => Y = xE ts ts' bs) 0 0 0 [] L :=
  h.to (XP := fun Y => Y = xE ts ts' bs) fun B U hk => ask_proc hk 2 (by omega) (by omega) (xL_pl2 ts ts' bs) 2 ht2 1 0 0 0 (by omega) fun w1 c1 => kpexit_ok w1 B U pk (xL ts ts' bs) (xE ts ts' bs) (hk.nil c1) 2 (by omega) 0 0 0 _ fun w2 c2 =>
    kexit_ok w2 B U pk (xL ts ts' bs) ((hk.nil c1).nil c2) 2 (by omega) (by omega) (xL_pl2 ts ts' bs) 0 (xL_up ts ts' bs) (xE_pl1 ts ts' bs) (xL_rd ts ts' bs) (xD ts ts').1 (xD ts ts').2.1 1 (by
      have := xD_l ts ts'
      show xD ts ts' = _
      rw [← this]) bs rfl 2 ht2.sp (by omega) (by kernel_rfl) 2 (xL_run ts ts' bs) 1 ht
theorem xE_ts (ht : TsA ts' 1 1) (bs : List Int) : TsA (xE ts ts' bs).ts 1 1 := by
  have he : ∀ j, (xE ts ts' bs).ts 1 j = ts' 1 j := fun j => by
    show updP ts' 2 0 38 tkZ 1 j = ts' 1 j
    unfold updP
    rw [if_neg (by omega)]
  exact ⟨(he 0).trans ht.sp, fun j hj => (he _).trans (ht.sg j hj), (he 37).trans ht.aw, fun j hj => by rw [he]; exact ht.one j hj⟩
theorem l_end (bs : List Int) (h : FlS w0 w pk (xE ts ts' bs) L) (ht : TsA ts' 1 1) : AskTo w0 w pk 10 #[.pointer (some ⟨pk, 0, none⟩), clV 7 0 0 64 (.slice none 0 0)] (fun Y => Y = xE ts ts' (bs.drop 64)) 0 ((min 64 bs.length : Nat) : Int) 0 (bs.take 64) L :=
  h.to (XP := fun Y => Y = xE ts ts' (bs.drop 64)) fun B U hk => g3ask_ok w B U pk _ _ hk 7 0 0 64 0 _ 0 _ _ rfl fun w1 c1 => ask_read (hk.nil c1) 1 (by omega) (by omega) (xE_pl1 ts ts' bs) 1 (xE_ts ht bs) (xE_fd1 ts ts' bs) 1 (xE_fl0 ts ts' bs) 0 bs rfl 64 (by omega) (.inr (.inr rfl))
theorem l_wait (bs : List Int) (X : KX) (hX : X.pl = (xE ts ts' bs).pl) (h : FlS w0 w pk X L) (ht : TsA X.ts 1 1) : AskTo w0 w pk 10 #[.pointer (some ⟨pk, 0, none⟩), clV 4 0 0 0 (.slice none 0 0)] (fun _ => True) 0 2 ((X.pl 2).status) [] L :=
  h.to (XP := fun _ => True) fun B U hk => g3ask_ok w B U pk _ _ hk 4 0 0 0 0 2 _ _ _ rfl fun w1 c1 => ask_proc (hk.nil c1) 1 (by omega) (by omega) (by rw [hX]; exact xE_pl1 ts ts' bs) 1 ht 4 0 2 _ (by omega) fun w2 c2 => by
    refine (kpwait_ok w2 B U pk X ((hk.nil c1).nil c2) 1 (by omega) (by omega) (by rw [hX]; exact xE_pl1 ts ts' bs) 2 (by omega) (by rw [hX]; exact xE_pl2 ts ts' bs) (by rw [hX]; exact xE_up2 ts ts' bs) (fun j hj => by rw [hX]; exact xE_low ts ts' bs j hj) 0 0 0 _).mono ?_
    rintro e w3 ⟨vs, rfl, X1, sa, sc, G, hX1, hr⟩
    exact ⟨vs, rfl, X1, sa, sc, G, trivial, hr⟩
theorem l_reclaim (h : FlS w0 w pk X L) (k : Int) : ∃ pm, w.cell? ⟨pk, 1, none⟩ = some (.pointer (some ⟨pm, 0, none⟩)) ∧ ∀ w', Chg Nil w w' → Calls Tryz.prog 7 #[.pointer (some ⟨pm, 0, none⟩), .int .i64 k] w' fun e w2 => e = .returned (.int .i64 0) ∧ Chg Nil w' w2 := by
  obtain ⟨B, U, hk, _⟩ := h
  obtain ⟨pm, k1, _, H⟩ := hk.sreclaim k
  exact ⟨pm, k1, H⟩
end
theorem an_chain {w1 : World} {T : Nat} (TB : Blk w1 T 33 anZ) (n a b : Int) (sa : Option Addr) (l sc : Nat) :
    Hid (Blk (((((((((((w1.setCell ⟨T, 0, none⟩ (.int .i64 n)).setCell ⟨T, 1, none⟩ (.int .i64 a)).setCell ⟨T, 2, none⟩ (.int .i64 b)).setCell ⟨T, 3, none⟩ (.slice sa l sc)).setCell ⟨T, 4, none⟩ (.slice none 0 0)).setCell ⟨T, 5, none⟩ (.int .i64 0)).setCell ⟨T, 6, none⟩ (.int .i64 0)).setCell ⟨T, 7, none⟩ (.int .i64 0)).setCell ⟨T, 8, none⟩ (.int .i64 0)).setCell ⟨T, 9, none⟩ (.int .i64 0)).setCell ⟨T, 10, none⟩ (.int .i64 0)) T 33 (anC n a b (.slice sa l sc))) ∧ Hid (Chg (One T) w1 (((((((((((w1.setCell ⟨T, 0, none⟩ (.int .i64 n)).setCell ⟨T, 1, none⟩ (.int .i64 a)).setCell ⟨T, 2, none⟩ (.int .i64 b)).setCell ⟨T, 3, none⟩ (.slice sa l sc)).setCell ⟨T, 4, none⟩ (.slice none 0 0)).setCell ⟨T, 5, none⟩ (.int .i64 0)).setCell ⟨T, 6, none⟩ (.int .i64 0)).setCell ⟨T, 7, none⟩ (.int .i64 0)).setCell ⟨T, 8, none⟩ (.int .i64 0)).setCell ⟨T, 9, none⟩ (.int .i64 0)).setCell ⟨T, 10, none⟩ (.int .i64 0))) :=
  ⟨(((((((((((TB.set 0 _).set 1 _).set 2 _).set 3 _).set 4 _).set 5 _).set 6 _).set 7 _).set 8 _).set 9 _).set 10 _), ((((((((((((Chg.refl _ w1).setCell (p := ⟨T, 0, none⟩) (.inl (show One T T from rfl)) _).setCell (p := ⟨T, 1, none⟩) (.inl (show One T T from rfl)) _).setCell (p := ⟨T, 2, none⟩) (.inl (show One T T from rfl)) _).setCell (p := ⟨T, 3, none⟩) (.inl (show One T T from rfl)) _).setCell (p := ⟨T, 4, none⟩) (.inl (show One T T from rfl)) _).setCell (p := ⟨T, 5, none⟩) (.inl (show One T T from rfl)) _).setCell (p := ⟨T, 6, none⟩) (.inl (show One T T from rfl)) _).setCell (p := ⟨T, 7, none⟩) (.inl (show One T T from rfl)) _).setCell (p := ⟨T, 8, none⟩) (.inl (show One T T from rfl)) _).setCell (p := ⟨T, 9, none⟩) (.inl (show One T T from rfl)) _).setCell (p := ⟨T, 10, none⟩) (.inl (show One T T from rfl)) _)⟩
theorem wf64 {n : Int} (h : (Lit.int .i64 n).wf = true) : -9223372036854775808 ≤ n ∧ n ≤ 9223372036854775807 := by
  simp only [Lit.wf, Bool.and_eq_true, decide_eq_true_eq] at h
  exact h
theorem kmem_ok (w : World) (pk pm : Nat) (k1 : w.cell? ⟨pk, 1, none⟩ = some (.pointer (some ⟨pm, 0, none⟩))) : Calls Tryz.prog 6 #[.pointer (some ⟨pk, 0, none⟩)] w fun e w' => e = .returned (.pointer (some ⟨pm, 0, none⟩)) ∧ w = w' := by
  go_enter Tryz.func6, Tryz.ntmps6
  go_wp2
  go_ret
  exact ⟨rfl, rfl⟩
theorem g3rest_50 (w : World) (n : Int) (h1 : -9223372036854775808 ≤ n) (h2 : n ≤ 9223372036854775807) : Calls Tryz.prog 8 #[.int .i64 n, .int .i64 50] w fun e w' => ∃ r : Nat, r < 50 ∧ e = .returned (.int .i64 (r : Int)) ∧ w = w' := g3rest_ok w n h1 h2 50 (by omega) (by omega)
theorem g3rest_80 (w : World) (n : Int) (h1 : -9223372036854775808 ≤ n) (h2 : n ≤ 9223372036854775807) : Calls Tryz.prog 8 #[.int .i64 n, .int .i64 80] w fun e w' => ∃ r : Nat, r < 80 ∧ e = .returned (.int .i64 (r : Int)) ∧ w = w' := g3rest_ok w n h1 h2 80 (by omega) (by omega)
/-- A block of the law's own is written. -/
theorem FlS.put {w0 w W : World} {pk b : Nat} {X : KX} {t : TypeId} {cs vs : List Value} {L : List (Nat × TypeId × List Value)} (h : FlS w0 w pk X ((b, t, cs) :: L)) (hw : w0.heap.size ≤ b) (hL : ∀ x ∈ L, x.1 ≠ b) (hb : Blk W b t vs) (hc : Chg (One b) w W) : FlS w0 W pk X ((b, t, vs) :: L) := by
  obtain ⟨B, U, h1, h2, h3, h4⟩ := h
  have hU : ¬ U b := (h4 _ (List.mem_cons_self ..)).2
  refine ⟨B, U, h1.chg hc (fun k hk hh => hU (by rw [← show k = b from hh]; exact hk)), h2, below_chg h3 hc (fun k hk => by rw [show k = b from hk]; exact hw), fun x hx => ?_⟩
  rcases List.mem_cons.1 hx with rfl | hx
  · exact ⟨hb, hU⟩
  · obtain ⟨b1, b2⟩ := h4 x (List.mem_cons_of_mem _ hx)
    exact ⟨b1.chg hc (fun hh => hL x hx hh), b2⟩
theorem str_pre (a b : List Int) : (strOfNums (a ++ b)).extract 0 a.length = strOfNums a := by
  apply ByteArray.ext
  simp [strOfNums, ByteArray.data_extract]
set_option maxRecDepth 100000 in
theorem hp2_ok (w : World) (a b : List Int) : Calls Tryz.prog 21 #[.string (strOfNums (a ++ b)), .string (strOfNums a)] w fun e w' => e = .returned (.bool true) ∧ w = w' := by
  have s1 := strOfNums_size (a ++ b)
  have s2 := strOfNums_size a
  have s3 := hid (str_pre a b)
  go_enter Tryz.func21, Tryz.ntmps21
  go_wp2
  rw [s3.out]
  simp only [beq_self_eq_true]
  go_ret
  exact ⟨rfl, rfl⟩
theorem hp_ok (w : World) (a b : List Int) : Calls Tryz.prog 9 #[.string (strOfNums (a ++ b)), .string (strOfNums a)] w fun e w' => e = .returned (.bool true) ∧ w = w' := by
  have H := hid (hp2_ok w a b)
  go_enter Tryz.func9, Tryz.ntmps9
  go_wp2_with fail
  refine H.out.mono ?_
  rintro e w' ⟨rfl, rfl⟩
  go_wp2
  go_ret
  exact ⟨rfl, rfl⟩
end Go.Proofs.YtjllklddjkkddaaGreatDoor
