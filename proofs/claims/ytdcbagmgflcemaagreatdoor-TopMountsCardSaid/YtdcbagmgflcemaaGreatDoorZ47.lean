/- The law's calls, one by one: from what state to what state. Conditions: the law's own. -/
import Derived.Test.YtdcbagmgflcemaaGreatDoorZ46
namespace Go.Proofs.YtdcbagmgflcemaaGreatDoor
open Go.ChangeShapes Go.WideShapes Go.ChangeAt Go.RowKit
set_option linter.unusedVariables false
section
variable {w0 w : World} {P : MaP} {V : Nat → Prop}
/-- An answer without bytes. -/
def AnsTo (w0 w : World) (P : MaP) (Y' : MaY) (V : Nat → Prop) (e : Ending) (w' : World) : Prop :=
  ∃ sa sc, e = .returned (.agg #[.int .i64 0, .int .i64 0, .int .i64 0, .slice sa 0 sc, .slice none 0 0, .int .i64 0, .int .i64 0, .int .i64 0, .int .i64 0, .int .i64 0, .int .i64 0]) ∧ MaL w0 w' P Y' V ∧ Kp V w w'
theorem MaL.to {f : FuncId} {args : Array Value} {Y Y' : MaY} (h : MaL w0 w P Y V) (H : ∀ U, MaA P Y w U → KCallA f args w U (MaA P Y') 0 0 0 []) : Calls Tryz.prog f args w (AnsTo w0 w P Y' V) :=
  (h.ask H).mono (by
    rintro e w' ⟨sa, sc, G, rfl, _, h1, kp⟩
    exact ⟨sa, sc, rfl, h1.less (fun k hk => .inl hk), kp⟩)
theorem kd0 : ∀ j, j < 1 → 0 < (maY0.M j).kd := fun j hj => by
  obtain rfl : j = 0 := by omega
  decide
theorem kd1 : ∀ j, j < 2 → 0 < (maY1.M j).kd := fun j hj => by
  obtain rfl | rfl : j = 0 ∨ j = 1 := by omega
  all_goals decide
theorem kd2 : ∀ j, j < 3 → 0 < (maY2.M j).kd := fun j hj => by
  obtain rfl | rfl | rfl : j = 0 ∨ j = 1 ∨ j = 2 := by omega
  all_goals decide
theorem kd3 : ∀ j, j < 4 → 0 < (maY3.M j).kd := fun j hj => by
  obtain rfl | rfl | rfl | rfl : j = 0 ∨ j = 1 ∨ j = 2 ∨ j = 3 := by omega
  all_goals decide
theorem l_mka (h : MaL w0 w P maY0 V) : Calls Tryz.prog 5 #[.pointer (some ⟨P.pk, 0, none⟩), .int .i64 1, .agg #[.int .i64 12, .int .i64 493, .int .i64 0, .int .i64 0, .string ⟨#[97]⟩, .string ⟨#[]⟩, .slice none 0 0]] w (AnsTo w0 w P maY1 V) :=
  h.to (fun U hU => mt_mkdir hU 97 (.inl rfl) 1 [] dir00 (by omega) rfl kd0 rfl enS_a (by decide) (by decide))
theorem l_mkb (h : MaL w0 w P maY1 V) : Calls Tryz.prog 5 #[.pointer (some ⟨P.pk, 0, none⟩), .int .i64 1, .agg #[.int .i64 12, .int .i64 493, .int .i64 0, .int .i64 0, .string ⟨#[98]⟩, .string ⟨#[]⟩, .slice none 0 0]] w (AnsTo w0 w P maY2 V) :=
  h.to (fun U hU => mt_mkdir hU 98 (.inr rfl) 2 [eA] dir10 (by omega) rfl kd1 rfl enS_ab (by decide) (by decide))
def OpTo (w0 w : World) (P : MaP) (Y' : MaY) (V : Nat → Prop) (v : Value) (e : Ending) (w' : World) : Prop := e = .returned v ∧ MaL w0 w' P Y' V ∧ Kp V w w'
theorem l_op3 (h : MaL w0 w P maY2 V) : Calls Tryz.prog 6 #[.pointer (some ⟨P.pk, 0, none⟩), .int .i64 1, .string ⟨#[97, 47, 102]⟩, .int .i64 1] w (OpTo w0 w P maY3 V (.int .i64 0)) :=
  opened_ok h ⟨#[97, 47, 102]⟩ 1 0 (fun U hU => mt_open_new hU rfl 97 (.inl rfl) 1 (by omega) [eA, eB] dir20 rfl rfl dir21 (by decide) 3 (by omega) rfl kd2 (by decide) (by omega) 0 0 (by decide) (by omega) rfl (fun j hj => absurd hj (Nat.not_lt_zero j)) (by omega) rfl (fun j hj => absurd hj (Nat.not_lt_zero j)))
theorem fd4 : ∀ j, j < 1 → maY3.fd 1 j ≠ 0 := fun j hj => by
  obtain rfl : j = 0 := by omega
  show (1 : Nat) ≠ 0
  decide
theorem fl4 : ∀ j, j < 1 → (maY3.fl j).n ≠ 0 := fun j hj => by
  obtain rfl : j = 0 := by omega
  show (1 : Int) ≠ 0
  decide
theorem l_op4 (h : MaL w0 w P maY3 V) : Calls Tryz.prog 6 #[.pointer (some ⟨P.pk, 0, none⟩), .int .i64 1, .string ⟨#[98, 47, 102]⟩, .int .i64 1] w (OpTo w0 w P maY4 V (.int .i64 1)) :=
  opened_ok h ⟨#[98, 47, 102]⟩ 1 1 (fun U hU => mt_open_new hU rfl 98 (.inr rfl) 2 (by omega) [eA, eB] dir30 rfl rfl dir32 (by decide) 4 (by omega) rfl kd3 (by decide) (by omega) 1 1 (by decide) (by omega) rfl fd4 (by omega) rfl fl4)
theorem l_put5 (h : MaL w0 w P maY4 V) (l : List Int) (n : Nat) (hn : n = l.length) (hl : n ≤ 50) (R : Nat → Prop) (a : Option Addr) (c : Nat) (hr : Rd w R 1 a n c (bys l)) : Calls Tryz.prog 7 #[.pointer (some ⟨P.pk, 0, none⟩), .int .i64 1, .int .i64 0, .slice a n c] w (OpTo w0 w P (maY5 l) V (.bool true)) := by
  subst hn
  exact h06put_ok h 0 a l.length c (fun U hU => mt_write hU 4 0 0 (by omega) (by omega) rfl rfl rfl (by decide) (by omega) (by omega) rfl 1 rfl l (by omega) R a c hr)
theorem l_put6 (l : List Int) (h : MaL w0 w P (maY5 l) V) (m : List Int) (n : Nat) (hn : n = m.length) (hl : n ≤ 50) (R : Nat → Prop) (a : Option Addr) (c : Nat) (hr : Rd w R 1 a n c (bys m)) : Calls Tryz.prog 7 #[.pointer (some ⟨P.pk, 0, none⟩), .int .i64 1, .int .i64 1, .slice a n c] w (OpTo w0 w P (maY6 l m) V (.bool true)) := by
  subst hn
  have e4 : (maY5 l).M 4 = maY4.M 4 := mWr_ne _ _ _ _ (by omega)
  have em : (maY5 l).m ≤ 4 := mxWr_le _ _
  exact h06put_ok h 1 a m.length c (fun U hU => mt_write hU 5 1 1 (by omega) (by omega) (by show ((maY5 l).M 4).kd = 1; rw [e4]; rfl) (by show ((maY5 l).M 4).pt = 0; rw [e4]; rfl) (by show ((maY5 l).M 4).sz = 0; rw [e4]; rfl) (by omega) (by omega) (by omega) rfl 1 rfl m (by omega) R a c hr)
theorem l_mount (l m : List Int) (h : MaL w0 w P (maY6 l m) V) : Calls Tryz.prog 5 #[.pointer (some ⟨P.pk, 0, none⟩), .int .i64 1, .agg #[.int .i64 27, .int .i64 0, .int .i64 0, .int .i64 0, .string ⟨#[97]⟩, .string ⟨#[98]⟩, .slice none 0 0]] w (AnsTo w0 w P (maY7 l m) V) :=
  h.to (fun U hU => mt_mount hU rfl rfl ⟨2, 3⟩ (.inr ⟨⟨2, 3⟩, rfl, by decide, by decide, by decide, by decide, by decide⟩) (yOW 2 2 0) (yOW 3 3 0) (fun _ => [eA, eB]) (fun _ => [eA, eB]) (yOW_1 _ _ 2 2 0 (by omega) (by omega) 97 (.inl rfl) _ (dir60 l m) rfl rfl (kd6_1 l m) rfl _ rfl) (yOW_1 _ _ 3 3 0 (by omega) (by omega) 98 (.inr (.inl rfl)) _ (dir60 l m) rfl rfl (kd6_2 l m) rfl _ rfl) rfl rfl rfl rfl (kd6_1 l m) (kd6_2 l m) ⟨by decide, by decide⟩ ⟨by decide, by decide⟩)
theorem l_op8 (l m : List Int) (h : MaL w0 w P (maY7 l m) V) : Calls Tryz.prog 6 #[.pointer (some ⟨P.pk, 0, none⟩), .int .i64 1, .string ⟨#[97, 47, 102]⟩, .int .i64 0] w (OpTo w0 w P (maY8 l m) V (.int .i64 2)) :=
  opened_ok h ⟨#[97, 47, 102]⟩ 0 2 (fun U hU => mt_open_old hU (yOW 2 3 5) _ (yOW_2 _ _ 2 3 5 (by omega) (by omega) (by omega) (by omega) (by omega) 97 (.inl rfl) _ _ (dir60 l m) rfl rfl (kd6_1 l m) rfl (dir62 l m) rfl rfl (kd6_4 l m) rfl) rfl 5 rfl (by omega) (by omega) (kd6_4 l m) 2 2 (by show (1 : Nat) ≤ 100; omega) (by omega) rfl (fun j hj => by
    obtain rfl | rfl : j = 0 ∨ j = 1 := by omega
    · show (1 : Nat) ≠ 0; decide
    · show (2 : Nat) ≠ 0; decide) (by omega) rfl (fun j hj => by
    obtain rfl | rfl : j = 0 ∨ j = 1 := by omega
    · show (1 : Int) ≠ 0; decide
    · show (1 : Int) ≠ 0; decide))
/-- Bytes are handed out. -/
def DtTo (w0 w : World) (P : MaP) (Y' : MaY) (V : Nat → Prop) (ds : List Int) (e : Ending) (w' : World) : Prop :=
  ∃ sa sc G, e = .returned (.tuple #[.slice sa ds.length sc, .int .i64 0]) ∧ Sl w' 5 1 sa ds.length sc (bys ds) G ∧ MaL w0 w' P Y' (fun k => V k ∨ G = some k) ∧ Kp V w w'
theorem l_got9 (l m : List Int) (hm : m.length ≤ 50) (h : MaL w0 w P (maY8 l m) V) : Calls Tryz.prog 8 #[.pointer (some ⟨P.pk, 0, none⟩), .int .i64 1, .int .i64 2, .int .i64 100] w (DtTo w0 w P (maY9 l m) V m) :=
  got_ok h 2 m (fun U hU => mt_read hU 5 2 2 (by omega) (by omega) (kd6_4 l m) (by omega) (by omega) rfl 1 rfl m (b6_4 l m) (by omega))
theorem l_leave (l m : List Int) (h : MaL w0 w P (maY9 l m) V) : Calls Tryz.prog 5 #[.pointer (some ⟨P.pk, 0, none⟩), .int .i64 1, .agg #[.int .i64 28, .int .i64 0, .int .i64 0, .int .i64 0, .string ⟨#[97]⟩, .string ⟨#[]⟩, .slice none 0 0]] w (AnsTo w0 w P (maY10 l m) V) :=
  h.to (fun U hU => mt_leave hU ⟨2, 3⟩ rfl (yOW 2 3 0) (fun _ => [eA, eB]) (yOW_1 _ _ 2 3 0 (by omega) (by omega) 97 (.inl rfl) _ (dir60 l m) rfl rfl (kd6_1 l m) rfl _ rfl) rfl rfl (kd6_2 l m) ⟨by decide, by decide⟩)
theorem l_op11 (l m : List Int) (h : MaL w0 w P (maY10 l m) V) : Calls Tryz.prog 6 #[.pointer (some ⟨P.pk, 0, none⟩), .int .i64 1, .string ⟨#[97, 47, 102]⟩, .int .i64 0] w (OpTo w0 w P (maY11 l m) V (.int .i64 3)) :=
  opened_ok h ⟨#[97, 47, 102]⟩ 0 3 (fun U hU => mt_open_old hU (yOW 2 2 4) _ (yOW_2 _ _ 2 2 4 (by omega) (by omega) (by omega) (by omega) (by omega) 97 (.inl rfl) _ _ (dir60 l m) rfl rfl (kd6_1 l m) rfl (dir61 l m) rfl rfl (kd6_3 l m) rfl) rfl 4 rfl (by omega) (by omega) (kd6_3 l m) 3 3 (by show (1 : Nat) ≤ 100; omega) (by omega) rfl (fun j hj => by
    obtain rfl | rfl | rfl : j = 0 ∨ j = 1 ∨ j = 2 := by omega
    · show (1 : Nat) ≠ 0; decide
    · show (2 : Nat) ≠ 0; decide
    · show (3 : Nat) ≠ 0; decide) (by omega) rfl (fun j hj => by
    obtain rfl | rfl | rfl : j = 0 ∨ j = 1 ∨ j = 2 := by omega
    · show (1 : Int) ≠ 0; decide
    · show (1 : Int) ≠ 0; decide
    · show (1 : Int) ≠ 0; decide))
theorem l_got12 (l m : List Int) (hl : l.length ≤ 50) (h : MaL w0 w P (maY11 l m) V) : Calls Tryz.prog 8 #[.pointer (some ⟨P.pk, 0, none⟩), .int .i64 1, .int .i64 3, .int .i64 100] w (DtTo w0 w P (maY12 l m) V l) :=
  got_ok h 3 l (fun U hU => mt_read hU 4 3 3 (by omega) (by omega) (kd6_3 l m) (by omega) (by omega) rfl 1 rfl l (b6_3 l m) (by omega))
end
end Go.Proofs.YtdcbagmgflcemaaGreatDoor
