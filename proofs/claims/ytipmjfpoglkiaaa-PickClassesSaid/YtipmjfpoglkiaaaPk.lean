/- The scheduler of package pick, in memory: its three classes and its three maps. No condition. -/
import Derived.Test.YtipmjfpoglkiaaaFairs
import Derived.Test.YtipmjfpoglkiaaaPrio7
import Derived.Test.YtipmjfpoglkiaaaDeadBegun
import Derived.Test.YtipmjfpoglkiaaaMapNew
namespace Go.Proofs.Ytipmjfpoglkiaaa
open Go.ChangeShapes Go.WideShapes Go.ChangeAt Go.RowKit
set_option linter.unusedVariables false
/-- What the scheduler holds. -/
structure PKS where
  ts : List FT
  b : Nat
  q : Nat → List Int
  nw : Nat
  ds : List DT
  cl : Int → Option Value
  va : Int → Option Value
  of : Int → Option Value
  now : Int
  used : Int
/-- Where it lies. -/
structure PKL where
  Ff : Nat → Prop
  Fp : Nat → Prop
  Fd : Nat → Prop
  pf : Nat
  pp : Nat
  pd : Nat
  mc : Nat
  mv : Nat
  mo : Nat
  nc : Nat
  nv : Nat
  no : Nat
def pkCells (y : PKL) (s : PKS) : List Value := [.pointer (some ⟨y.pf, 0, none⟩), .pointer (some ⟨y.pp, 0, none⟩), .pointer (some ⟨y.pd, 0, none⟩), .map (some y.mc), .map (some y.mv), .map (some y.mo), .int .i64 s.now, .int .i64 s.used]
/-- What is not to be touched: these blocks, as they are in this world. -/
structure Env where
  w : World
  K : Nat → Prop
  lt : ∀ k, K k → k < w.heap.size
/-- All that was there. -/
def Env.of (w : World) : Env := ⟨w, fun k => k < w.heap.size, fun _ h => h⟩
def pkFs (E : Env) (p : Nat) (y : PKL) : List (Nat → Prop) := [One p, One y.mo, One y.mv, One y.mc, y.Fd, y.Fp, y.Ff, E.K]
/-- All but these. -/
def Env.F (E : Env) : Nat → Prop := fun k => ¬ E.K k
structure PkA (w0 : Env) (w : World) (p : Nat) (y : PKL) (s : PKS) : Prop where
  blk : Blk w p 49 (pkCells y s)
  fa : FairAt w y.Ff y.pf s.ts
  pr : PrAt w y.Fp y.pp s.b s.q
  de : DeadAt w y.Fd y.pd s.nw s.ds
  mc : MpAt w Try.prog 3 y.mc y.nc s.cl
  mv : MpAt w Try.prog 3 y.mv y.nv s.va
  mo : MpAt w Try.prog 3 y.mo y.no s.of
  sep : Sep 0 w.heap.size (pkFs w0 p y)
  bel : Chg w0.F w0.w w
theorem env_chg {E : Env} {w w' : World} {F : Nat → Prop} (h : Chg E.F E.w w) (hc : Chg F w w') (hd : Dj F E.K) : Chg E.F E.w w' := h.trans hc (fun k _ hk hK => hd k hk hK)
theorem env_nil {E : Env} {w w' : World} (h : Chg E.F E.w w) (hc : Chg Nil w w') : Chg E.F E.w w' := h.trans hc (fun _ _ hk => hk.elim)
theorem env_of {w0 w : World} (h : Below w0.heap.size w0 w) : Chg (Env.of w0).F (Env.of w0).w w := ⟨h.os, h.tape, h.output, h.size, fun k hk _ => h.block k hk⟩
theorem env_below {w0 w : World} (h : Chg (Env.of w0).F (Env.of w0).w w) : Below w0.heap.size w0 w := h.below (fun k hk hF => hF hk) (Nat.le_refl _)
section
variable {w0 : Env} {w w' : World} {p : Nat} {y : PKL} {s : PKS}
theorem PkA.dj (h : PkA w0 w p y s) (i j : Nat) {F G : Nat → Prop} (hi : (pkFs w0 p y)[i]? = some F) (hj : (pkFs w0 p y)[j]? = some G) (hne : i ≠ j) : Dj F G := h.sep.dj i j hi hj hne
theorem one_not {F : Nat → Prop} {g : Nat} (h : Dj (One g) F) : ¬ F g := fun hF => h g rfl hF
theorem not_one {F : Nat → Prop} {g : Nat} (h : Dj F (One g)) : ¬ F g := fun hF => h g hF rfl
theorem PkA.nil (h : PkA w0 w p y s) (hc : Chg Nil w w') : PkA w0 w' p y s :=
  ⟨h.blk.chg hc (fun h => h), h.fa.chg hc (fun _ _ h => h), h.pr.chg hc (fun _ _ h => h), h.de.chg hc (fun _ _ h => h), h.mc.chg hc (fun h => h), h.mv.chg hc (fun h => h), h.mo.chg hc (fun h => h), h.sep.grow hc.size, env_nil h.bel hc⟩
theorem PkA.fair {F' : Nat → Prop} {ts' : List FT} (h : PkA w0 w p y s) (k1 : FairAt w' F' y.pf ts') (hc : Chg y.Ff w w') (hg : Grew w.heap.size y.Ff F') (hl : ∀ k, F' k → k < w'.heap.size) : PkA w0 w' p { y with Ff := F' } { s with ts := ts' } :=
  ⟨h.blk.chg hc (one_not (h.dj 0 6 rfl rfl (by omega))), k1, h.pr.chg hc (h.dj 5 6 rfl rfl (by omega)), h.de.chg hc (h.dj 4 6 rfl rfl (by omega)), h.mc.chg hc (one_not (h.dj 3 6 rfl rfl (by omega))), h.mv.chg hc (one_not (h.dj 2 6 rfl rfl (by omega))), h.mo.chg hc (one_not (h.dj 1 6 rfl rfl (by omega))),
    h.sep.upd 6 rfl hg hl hc.size (Nat.zero_le _), env_chg h.bel hc (h.dj 6 7 rfl rfl (by omega))⟩
theorem PkA.prio {F' : Nat → Prop} {b' : Nat} {q' : Nat → List Int} (h : PkA w0 w p y s) (k1 : PrAt w' F' y.pp b' q') (hc : Chg y.Fp w w') (hg : Grew w.heap.size y.Fp F') : PkA w0 w' p { y with Fp := F' } { s with b := b', q := q' } :=
  ⟨h.blk.chg hc (one_not (h.dj 0 5 rfl rfl (by omega))), h.fa.chg hc (h.dj 6 5 rfl rfl (by omega)), k1, h.de.chg hc (h.dj 4 5 rfl rfl (by omega)), h.mc.chg hc (one_not (h.dj 3 5 rfl rfl (by omega))), h.mv.chg hc (one_not (h.dj 2 5 rfl rfl (by omega))), h.mo.chg hc (one_not (h.dj 1 5 rfl rfl (by omega))),
    h.sep.upd 5 rfl hg k1.lt hc.size (Nat.zero_le _), env_chg h.bel hc (h.dj 5 7 rfl rfl (by omega))⟩
theorem PkA.dead {F' : Nat → Prop} {n' : Nat} {ds' : List DT} (h : PkA w0 w p y s) (k1 : DeadAt w' F' y.pd n' ds') (hc : Chg y.Fd w w') (hg : Grew w.heap.size y.Fd F') (hl : ∀ k, F' k → k < w'.heap.size) : PkA w0 w' p { y with Fd := F' } { s with nw := n', ds := ds' } :=
  ⟨h.blk.chg hc (one_not (h.dj 0 4 rfl rfl (by omega))), h.fa.chg hc (h.dj 6 4 rfl rfl (by omega)), h.pr.chg hc (h.dj 5 4 rfl rfl (by omega)), k1, h.mc.chg hc (one_not (h.dj 3 4 rfl rfl (by omega))), h.mv.chg hc (one_not (h.dj 2 4 rfl rfl (by omega))), h.mo.chg hc (one_not (h.dj 1 4 rfl rfl (by omega))),
    h.sep.upd 4 rfl hg hl hc.size (Nat.zero_le _), env_chg h.bel hc (h.dj 4 7 rfl rfl (by omega))⟩
/-- The struct itself is changed. -/
theorem PkA.self {s' : PKS} (h : PkA w0 w p y s) (hb : Blk w' p 49 (pkCells y s')) (hc : Chg (One p) w w') (e1 : s'.ts = s.ts) (e2 : s'.b = s.b) (e3 : s'.q = s.q) (e4 : s'.nw = s.nw) (e5 : s'.ds = s.ds) (e6 : s'.cl = s.cl) (e7 : s'.va = s.va) (e8 : s'.of = s.of) : PkA w0 w' p y s' :=
  ⟨hb, by rw [e1]; exact h.fa.chg hc (h.dj 6 0 rfl rfl (by omega)), by rw [e2, e3]; exact h.pr.chg hc (h.dj 5 0 rfl rfl (by omega)), by rw [e4, e5]; exact h.de.chg hc (h.dj 4 0 rfl rfl (by omega)), by rw [e6]; exact h.mc.chg hc (one_not (h.dj 3 0 rfl rfl (by omega))), by rw [e7]; exact h.mv.chg hc (one_not (h.dj 2 0 rfl rfl (by omega))), by rw [e8]; exact h.mo.chg hc (one_not (h.dj 1 0 rfl rfl (by omega))),
    h.sep.grow hc.size, env_chg h.bel hc (h.dj 0 7 rfl rfl (by omega))⟩
/-- The maps of classes and of values are changed. -/
theorem PkA.maps {cl' va' : Int → Option Value} {nc' nv' : Nat} (h : PkA w0 w p y s) (k1 : MpAt w' Try.prog 3 y.mc nc' cl') (k2 : MpAt w' Try.prog 3 y.mv nv' va') (hc : Chg (Or2 (One y.mc) (One y.mv)) w w') : PkA w0 w' p { y with nc := nc', nv := nv' } { s with cl := cl', va := va' } := by
  have d : ∀ i F, (pkFs w0 p y)[i]? = some F → i ≠ 3 → i ≠ 2 → Dj F (Or2 (One y.mc) (One y.mv)) := fun i F hi h4 h5 k hk hh => by
    rcases hh with hh | hh
    · exact h.dj i 3 hi rfl h4 k hk hh
    · exact h.dj i 2 hi rfl h5 k hk hh
  exact ⟨h.blk.chg hc (one_not (d 0 _ rfl (by omega) (by omega))), h.fa.chg hc (d 6 _ rfl (by omega) (by omega)), h.pr.chg hc (d 5 _ rfl (by omega) (by omega)), h.de.chg hc (d 4 _ rfl (by omega) (by omega)), k1, k2, h.mo.chg hc (one_not (d 1 _ rfl (by omega) (by omega))),
    h.sep.grow hc.size, env_chg h.bel hc (fun k hk hK => by
      rcases hk with hk | hk
      · exact h.dj 3 7 rfl rfl (by omega) k hk hK
      · exact h.dj 2 7 rfl rfl (by omega) k hk hK)⟩
/-- The map of who is off is changed. -/
theorem PkA.off {of' : Int → Option Value} {no' : Nat} (h : PkA w0 w p y s) (k1 : MpAt w' Try.prog 3 y.mo no' of') (hc : Chg (One y.mo) w w') : PkA w0 w' p { y with no := no' } { s with of := of' } :=
  ⟨h.blk.chg hc (one_not (h.dj 0 1 rfl rfl (by omega))), h.fa.chg hc (h.dj 6 1 rfl rfl (by omega)), h.pr.chg hc (h.dj 5 1 rfl rfl (by omega)), h.de.chg hc (h.dj 4 1 rfl rfl (by omega)), h.mc.chg hc (one_not (h.dj 3 1 rfl rfl (by omega))), h.mv.chg hc (one_not (h.dj 2 1 rfl rfl (by omega))), k1,
    h.sep.grow hc.size, env_chg h.bel hc (h.dj 1 7 rfl rfl (by omega))⟩
theorem PkA.cell (h : PkA w0 w p y s) (i : Nat) : w.cell? ⟨p, i, none⟩ = (pkCells y s)[i]? := h.blk.cell i
end
end Go.Proofs.Ytipmjfpoglkiaaa
