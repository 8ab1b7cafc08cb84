/- What the walk is told of a list of flows that came in. No program is walked here; no condition. -/
import Derived.Test.YtjllklddjkkddaaGreatDoorZ03
import Derived.Test.YtjllklddjkkddaaGreatDoorZ02
import Derived.Deep.Slices
import Derived.ChangeSame
namespace Go.Proofs.YtjllklddjkkddaaGreatDoor
open Go.ChangeShapes Go.WideShapes Go.ChangeAt Go.RowKit
open Go.Deep (open_slice add_add choose_lt)
set_option linter.unusedVariables false
/-- One flow: it reads, or not; how much; some bytes. -/
structure Fw where
  rd : Bool
  n : Int
  a : Option Addr
  l : Nat
  c : Nat
  zs : List Int
instance : Inhabited Fw := ⟨⟨false, 0, none, 0, 0, []⟩⟩
def flowC (x : Fw) : List Value := [.bool x.rd, .int .i64 x.n, .slice x.a x.l x.c]
theorem flowC_len (x : Fw) : (flowC x).length = 3 := rfl
def IsFlows (w : World) (a : Option Addr) (len cap : Nat) (fs : List Fw) : Prop :=
  Rd w (Upto w.heap.size) 3 a len cap (fs.flatMap flowC) ∧ fs.length = len ∧ ∀ x ∈ fs, (Lit.int .i64 x.n).wf = true ∧ IsRow .u8 w x.a x.l x.c x.zs
theorem isFlows_of {P : Program} {H : Type} {enc : TypeId × Value → H} {w : World} {t e q u : TypeId} {f0 f1 f2 : Field} {fuel : Nat} {cs : List Value} {x : DataW H × List MemPlace}
    (ht : P.underlying t = some (.slice e)) (he : P.underlying e = some (.struct #[f0, f1, f2])) (ce : P.cellsOf e = 3) (o0 : f0.offset = 0) (o1 : f1.offset = 1) (o2 : f2.offset = 2)
    (c0 : P.cellsOf f0.type = 1) (c1 : P.cellsOf f1.type = 1) (c2 : P.cellsOf f2.type = 1) (t0 : P.underlying f0.type = some .bool) (t1 : P.underlying f1.type = some (.int .i64)) (t2 : P.underlying f2.type = some (.slice u)) (tu : P.underlying u = some (.int .u8)) (cu : P.cellsOf u = 1)
    (h : DataW.trod enc P w 0 (fun _ => true) true fuel t cs = some x) : ∃ a len cap fs, cs = [.slice a len cap] ∧ IsFlows w a len cap fs := by
  rcases open_slice ht h with ⟨rfl, _⟩ | ⟨a, len, cap, m, n, D, Pl, rfl, hb, hl, hm, hmm, rfl, hx⟩
  · exact ⟨none, 0, 0, [], rfl, Rd.of_none _ _ _ _ _ (Nat.zero_le _), rfl, fun _ h => by cases h⟩
  have hlm : len ≤ m := by rw [hmm]; split <;> omega
  have each : ∀ i, i < len → ∃ f : Fw, w.cell? (a.add (i * 3)) = some (.bool f.rd) ∧ w.cell? (a.add (i * 3 + 1)) = some (.int .i64 f.n) ∧ w.cell? (a.add (i * 3 + 2)) = some (.slice f.a f.l f.c) ∧ (Lit.int .i64 f.n).wf = true ∧ IsRow .u8 w f.a f.l f.c f.zs := by
    intro i hi
    obtain ⟨cs', h1, h2⟩ := hx i (by omega)
    rw [ce] at h1
    obtain ⟨_, hlen, hcell⟩ := World.cells?_some h1
    obtain ⟨xs, k, hk, hxy, _, hxl, hf⟩ := DataW.trod_struct he h2
    match xs, hxl, cs', hlen with
    | [y0, y1, y2], _, [v0, v1, v2], _ =>
      have g0 := hf 0 f0 rfl
      have g1 := hf 1 f1 rfl
      have g2 := hf 2 f2 rfl
      simp [o0, o1, o2, c0, c1, c2] at g0 g1 g2
      have e0 := hcell 0 (by omega)
      have e1 := hcell 1 (by omega)
      have e2 := hcell 2 (by omega)
      rw [add_add] at e0 e1 e2
      simp at e0 e1 e2
      obtain ⟨b, hb0, _⟩ := DataW.trod_bool t0 g0
      obtain ⟨k1, hn1, _, hwf⟩ := DataW.trod_int t1 g1
      simp at hb0 hn1
      subst hb0 hn1
      rcases open_ints t2 tu cu g2 with ⟨hcs, _⟩ | ⟨x', l', c', zs, hcs, _, hl', hm', hz, _, hcell', hwz⟩
      · simp at hcs
        subst hcs
        obtain ⟨zs, hzs⟩ := isRow_nil .u8 w
        exact ⟨⟨b, k1, none, 0, 0, zs⟩, e0, e1, e2, by simpa using hwf, hzs⟩
      · simp at hcs
        subst hcs
        obtain ⟨zs', hzs⟩ := isRow_mk hl' hm' (by simpa using hz) hcell' hwz
        exact ⟨⟨b, k1, some x', l', c', zs'⟩, e0, e1, e2, by simpa using hwf, hzs⟩
  obtain ⟨f, hf⟩ := choose_lt each
  refine ⟨some a, len, cap, (List.range len).map f, rfl, ⟨hl, hm, by rw [flat_len flowC 3 flowC_len]; simp, fun hn => ?_⟩, by simp, fun y hy => ?_⟩
  · have h0 := (hf 0 hn).1
    rw [show a.add (0 * 3) = a by simp [Addr.add]] at h0
    have hx0 := addr_off h0
    refine ⟨a.block, a.off, by rw [← hx0], (lt_of_cell h0).1, (lt_of_cell h0).1, fun j hj => ?_⟩
    have hj3 : j = j / 3 * 3 + j % 3 := by omega
    have hjl : j / 3 < len := by omega
    have hg := flat_get flowC 3 flowC_len ((List.range len).map f) (j / 3) (j % 3) (by simpa using hjl) (by omega)
    rw [← hj3] at hg
    rw [hg]
    obtain ⟨r0, r1, r2, _⟩ := hf (j / 3) hjl
    rw [hx0, add_off] at r0 r1 r2
    simp only [List.getElem_map, List.getElem_range]
    have h3 : j % 3 = 0 ∨ j % 3 = 1 ∨ j % 3 = 2 := by omega
    rcases h3 with h3 | h3 | h3
    · rw [show a.off + j = a.off + j / 3 * 3 by omega, h3, r0]; rfl
    · rw [show a.off + j = a.off + (j / 3 * 3 + 1) by omega, h3, r1]; rfl
    · rw [show a.off + j = a.off + (j / 3 * 3 + 2) by omega, h3, r2]; rfl
  · obtain ⟨i, hi, rfl⟩ := List.mem_map.1 hy
    exact (hf i (by simpa using hi)).2.2.2
end Go.Proofs.YtjllklddjkkddaaGreatDoor
