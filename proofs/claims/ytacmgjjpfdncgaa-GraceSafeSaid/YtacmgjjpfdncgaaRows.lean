/-
  No cell of these rows narrows 'for every input' (looked for: loops, veiled, ifaces, maps, wideKeys, modest, calm, conditions, laid).
  DERIVED. THE GIVEN ROWS OF THIS SEAT. 8 by the template 'for every input the law returns true; each argument reads behind the call as it read before'; 0 by the template 'total and deterministic' (their statements: YtacmgjjpfdncgaaTotals.lean).
  GIVEN WITH THE SEED: the statements are not yours to turn. If you find one false, say at which input.
  Laid BY PROGRAM, IN A SANDBOX (cutbox-rows.mjs): the forced cells as the released guide's own fill.sh prints them over the translation 3e4ffe1d6d73045a… (all of the seat's roots in one cut). By AI agents, Wed Nov 11 2026. No macro, syntax, notation, axiom, sorry.
-/
import Derived.Test.YtacmgjjpfdncgaaChecked
import GoSem.Claim
import GoSem.ClaimJoined
import GoSem.ClaimMapViews
import Derived.JoinedTies
import Derived.KernelRfl
namespace Go.Proofs.Ytacmgjjpfdncgaa
/- THE CELL 'sum', in the pinned program and in every row, IS THE sha256 OF THE DUMP (.gsa) THAT YtacmgjjpfdncgaaProg.lean LOADS. Nothing in Lean hashes anything: it is a label: what it is worth is what the hold of that sum in a sandbox is worth. -/
noncomputable def Try.pinned : Pinned := { name := "ytacmgjjpfdncgaa", sum := "3e4ffe1d6d73045ae2605f157d9eaca5f07532b1381554fd359453ef2c514e10", checked := Try.checked }
namespace Rows
def none {H : Type} : Left H := { results := [], args := [] }

/-- 'ringkeep1.SpinTurns': WHATEVER THE INPUT: true; the input reads as it did. -/
def spinTurnsSpec : ChangeSpec := { name := "spinTurns", fn := fun _ => fun
  | [d1, d2, d3] => { results := [.lit (.bool true)], args := [d1, d2, d3] }
  | _ => none }
def spinTurnsRow : OpenClaim := { program := "ytacmgjjpfdncgaa", sum := "3e4ffe1d6d73045ae2605f157d9eaca5f07532b1381554fd359453ef2c514e10", func := "ringhall/ringkeep1.SpinTurns", spec := "spinTurns", apart := false }
def SpinTurnsSaid : Prop := spinTurnsRow.holds Try.pinned (OpenSpec.ofChange spinTurnsSpec)

/-- ITS FALSE NEIGHBOUR: 'it returns false'. Refute it at one input. -/
def spinTurnsWrong : ChangeSpec := { name := "spinTurns", fn := fun _ => fun
  | [d1, d2, d3] => { results := [.lit (.bool false)], args := [d1, d2, d3] }
  | _ => none }
def SpinTurnsWrongFalsely : Prop := spinTurnsRow.holds Try.pinned (OpenSpec.ofChange spinTurnsWrong)

/-- 'ringkeep1.SpinNests': WHATEVER THE INPUT: true; the input reads as it did. -/
def spinNestsSpec : ChangeSpec := { name := "spinNests", fn := fun _ => fun
  | [d1, d2] => { results := [.lit (.bool true)], args := [d1, d2] }
  | _ => none }
def spinNestsRow : OpenClaim := { program := "ytacmgjjpfdncgaa", sum := "3e4ffe1d6d73045ae2605f157d9eaca5f07532b1381554fd359453ef2c514e10", func := "ringhall/ringkeep1.SpinNests", spec := "spinNests", apart := false }
def SpinNestsSaid : Prop := spinNestsRow.holds Try.pinned (OpenSpec.ofChange spinNestsSpec)

/-- ITS FALSE NEIGHBOUR: 'it returns false'. Refute it at one input. -/
def spinNestsWrong : ChangeSpec := { name := "spinNests", fn := fun _ => fun
  | [d1, d2] => { results := [.lit (.bool false)], args := [d1, d2] }
  | _ => none }
def SpinNestsWrongFalsely : Prop := spinNestsRow.holds Try.pinned (OpenSpec.ofChange spinNestsWrong)

/-- 'ringkeep1.SpinOne': WHATEVER THE INPUT: true; the input reads as it did. -/
def spinOneSpec : ChangeSpec := { name := "spinOne", fn := fun _ => fun
  | [d1, d2] => { results := [.lit (.bool true)], args := [d1, d2] }
  | _ => none }
def spinOneRow : OpenClaim := { program := "ytacmgjjpfdncgaa", sum := "3e4ffe1d6d73045ae2605f157d9eaca5f07532b1381554fd359453ef2c514e10", func := "ringhall/ringkeep1.SpinOne", spec := "spinOne", apart := false }
def SpinOneSaid : Prop := spinOneRow.holds Try.pinned (OpenSpec.ofChange spinOneSpec)

/-- ITS FALSE NEIGHBOUR: 'it returns false'. Refute it at one input. -/
def spinOneWrong : ChangeSpec := { name := "spinOne", fn := fun _ => fun
  | [d1, d2] => { results := [.lit (.bool false)], args := [d1, d2] }
  | _ => none }
def SpinOneWrongFalsely : Prop := spinOneRow.holds Try.pinned (OpenSpec.ofChange spinOneWrong)

/-- 'ringkeep1.SemCounts': WHATEVER THE INPUT: true; the input reads as it did. -/
def semCountsSpec : ChangeSpec := { name := "semCounts", fn := fun _ => fun
  | [d1, d2] => { results := [.lit (.bool true)], args := [d1, d2] }
  | _ => none }
def semCountsRow : OpenClaim := { program := "ytacmgjjpfdncgaa", sum := "3e4ffe1d6d73045ae2605f157d9eaca5f07532b1381554fd359453ef2c514e10", func := "ringhall/ringkeep1.SemCounts", spec := "semCounts", apart := false }
def SemCountsSaid : Prop := semCountsRow.holds Try.pinned (OpenSpec.ofChange semCountsSpec)

/-- ITS FALSE NEIGHBOUR: 'it returns false'. Refute it at one input. -/
def semCountsWrong : ChangeSpec := { name := "semCounts", fn := fun _ => fun
  | [d1, d2] => { results := [.lit (.bool false)], args := [d1, d2] }
  | _ => none }
def SemCountsWrongFalsely : Prop := semCountsRow.holds Try.pinned (OpenSpec.ofChange semCountsWrong)

/-- 'ringkeep1.SemAlone': WHATEVER THE INPUT: true; the input reads as it did. -/
def semAloneSpec : ChangeSpec := { name := "semAlone", fn := fun _ => fun
  | [d] => { results := [.lit (.bool true)], args := [d] }
  | _ => none }
def semAloneRow : OpenClaim := { program := "ytacmgjjpfdncgaa", sum := "3e4ffe1d6d73045ae2605f157d9eaca5f07532b1381554fd359453ef2c514e10", func := "ringhall/ringkeep1.SemAlone", spec := "semAlone", apart := false }
def SemAloneSaid : Prop := semAloneRow.holds Try.pinned (OpenSpec.ofChange semAloneSpec)

/-- ITS FALSE NEIGHBOUR: 'it returns false'. Refute it at one input. -/
def semAloneWrong : ChangeSpec := { name := "semAlone", fn := fun _ => fun
  | [d] => { results := [.lit (.bool false)], args := [d] }
  | _ => none }
def SemAloneWrongFalsely : Prop := semAloneRow.holds Try.pinned (OpenSpec.ofChange semAloneWrong)

/-- 'ringkeep1.GraceNests': WHATEVER THE INPUT: true; the input reads as it did. -/
def graceNestsSpec : ChangeSpec := { name := "graceNests", fn := fun _ => fun
  | [d1, d2, d3] => { results := [.lit (.bool true)], args := [d1, d2, d3] }
  | _ => none }
def graceNestsRow : OpenClaim := { program := "ytacmgjjpfdncgaa", sum := "3e4ffe1d6d73045ae2605f157d9eaca5f07532b1381554fd359453ef2c514e10", func := "ringhall/ringkeep1.GraceNests", spec := "graceNests", unfollowed := true, recurses := true, apart := false }
def GraceNestsSaid : Prop := graceNestsRow.holds Try.pinned (OpenSpec.ofChange graceNestsSpec)

/-- ITS FALSE NEIGHBOUR: 'it returns false'. Refute it at one input. -/
def graceNestsWrong : ChangeSpec := { name := "graceNests", fn := fun _ => fun
  | [d1, d2, d3] => { results := [.lit (.bool false)], args := [d1, d2, d3] }
  | _ => none }
def GraceNestsWrongFalsely : Prop := graceNestsRow.holds Try.pinned (OpenSpec.ofChange graceNestsWrong)

/-- 'ringkeep1.GraceSafe': WHATEVER THE INPUT: true; the input reads as it did. -/
def graceSafeSpec : ChangeSpec := { name := "graceSafe", fn := fun _ => fun
  | [d] => { results := [.lit (.bool true)], args := [d] }
  | _ => none }
def graceSafeRow : OpenClaim := { program := "ytacmgjjpfdncgaa", sum := "3e4ffe1d6d73045ae2605f157d9eaca5f07532b1381554fd359453ef2c514e10", func := "ringhall/ringkeep1.GraceSafe", spec := "graceSafe", unfollowed := true, recurses := true, apart := false }
def GraceSafeSaid : Prop := graceSafeRow.holds Try.pinned (OpenSpec.ofChange graceSafeSpec)

/-- ITS FALSE NEIGHBOUR: 'it returns false'. Refute it at one input. -/
def graceSafeWrong : ChangeSpec := { name := "graceSafe", fn := fun _ => fun
  | [d] => { results := [.lit (.bool false)], args := [d] }
  | _ => none }
def GraceSafeWrongFalsely : Prop := graceSafeRow.holds Try.pinned (OpenSpec.ofChange graceSafeWrong)

/-- 'ringkeep1.GraceOrder': WHATEVER THE INPUT: true; the input reads as it did. -/
def graceOrderSpec : ChangeSpec := { name := "graceOrder", fn := fun _ => fun
  | [d] => { results := [.lit (.bool true)], args := [d] }
  | _ => none }
def graceOrderRow : OpenClaim := { program := "ytacmgjjpfdncgaa", sum := "3e4ffe1d6d73045ae2605f157d9eaca5f07532b1381554fd359453ef2c514e10", func := "ringhall/ringkeep1.GraceOrder", spec := "graceOrder", unfollowed := true, recurses := true, apart := false }
def GraceOrderSaid : Prop := graceOrderRow.holds Try.pinned (OpenSpec.ofChange graceOrderSpec)

/-- ITS FALSE NEIGHBOUR: 'it returns false'. Refute it at one input. -/
def graceOrderWrong : ChangeSpec := { name := "graceOrder", fn := fun _ => fun
  | [d] => { results := [.lit (.bool false)], args := [d] }
  | _ => none }
def GraceOrderWrongFalsely : Prop := graceOrderRow.holds Try.pinned (OpenSpec.ofChange graceOrderWrong)

/- THE SECOND FORM. 'bulk': how many values and letters a reading holds, each counted each time it is reached (what is shared counts as often as it is met; a slice's spare places count too). A statement '..UptoSaid' is the law's where the arguments, and the package variables that the reading takes, are together of bulk at most 1048576: NARROWER than '..Said'. Prove '..Said' where nothing that the law and all that it calls make is longer than what came in: it says more and counts as full. Else prove '..UptoSaid'. A law counts once. -/
mutual
def uptoBulk {H : Type} : DataW H → Nat
  | .lit (.string bytes) => bytes.length + 1
  | .lit _ => 1
  | .nil => 1
  | .ptr d => uptoBulk d + 1
  | .slice elems spare => uptoBulkAll elems + uptoBulkAll spare + 1
  | .agg parts => uptoBulkAll parts + 1
  | .iface _ d => uptoBulk d + 1
  | .map entries => uptoBulkEntries entries + 1
  | .held _ => 1
def uptoBulkAll {H : Type} : List (DataW H) → Nat
  | [] => 0
  | d :: r => uptoBulk d + uptoBulkAll r
def uptoBulkEntries {H : Type} : List (Lit × DataW H) → Nat
  | [] => 0
  | x :: r => uptoBulkEntry x + uptoBulkEntries r
def uptoBulkEntry {H : Type} : Lit × DataW H → Nat
  | (.string bytes, d) => bytes.length + uptoBulk d + 1
  | (_, d) => uptoBulk d + 1
 end
def uptoSmall : (H : Type) → List (DataW H) → Bool := fun _ ds => decide (uptoBulkAll ds ≤ 1048576)
def OpenSpec.upto (s : _root_.Go.ChangeSpec) : _root_.Go.OpenSpec := { _root_.Go.OpenSpec.ofChange s with cond := some uptoSmall }

/-- 'ringkeep1.SpinTurns', WHERE WHAT IT READS IS OF BULK AT MOST 1048576: true; the input reads as it did. -/
def spinTurnsUptoRow : OpenClaim := { program := "ytacmgjjpfdncgaa", sum := "3e4ffe1d6d73045ae2605f157d9eaca5f07532b1381554fd359453ef2c514e10", func := "ringhall/ringkeep1.SpinTurns", spec := "spinTurns", apart := false, narrowed := true }
def SpinTurnsUptoSaid : Prop := spinTurnsUptoRow.holds Try.pinned (OpenSpec.upto spinTurnsSpec)

/-- 'ringkeep1.SpinNests', WHERE WHAT IT READS IS OF BULK AT MOST 1048576: true; the input reads as it did. -/
def spinNestsUptoRow : OpenClaim := { program := "ytacmgjjpfdncgaa", sum := "3e4ffe1d6d73045ae2605f157d9eaca5f07532b1381554fd359453ef2c514e10", func := "ringhall/ringkeep1.SpinNests", spec := "spinNests", apart := false, narrowed := true }
def SpinNestsUptoSaid : Prop := spinNestsUptoRow.holds Try.pinned (OpenSpec.upto spinNestsSpec)

/-- 'ringkeep1.SpinOne', WHERE WHAT IT READS IS OF BULK AT MOST 1048576: true; the input reads as it did. -/
def spinOneUptoRow : OpenClaim := { program := "ytacmgjjpfdncgaa", sum := "3e4ffe1d6d73045ae2605f157d9eaca5f07532b1381554fd359453ef2c514e10", func := "ringhall/ringkeep1.SpinOne", spec := "spinOne", apart := false, narrowed := true }
def SpinOneUptoSaid : Prop := spinOneUptoRow.holds Try.pinned (OpenSpec.upto spinOneSpec)

/-- 'ringkeep1.SemCounts', WHERE WHAT IT READS IS OF BULK AT MOST 1048576: true; the input reads as it did. -/
def semCountsUptoRow : OpenClaim := { program := "ytacmgjjpfdncgaa", sum := "3e4ffe1d6d73045ae2605f157d9eaca5f07532b1381554fd359453ef2c514e10", func := "ringhall/ringkeep1.SemCounts", spec := "semCounts", apart := false, narrowed := true }
def SemCountsUptoSaid : Prop := semCountsUptoRow.holds Try.pinned (OpenSpec.upto semCountsSpec)

/-- 'ringkeep1.SemAlone', WHERE WHAT IT READS IS OF BULK AT MOST 1048576: true; the input reads as it did. -/
def semAloneUptoRow : OpenClaim := { program := "ytacmgjjpfdncgaa", sum := "3e4ffe1d6d73045ae2605f157d9eaca5f07532b1381554fd359453ef2c514e10", func := "ringhall/ringkeep1.SemAlone", spec := "semAlone", apart := false, narrowed := true }
def SemAloneUptoSaid : Prop := semAloneUptoRow.holds Try.pinned (OpenSpec.upto semAloneSpec)

/-- 'ringkeep1.GraceNests', WHERE WHAT IT READS IS OF BULK AT MOST 1048576: true; the input reads as it did. -/
def graceNestsUptoRow : OpenClaim := { program := "ytacmgjjpfdncgaa", sum := "3e4ffe1d6d73045ae2605f157d9eaca5f07532b1381554fd359453ef2c514e10", func := "ringhall/ringkeep1.GraceNests", spec := "graceNests", unfollowed := true, recurses := true, apart := false, narrowed := true }
def GraceNestsUptoSaid : Prop := graceNestsUptoRow.holds Try.pinned (OpenSpec.upto graceNestsSpec)

/-- 'ringkeep1.GraceSafe', WHERE WHAT IT READS IS OF BULK AT MOST 1048576: true; the input reads as it did. -/
def graceSafeUptoRow : OpenClaim := { program := "ytacmgjjpfdncgaa", sum := "3e4ffe1d6d73045ae2605f157d9eaca5f07532b1381554fd359453ef2c514e10", func := "ringhall/ringkeep1.GraceSafe", spec := "graceSafe", unfollowed := true, recurses := true, apart := false, narrowed := true }
def GraceSafeUptoSaid : Prop := graceSafeUptoRow.holds Try.pinned (OpenSpec.upto graceSafeSpec)

/-- 'ringkeep1.GraceOrder', WHERE WHAT IT READS IS OF BULK AT MOST 1048576: true; the input reads as it did. -/
def graceOrderUptoRow : OpenClaim := { program := "ytacmgjjpfdncgaa", sum := "3e4ffe1d6d73045ae2605f157d9eaca5f07532b1381554fd359453ef2c514e10", func := "ringhall/ringkeep1.GraceOrder", spec := "graceOrder", unfollowed := true, recurses := true, apart := false, narrowed := true }
def GraceOrderUptoSaid : Prop := graceOrderUptoRow.holds Try.pinned (OpenSpec.upto graceOrderSpec)

end Rows
end Go.Proofs.Ytacmgjjpfdncgaa
