/-
  No cell of these rows narrows 'for every input' (looked for: loops, veiled, ifaces, maps, wideKeys, modest, calm, conditions, laid).
  DERIVED. THE GIVEN ROWS OF THIS SEAT. 7 by the template 'for every input the law returns true; each argument reads behind the call as it read before'; 0 by the template 'total and deterministic' (their statements: YtbkcjfeahaphgaaTotals.lean).
  GIVEN WITH THE SEED: the statements are not yours to turn. If you find one false, say at which input.
  Laid BY PROGRAM, IN A SANDBOX (cutbox-rows.mjs): the forced cells as the released guide's own fill.sh prints them over the translation c6dbd8b8281cdf85… (all of the seat's roots in one cut). By AI agents, Wed Nov 11 2026. No macro, syntax, notation, axiom, sorry.
-/
import Derived.Test.YtbkcjfeahaphgaaChecked
import GoSem.Claim
import GoSem.ClaimJoined
import GoSem.ClaimMapViews
import Derived.JoinedTies
import Derived.KernelRfl
namespace Go.Proofs.Ytbkcjfeahaphgaa
/- THE CELL 'sum', in the pinned program and in every row, IS THE sha256 OF THE DUMP (.gsa) THAT YtbkcjfeahaphgaaProg.lean LOADS. Nothing in Lean hashes anything: it is a label: what it is worth is what the hold of that sum in a sandbox is worth. -/
noncomputable def Try.pinned : Pinned := { name := "ytbkcjfeahaphgaa", sum := "c6dbd8b8281cdf85447945f782843e90e717d58b164b50412582b72bcdc7644f", checked := Try.checked }
namespace Rows
def none {H : Type} : Left H := { results := [], args := [] }

/-- 'ringkeep1.WrapTurns': WHATEVER THE INPUT: true; the input reads as it did. -/
def wrapTurnsSpec : ChangeSpec := { name := "wrapTurns", fn := fun _ => fun
  | [d1, d2, d3] => { results := [.lit (.bool true)], args := [d1, d2, d3] }
  | _ => none }
def wrapTurnsRow : OpenClaim := { program := "ytbkcjfeahaphgaa", sum := "c6dbd8b8281cdf85447945f782843e90e717d58b164b50412582b72bcdc7644f", func := "ringhall/ringkeep1.WrapTurns", spec := "wrapTurns", apart := false }
def WrapTurnsSaid : Prop := wrapTurnsRow.holds Try.pinned (OpenSpec.ofChange wrapTurnsSpec)

/-- ITS FALSE NEIGHBOUR: 'it returns false'. Refute it at one input. -/
def wrapTurnsWrong : ChangeSpec := { name := "wrapTurns", fn := fun _ => fun
  | [d1, d2, d3] => { results := [.lit (.bool false)], args := [d1, d2, d3] }
  | _ => none }
def WrapTurnsWrongFalsely : Prop := wrapTurnsRow.holds Try.pinned (OpenSpec.ofChange wrapTurnsWrong)

/-- 'ringkeep1.WrapOrder': WHATEVER THE INPUT: true; the input reads as it did. -/
def wrapOrderSpec : ChangeSpec := { name := "wrapOrder", fn := fun _ => fun
  | [d1, d2, d3] => { results := [.lit (.bool true)], args := [d1, d2, d3] }
  | _ => none }
def wrapOrderRow : OpenClaim := { program := "ytbkcjfeahaphgaa", sum := "c6dbd8b8281cdf85447945f782843e90e717d58b164b50412582b72bcdc7644f", func := "ringhall/ringkeep1.WrapOrder", spec := "wrapOrder", apart := false }
def WrapOrderSaid : Prop := wrapOrderRow.holds Try.pinned (OpenSpec.ofChange wrapOrderSpec)

/-- ITS FALSE NEIGHBOUR: 'it returns false'. Refute it at one input. -/
def wrapOrderWrong : ChangeSpec := { name := "wrapOrder", fn := fun _ => fun
  | [d1, d2, d3] => { results := [.lit (.bool false)], args := [d1, d2, d3] }
  | _ => none }
def WrapOrderWrongFalsely : Prop := wrapOrderRow.holds Try.pinned (OpenSpec.ofChange wrapOrderWrong)

/-- 'ringkeep1.VtimeAdds': WHATEVER THE INPUT: true; the input reads as it did. -/
def vtimeAddsSpec : ChangeSpec := { name := "vtimeAdds", fn := fun _ => fun
  | [d1, d2, d3, d4, d5] => { results := [.lit (.bool true)], args := [d1, d2, d3, d4, d5] }
  | _ => none }
def vtimeAddsRow : OpenClaim := { program := "ytbkcjfeahaphgaa", sum := "c6dbd8b8281cdf85447945f782843e90e717d58b164b50412582b72bcdc7644f", func := "ringhall/ringkeep1.VtimeAdds", spec := "vtimeAdds", apart := false }
def VtimeAddsSaid : Prop := vtimeAddsRow.holds Try.pinned (OpenSpec.ofChange vtimeAddsSpec)

/-- ITS FALSE NEIGHBOUR: 'it returns false'. Refute it at one input. -/
def vtimeAddsWrong : ChangeSpec := { name := "vtimeAdds", fn := fun _ => fun
  | [d1, d2, d3, d4, d5] => { results := [.lit (.bool false)], args := [d1, d2, d3, d4, d5] }
  | _ => none }
def VtimeAddsWrongFalsely : Prop := vtimeAddsRow.holds Try.pinned (OpenSpec.ofChange vtimeAddsWrong)

/-- 'ringkeep1.VtimeLags': WHATEVER THE INPUT: true; the input reads as it did. -/
def vtimeLagsSpec : ChangeSpec := { name := "vtimeLags", fn := fun _ => fun
  | [d1, d2, d3] => { results := [.lit (.bool true)], args := [d1, d2, d3] }
  | _ => none }
def vtimeLagsRow : OpenClaim := { program := "ytbkcjfeahaphgaa", sum := "c6dbd8b8281cdf85447945f782843e90e717d58b164b50412582b72bcdc7644f", func := "ringhall/ringkeep1.VtimeLags", spec := "vtimeLags", apart := false }
def VtimeLagsSaid : Prop := vtimeLagsRow.holds Try.pinned (OpenSpec.ofChange vtimeLagsSpec)

/-- ITS FALSE NEIGHBOUR: 'it returns false'. Refute it at one input. -/
def vtimeLagsWrong : ChangeSpec := { name := "vtimeLags", fn := fun _ => fun
  | [d1, d2, d3] => { results := [.lit (.bool false)], args := [d1, d2, d3] }
  | _ => none }
def VtimeLagsWrongFalsely : Prop := vtimeLagsRow.holds Try.pinned (OpenSpec.ofChange vtimeLagsWrong)

/-- 'ringkeep1.WrapLast': WHATEVER THE INPUT: true; the input reads as it did. -/
def wrapLastSpec : ChangeSpec := { name := "wrapLast", fn := fun _ => fun
  | [d1, d2, d3] => { results := [.lit (.bool true)], args := [d1, d2, d3] }
  | _ => none }
def wrapLastRow : OpenClaim := { program := "ytbkcjfeahaphgaa", sum := "c6dbd8b8281cdf85447945f782843e90e717d58b164b50412582b72bcdc7644f", func := "ringhall/ringkeep1.WrapLast", spec := "wrapLast", unfollowed := true, recurses := true, apart := false }
def WrapLastSaid : Prop := wrapLastRow.holds Try.pinned (OpenSpec.ofChange wrapLastSpec)

/-- ITS FALSE NEIGHBOUR: 'it returns false'. Refute it at one input. -/
def wrapLastWrong : ChangeSpec := { name := "wrapLast", fn := fun _ => fun
  | [d1, d2, d3] => { results := [.lit (.bool false)], args := [d1, d2, d3] }
  | _ => none }
def WrapLastWrongFalsely : Prop := wrapLastRow.holds Try.pinned (OpenSpec.ofChange wrapLastWrong)

/-- 'ringkeep1.WrapOwn': WHATEVER THE INPUT: true; the input reads as it did. -/
def wrapOwnSpec : ChangeSpec := { name := "wrapOwn", fn := fun _ => fun
  | [d1, d2] => { results := [.lit (.bool true)], args := [d1, d2] }
  | _ => none }
def wrapOwnRow : OpenClaim := { program := "ytbkcjfeahaphgaa", sum := "c6dbd8b8281cdf85447945f782843e90e717d58b164b50412582b72bcdc7644f", func := "ringhall/ringkeep1.WrapOwn", spec := "wrapOwn", apart := false }
def WrapOwnSaid : Prop := wrapOwnRow.holds Try.pinned (OpenSpec.ofChange wrapOwnSpec)

/-- ITS FALSE NEIGHBOUR: 'it returns false'. Refute it at one input. -/
def wrapOwnWrong : ChangeSpec := { name := "wrapOwn", fn := fun _ => fun
  | [d1, d2] => { results := [.lit (.bool false)], args := [d1, d2] }
  | _ => none }
def WrapOwnWrongFalsely : Prop := wrapOwnRow.holds Try.pinned (OpenSpec.ofChange wrapOwnWrong)

/-- 'ringkeep1.WrapRing': WHATEVER THE INPUT: true; the input reads as it did. -/
def wrapRingSpec : ChangeSpec := { name := "wrapRing", fn := fun _ => fun
  | [d1, d2, d3, d4] => { results := [.lit (.bool true)], args := [d1, d2, d3, d4] }
  | _ => none }
def wrapRingRow : OpenClaim := { program := "ytbkcjfeahaphgaa", sum := "c6dbd8b8281cdf85447945f782843e90e717d58b164b50412582b72bcdc7644f", func := "ringhall/ringkeep1.WrapRing", spec := "wrapRing", unfollowed := true, recurses := true, apart := false }
def WrapRingSaid : Prop := wrapRingRow.holds Try.pinned (OpenSpec.ofChange wrapRingSpec)

/-- ITS FALSE NEIGHBOUR: 'it returns false'. Refute it at one input. -/
def wrapRingWrong : ChangeSpec := { name := "wrapRing", fn := fun _ => fun
  | [d1, d2, d3, d4] => { results := [.lit (.bool false)], args := [d1, d2, d3, d4] }
  | _ => none }
def WrapRingWrongFalsely : Prop := wrapRingRow.holds Try.pinned (OpenSpec.ofChange wrapRingWrong)

/- THE SECOND FORM. 'bulk': how many values and letters a reading holds, each counted each time it is reached (what is shared counts as often as it is met; a slice's spare places count too). A statement '..UptoSaid' is the law's where the arguments, and the package variables that the reading takes, are together of bulk at most 1048576: NARROWER than '..Said'. Prove '..Said' where nothing that the law and all that it calls make is longer than what came in: it says more and counts as full. Else prove '..UptoSaid'. A law counts once. -/
mutual
def uptoBulk {H : Type} : DataW H → Nat
  | .lit (.string bytes) => bytes.length + 1
  | .lit _ => 1
  | .nil => 1
  | .ptr d => uptoBulk d + 1
  | .slice elems spare => uptoBulkAll elems + uptoBulkAll spare + 1
  | .agg parts => uptoBulkAll parts + 1
  | .iface _ d => uptoBulk d + 1
  | .map entries => uptoBulkEntries entries + 1
  | .held _ => 1
def uptoBulkAll {H : Type} : List (DataW H) → Nat
  | [] => 0
  | d :: r => uptoBulk d + uptoBulkAll r
def uptoBulkEntries {H : Type} : List (Lit × DataW H) → Nat
  | [] => 0
  | x :: r => uptoBulkEntry x + uptoBulkEntries r
def uptoBulkEntry {H : Type} : Lit × DataW H → Nat
  | (.string bytes, d) => bytes.length + uptoBulk d + 1
  | (_, d) => uptoBulk d + 1
 end
def uptoSmall : (H : Type) → List (DataW H) → Bool := fun _ ds => decide (uptoBulkAll ds ≤ 1048576)
def OpenSpec.upto (s : _root_.Go.ChangeSpec) : _root_.Go.OpenSpec := { _root_.Go.OpenSpec.ofChange s with cond := some uptoSmall }

/-- 'ringkeep1.WrapTurns', WHERE WHAT IT READS IS OF BULK AT MOST 1048576: true; the input reads as it did. -/
def wrapTurnsUptoRow : OpenClaim := { program := "ytbkcjfeahaphgaa", sum := "c6dbd8b8281cdf85447945f782843e90e717d58b164b50412582b72bcdc7644f", func := "ringhall/ringkeep1.WrapTurns", spec := "wrapTurns", apart := false, narrowed := true }
def WrapTurnsUptoSaid : Prop := wrapTurnsUptoRow.holds Try.pinned (OpenSpec.upto wrapTurnsSpec)

/-- 'ringkeep1.WrapOrder', WHERE WHAT IT READS IS OF BULK AT MOST 1048576: true; the input reads as it did. -/
def wrapOrderUptoRow : OpenClaim := { program := "ytbkcjfeahaphgaa", sum := "c6dbd8b8281cdf85447945f782843e90e717d58b164b50412582b72bcdc7644f", func := "ringhall/ringkeep1.WrapOrder", spec := "wrapOrder", apart := false, narrowed := true }
def WrapOrderUptoSaid : Prop := wrapOrderUptoRow.holds Try.pinned (OpenSpec.upto wrapOrderSpec)

/-- 'ringkeep1.VtimeAdds', WHERE WHAT IT READS IS OF BULK AT MOST 1048576: true; the input reads as it did. -/
def vtimeAddsUptoRow : OpenClaim := { program := "ytbkcjfeahaphgaa", sum := "c6dbd8b8281cdf85447945f782843e90e717d58b164b50412582b72bcdc7644f", func := "ringhall/ringkeep1.VtimeAdds", spec := "vtimeAdds", apart := false, narrowed := true }
def VtimeAddsUptoSaid : Prop := vtimeAddsUptoRow.holds Try.pinned (OpenSpec.upto vtimeAddsSpec)

/-- 'ringkeep1.VtimeLags', WHERE WHAT IT READS IS OF BULK AT MOST 1048576: true; the input reads as it did. -/
def vtimeLagsUptoRow : OpenClaim := { program := "ytbkcjfeahaphgaa", sum := "c6dbd8b8281cdf85447945f782843e90e717d58b164b50412582b72bcdc7644f", func := "ringhall/ringkeep1.VtimeLags", spec := "vtimeLags", apart := false, narrowed := true }
def VtimeLagsUptoSaid : Prop := vtimeLagsUptoRow.holds Try.pinned (OpenSpec.upto vtimeLagsSpec)

/-- 'ringkeep1.WrapLast', WHERE WHAT IT READS IS OF BULK AT MOST 1048576: true; the input reads as it did. -/
def wrapLastUptoRow : OpenClaim := { program := "ytbkcjfeahaphgaa", sum := "c6dbd8b8281cdf85447945f782843e90e717d58b164b50412582b72bcdc7644f", func := "ringhall/ringkeep1.WrapLast", spec := "wrapLast", unfollowed := true, recurses := true, apart := false, narrowed := true }
def WrapLastUptoSaid : Prop := wrapLastUptoRow.holds Try.pinned (OpenSpec.upto wrapLastSpec)

/-- 'ringkeep1.WrapOwn', WHERE WHAT IT READS IS OF BULK AT MOST 1048576: true; the input reads as it did. -/
def wrapOwnUptoRow : OpenClaim := { program := "ytbkcjfeahaphgaa", sum := "c6dbd8b8281cdf85447945f782843e90e717d58b164b50412582b72bcdc7644f", func := "ringhall/ringkeep1.WrapOwn", spec := "wrapOwn", apart := false, narrowed := true }
def WrapOwnUptoSaid : Prop := wrapOwnUptoRow.holds Try.pinned (OpenSpec.upto wrapOwnSpec)

/-- 'ringkeep1.WrapRing', WHERE WHAT IT READS IS OF BULK AT MOST 1048576: true; the input reads as it did. -/
def wrapRingUptoRow : OpenClaim := { program := "ytbkcjfeahaphgaa", sum := "c6dbd8b8281cdf85447945f782843e90e717d58b164b50412582b72bcdc7644f", func := "ringhall/ringkeep1.WrapRing", spec := "wrapRing", unfollowed := true, recurses := true, apart := false, narrowed := true }
def WrapRingUptoSaid : Prop := wrapRingUptoRow.holds Try.pinned (OpenSpec.upto wrapRingSpec)

end Rows
end Go.Proofs.Ytbkcjfeahaphgaa
