/-
  DERIVED. GIVEN WITH THE SEED: THE CARDS: each row of YtjllklddjkkddaaGreatDoorRows.lean that lists a variable, with what it lists TIED to the program's text (the seventh form; the later family's looks); each row that meets fmt, with fmt's text TOLD by the authors' own Lean function (tested against real Go, not proved from fmt's source: count such statements apart). THE CARD IS WHAT COUNTS. Prove the row's statement (the work); the ties are given (YtjllklddjkkddaaGreatDoorTie.lean); close each card by the builder's one call (the guide's Derived/Test/ToyasCard.lean, 'card_holds'). Laid BY PROGRAM, IN A SANDBOX (cutbox-door.mjs). By AI agents, Wed Nov 11 2026. No macro, syntax, notation, axiom, sorry.
-/
import Derived.Test.YtjllklddjkkddaaGreatDoorRows
import GoSem.ClaimSeven
namespace Go.Proofs.YtjllklddjkkddaaGreatDoor
namespace Rows

/-- THE TIED CARD OF 'ringtop.TopFlows'. -/
def topFlowsCard : Claim7 := { stood := { row := topFlowsRow, standIns := [], harness := (true, "6322fe2972a6bfa15e95d55a66865876e036db79ed859551659ac0430034ebfa"), looks := false }, kinds := [], alts := [], laidByText := true, laidKinds := [.data, .pinned], laidTests := true, laidLooks := .later }
def TopFlowsCardSaid : Prop := Claim7.holds Tryz.pinned (.plain (OpenSpec.ofChange topFlowsSpec)) topFlowsCard

/-- THE SECOND FORM's CARD OF 'ringtop.TopFlows'. -/
def topFlowsUptoCard : Claim7 := { stood := { row := topFlowsUptoRow, standIns := [], harness := (true, "6322fe2972a6bfa15e95d55a66865876e036db79ed859551659ac0430034ebfa"), looks := false }, kinds := [], alts := [], laidByText := true, laidKinds := [.data, .pinned], laidTests := true, laidLooks := .later }
def TopFlowsUptoCardSaid : Prop := Claim7.holds Tryz.pinned (.plain (OpenSpec.upto topFlowsSpec)) topFlowsUptoCard
end Rows
end Go.Proofs.YtjllklddjkkddaaGreatDoor
