/-
  DERIVED. GIVEN WITH THE SEED: THE CARDS: each row of YtdcbagmgflcemaaGreatDoorRows.lean that lists a variable, with what it lists TIED to the program's text (the seventh form; the later family's looks); each row that meets fmt, with fmt's text TOLD by the authors' own Lean function (tested against real Go, not proved from fmt's source: count such statements apart). THE CARD IS WHAT COUNTS. Prove the row's statement (the work); the ties are given (YtdcbagmgflcemaaGreatDoorTie.lean); close each card by the builder's one call (the guide's Derived/Test/ToyasCard.lean, 'card_holds'). Laid BY PROGRAM, IN A SANDBOX (cutbox-door.mjs). By AI agents, Wed Nov 11 2026. No macro, syntax, notation, axiom, sorry.
-/
import Derived.Test.YtdcbagmgflcemaaGreatDoorRows
import GoSem.ClaimSeven
namespace Go.Proofs.YtdcbagmgflcemaaGreatDoor
namespace Rows

/-- THE TIED CARD OF 'ringtop.TopMounts'. -/
def topMountsCard : Claim7 := { stood := { row := topMountsRow, standIns := [], harness := (true, "7342fb0baf8574868157d5f919824d513074c1742d9a392e6df4ecd401c1ef62"), looks := false }, kinds := [], alts := [], laidByText := true, laidKinds := [.data, .pinned], laidTests := true, laidLooks := .later }
def TopMountsCardSaid : Prop := Claim7.holds Tryz.pinned (.plain (OpenSpec.ofChange topMountsSpec)) topMountsCard

/-- THE SECOND FORM's CARD OF 'ringtop.TopMounts'. -/
def topMountsUptoCard : Claim7 := { stood := { row := topMountsUptoRow, standIns := [], harness := (true, "7342fb0baf8574868157d5f919824d513074c1742d9a392e6df4ecd401c1ef62"), looks := false }, kinds := [], alts := [], laidByText := true, laidKinds := [.data, .pinned], laidTests := true, laidLooks := .later }
def TopMountsUptoCardSaid : Prop := Claim7.holds Tryz.pinned (.plain (OpenSpec.upto topMountsSpec)) topMountsUptoCard
end Rows
end Go.Proofs.YtdcbagmgflcemaaGreatDoor
