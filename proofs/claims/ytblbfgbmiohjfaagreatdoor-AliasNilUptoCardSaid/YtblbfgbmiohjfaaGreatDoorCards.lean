/-
  DERIVED. GIVEN WITH THE SEED: THE CARDS: each row of YtblbfgbmiohjfaaGreatDoorRows.lean that lists a variable, with what it lists TIED to the program's text (the seventh form; the later family's looks); each row that meets fmt, with fmt's text TOLD by the authors' own Lean function (tested against real Go, not proved from fmt's source: count such statements apart). THE CARD IS WHAT COUNTS. Prove the row's statement (the work); the ties are given (YtblbfgbmiohjfaaGreatDoorTie.lean); close each card by the builder's one call (the guide's Derived/Test/ToyasCard.lean, 'card_holds'). Laid BY PROGRAM, IN A SANDBOX (cutbox-door.mjs). By AI agents, Wed Nov 11 2026. No macro, syntax, notation, axiom, sorry.
-/
import Derived.Test.YtblbfgbmiohjfaaGreatDoorRows
import GoSem.ClaimSeven
namespace Go.Proofs.YtblbfgbmiohjfaaGreatDoor
namespace Rows

/-- THE TIED CARD OF 'posthornlaw19.AliasNil'. -/
def aliasNilCard : Claim7 := { stood := { row := aliasNilRow, standIns := [], harness := (true, "b0833557d3a42392dbade02464f3a86cefa62eb2e7a1eca4b9762b2fc91809f8"), looks := false }, kinds := [], alts := [], laidByText := true, laidKinds := [.data, .data, .data, .data, .data, .pinned], laidTests := true, laidLooks := .later }
def AliasNilCardSaid : Prop := Claim7.holds Tryz.pinned (.plain (OpenSpec.ofChange aliasNilSpec)) aliasNilCard

/-- THE SECOND FORM's CARD OF 'posthornlaw19.AliasNil'. -/
def aliasNilUptoCard : Claim7 := { stood := { row := aliasNilUptoRow, standIns := [], harness := (true, "b0833557d3a42392dbade02464f3a86cefa62eb2e7a1eca4b9762b2fc91809f8"), looks := false }, kinds := [], alts := [], laidByText := true, laidKinds := [.data, .data, .data, .data, .data, .pinned], laidTests := true, laidLooks := .later }
def AliasNilUptoCardSaid : Prop := Claim7.holds Tryz.pinned (.plain (OpenSpec.upto aliasNilSpec)) aliasNilUptoCard
end Rows
end Go.Proofs.YtblbfgbmiohjfaaGreatDoor
