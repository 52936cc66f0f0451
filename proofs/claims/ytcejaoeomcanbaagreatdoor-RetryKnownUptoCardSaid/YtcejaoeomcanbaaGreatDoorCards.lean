/-
  DERIVED. GIVEN WITH THE SEED: THE CARDS: each row of YtcejaoeomcanbaaGreatDoorRows.lean that lists a variable, with what it lists TIED to the program's text (the seventh form; the later family's looks); each row that meets fmt, with fmt's text TOLD by the authors' own Lean function (tested against real Go, not proved from fmt's source: count such statements apart). THE CARD IS WHAT COUNTS. Prove the row's statement (the work); the ties are given (YtcejaoeomcanbaaGreatDoorTie.lean); close each card by the builder's one call (the guide's Derived/Test/ToyasCard.lean, 'card_holds'). Laid BY PROGRAM, IN A SANDBOX (cutbox-door.mjs). By AI agents, Wed Nov 11 2026. No macro, syntax, notation, axiom, sorry.
-/
import Derived.Test.YtcejaoeomcanbaaGreatDoorRows
import GoSem.ClaimSeven
namespace Go.Proofs.YtcejaoeomcanbaaGreatDoor
namespace Rows

/-- THE TIED CARD OF 'posthornlaw29.RetryKnown'. -/
def retryKnownCard : Claim7 := { stood := { row := retryKnownRow, standIns := [], harness := (true, "de39610d9f48617e0ae3f663b826b08667af91759dca4a1559cf4c66a04dc006"), looks := false }, kinds := [], alts := [], laidByText := true, laidKinds := [.data, .data, .pinned], laidTests := true, laidLooks := .later }
def RetryKnownCardSaid : Prop := Claim7.holds Tryz.pinned (.plain (OpenSpec.ofChange retryKnownSpec)) retryKnownCard

/-- THE SECOND FORM's CARD OF 'posthornlaw29.RetryKnown'. -/
def retryKnownUptoCard : Claim7 := { stood := { row := retryKnownUptoRow, standIns := [], harness := (true, "de39610d9f48617e0ae3f663b826b08667af91759dca4a1559cf4c66a04dc006"), looks := false }, kinds := [], alts := [], laidByText := true, laidKinds := [.data, .data, .pinned], laidTests := true, laidLooks := .later }
def RetryKnownUptoCardSaid : Prop := Claim7.holds Tryz.pinned (.plain (OpenSpec.upto retryKnownSpec)) retryKnownUptoCard
end Rows
end Go.Proofs.YtcejaoeomcanbaaGreatDoor
