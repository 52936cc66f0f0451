/-
  DERIVED. GIVEN WITH THE SEED: THE CARDS: each row of YtjomofcdanpdgabGreatDoorRows.lean that lists a variable, with what it lists TIED to the program's text (the seventh form; the later family's looks); each row that meets fmt, with fmt's text TOLD by the authors' own Lean function (tested against real Go, not proved from fmt's source: count such statements apart). THE CARD IS WHAT COUNTS. Prove the row's statement (the work); the ties are given (YtjomofcdanpdgabGreatDoorTie.lean); close each card by the builder's one call (the guide's Derived/Test/ToyasCard.lean, 'card_holds'). Laid BY PROGRAM, IN A SANDBOX (cutbox-door.mjs). By AI agents, Wed Nov 11 2026. No macro, syntax, notation, axiom, sorry.
-/
import Derived.Test.YtjomofcdanpdgabGreatDoorRows
import GoSem.ClaimSeven
namespace Go.Proofs.YtjomofcdanpdgabGreatDoor
namespace Rows

/-- THE TIED CARD OF 'posthornlaw10.ParamCarried'. -/
def paramCarriedCard : Claim7 := { stood := { row := paramCarriedRow, standIns := [], harness := (true, "d48e138e9eebd977d70a7bd9c553f7903afc1f6e903a1de64d5a0c4ad7aca842"), looks := true }, kinds := [], alts := [], laidByText := true, laidKinds := [.data, .data, .data, .data, .sentinel, .sentinel, .data, .pinned], laidTests := true, laidLooks := .later }
def ParamCarriedCardSaid : Prop := Claim7.holds Tryz.pinned (.plain (OpenSpec.ofChange paramCarriedSpec)) paramCarriedCard

/-- THE SECOND FORM's CARD OF 'posthornlaw10.ParamCarried'. -/
def paramCarriedUptoCard : Claim7 := { stood := { row := paramCarriedUptoRow, standIns := [], harness := (true, "d48e138e9eebd977d70a7bd9c553f7903afc1f6e903a1de64d5a0c4ad7aca842"), looks := true }, kinds := [], alts := [], laidByText := true, laidKinds := [.data, .data, .data, .data, .sentinel, .sentinel, .data, .pinned], laidTests := true, laidLooks := .later }
def ParamCarriedUptoCardSaid : Prop := Claim7.holds Tryz.pinned (.plain (OpenSpec.upto paramCarriedSpec)) paramCarriedUptoCard
end Rows
end Go.Proofs.YtjomofcdanpdgabGreatDoor
