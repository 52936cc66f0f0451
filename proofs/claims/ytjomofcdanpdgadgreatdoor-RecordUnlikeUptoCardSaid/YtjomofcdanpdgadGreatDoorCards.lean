/-
  DERIVED. GIVEN WITH THE SEED: THE CARDS: each row of YtjomofcdanpdgadGreatDoorRows.lean that lists a variable, with what it lists TIED to the program's text (the seventh form; the later family's looks); each row that meets fmt, with fmt's text TOLD by the authors' own Lean function (tested against real Go, not proved from fmt's source: count such statements apart). THE CARD IS WHAT COUNTS. Prove the row's statement (the work); the ties are given (YtjomofcdanpdgadGreatDoorTie.lean); close each card by the builder's one call (the guide's Derived/Test/ToyasCard.lean, 'card_holds'). Laid BY PROGRAM, IN A SANDBOX (cutbox-door.mjs). By AI agents, Wed Nov 11 2026. No macro, syntax, notation, axiom, sorry.
-/
import Derived.Test.YtjomofcdanpdgadGreatDoorRows
import GoSem.ClaimSeven
namespace Go.Proofs.YtjomofcdanpdgadGreatDoor
namespace Rows

/-- THE TIED CARD OF 'posthornlaw25.RecordUnlike'. -/
def recordUnlikeCard : Claim7 := { stood := { row := recordUnlikeRow, standIns := [], harness := (true, "640b168b0488637f6ba4712f8242e31cfdde1f63bc5be7c715814c8352fe965c"), looks := true }, kinds := [], alts := [], laidByText := true, laidKinds := [.data, .data, .data, .data, .sentinel, .sentinel, .data, .pinned], laidTests := true, laidLooks := .later }
def RecordUnlikeCardSaid : Prop := Claim7.holds Tryz.pinned (.plain (OpenSpec.ofChange recordUnlikeSpec)) recordUnlikeCard

/-- THE SECOND FORM's CARD OF 'posthornlaw25.RecordUnlike'. -/
def recordUnlikeUptoCard : Claim7 := { stood := { row := recordUnlikeUptoRow, standIns := [], harness := (true, "640b168b0488637f6ba4712f8242e31cfdde1f63bc5be7c715814c8352fe965c"), looks := true }, kinds := [], alts := [], laidByText := true, laidKinds := [.data, .data, .data, .data, .sentinel, .sentinel, .data, .pinned], laidTests := true, laidLooks := .later }
def RecordUnlikeUptoCardSaid : Prop := Claim7.holds Tryz.pinned (.plain (OpenSpec.upto recordUnlikeSpec)) recordUnlikeUptoCard
end Rows
end Go.Proofs.YtjomofcdanpdgadGreatDoor
