/-
  DERIVED. GIVEN WITH THE SEED: THE CARDS: each row of YthmmoahdobpfoaaGreatDoorRows.lean that lists a variable, with what it lists TIED to the program's text (the seventh form; the later family's looks); each row that meets fmt, with fmt's text TOLD by the authors' own Lean function (tested against real Go, not proved from fmt's source: count such statements apart). THE CARD IS WHAT COUNTS. Prove the row's statement (the work); the ties are given (YthmmoahdobpfoaaGreatDoorTie.lean); close each card by the builder's one call (the guide's Derived/Test/ToyasCard.lean, 'card_holds'). Laid BY PROGRAM, IN A SANDBOX (cutbox-door.mjs). By AI agents, Wed Nov 11 2026. No macro, syntax, notation, axiom, sorry.
-/
import Derived.Test.YthmmoahdobpfoaaGreatDoorRows
import GoSem.ClaimSeven
namespace Go.Proofs.YthmmoahdobpfoaaGreatDoor
namespace Rows

/-- THE TIED CARD OF 'posthornlaw29.RetryWaits'. -/
def retryWaitsCard : Claim7 := { stood := { row := retryWaitsRow, standIns := [], harness := (true, "1a9904675b66d9e62b9813a32fc09ddc42ecfaf20eec5e3cf635b483e8315d19"), looks := false }, kinds := [], alts := [], laidByText := true, laidKinds := [.data, .data, .pinned], laidTests := true, laidLooks := .later }
def RetryWaitsCardSaid : Prop := Claim7.holds Tryz.pinned (.plain (OpenSpec.ofChange retryWaitsSpec)) retryWaitsCard

/-- THE TIED CARD OF 'posthornlaw29.RetryEnds'. -/
def retryEndsCard : Claim7 := { stood := { row := retryEndsRow, standIns := [], harness := (true, "1a9904675b66d9e62b9813a32fc09ddc42ecfaf20eec5e3cf635b483e8315d19"), looks := false }, kinds := [], alts := [], laidByText := true, laidKinds := [.data, .data, .pinned], laidTests := true, laidLooks := .later }
def RetryEndsCardSaid : Prop := Claim7.holds Tryz.pinned (.plain (OpenSpec.ofChange retryEndsSpec)) retryEndsCard

/-- THE SECOND FORM's CARD OF 'posthornlaw29.RetryWaits'. -/
def retryWaitsUptoCard : Claim7 := { stood := { row := retryWaitsUptoRow, standIns := [], harness := (true, "1a9904675b66d9e62b9813a32fc09ddc42ecfaf20eec5e3cf635b483e8315d19"), looks := false }, kinds := [], alts := [], laidByText := true, laidKinds := [.data, .data, .pinned], laidTests := true, laidLooks := .later }
def RetryWaitsUptoCardSaid : Prop := Claim7.holds Tryz.pinned (.plain (OpenSpec.upto retryWaitsSpec)) retryWaitsUptoCard

/-- THE SECOND FORM's CARD OF 'posthornlaw29.RetryEnds'. -/
def retryEndsUptoCard : Claim7 := { stood := { row := retryEndsUptoRow, standIns := [], harness := (true, "1a9904675b66d9e62b9813a32fc09ddc42ecfaf20eec5e3cf635b483e8315d19"), looks := false }, kinds := [], alts := [], laidByText := true, laidKinds := [.data, .data, .pinned], laidTests := true, laidLooks := .later }
def RetryEndsUptoCardSaid : Prop := Claim7.holds Tryz.pinned (.plain (OpenSpec.upto retryEndsSpec)) retryEndsUptoCard
end Rows
end Go.Proofs.YthmmoahdobpfoaaGreatDoor
