/-
  DERIVED. GIVEN WITH THE SEED: THE CARDS: each row of YtmjoaiccbghijaaGreatDoorRows.lean that lists a variable, with what it lists TIED to the program's text (the seventh form; the later family's looks); each row that meets fmt, with fmt's text TOLD by the authors' own Lean function (tested against real Go, not proved from fmt's source: count such statements apart). THE CARD IS WHAT COUNTS. Prove the row's statement (the work); the ties are given (YtmjoaiccbghijaaGreatDoorTie.lean); close each card by the builder's one call (the guide's Derived/Test/ToyasCard.lean, 'card_holds'). Laid BY PROGRAM, IN A SANDBOX (cutbox-door.mjs). By AI agents, Wed Nov 11 2026. No macro, syntax, notation, axiom, sorry.
-/
import Derived.Test.YtmjoaiccbghijaaGreatDoorRows
import GoSem.ClaimSeven
namespace Go.Proofs.YtmjoaiccbghijaaGreatDoor
namespace Rows

/-- THE TIED CARD OF 'posthornlaw10.ParamOfMails'. -/
def paramOfMailsCard : Claim7 := { stood := { row := paramOfMailsRow, standIns := [], harness := (true, "b2188c85811ee0c66549dc74fb4aa3edb2dbf6800d7d2a25cc53e06394abbdf9"), looks := true }, kinds := [], alts := [], laidByText := true, laidKinds := [.data, .data, .data, .data, .sentinel, .sentinel, .data, .pinned], laidTests := true, laidLooks := .later }
def ParamOfMailsCardSaid : Prop := Claim7.holds Tryz.pinned (.plain (OpenSpec.ofChange paramOfMailsSpec)) paramOfMailsCard

/-- THE TIED CARD OF 'posthornlaw10.ParamMails'. -/
def paramMailsCard : Claim7 := { stood := { row := paramMailsRow, standIns := [], harness := (true, "b2188c85811ee0c66549dc74fb4aa3edb2dbf6800d7d2a25cc53e06394abbdf9"), looks := true }, kinds := [], alts := [], laidByText := true, laidKinds := [.data, .data, .data, .data, .sentinel, .sentinel, .data, .pinned], laidTests := true, laidLooks := .later }
def ParamMailsCardSaid : Prop := Claim7.holds Tryz.pinned (.plain (OpenSpec.ofChange paramMailsSpec)) paramMailsCard

/-- THE TIED CARD OF 'posthornlaw10.ParamBack'. -/
def paramBackCard : Claim7 := { stood := { row := paramBackRow, standIns := [], harness := (true, "b2188c85811ee0c66549dc74fb4aa3edb2dbf6800d7d2a25cc53e06394abbdf9"), looks := true }, kinds := [], alts := [], laidByText := true, laidKinds := [.data, .data, .data, .data, .sentinel, .sentinel, .data, .pinned], laidTests := true, laidLooks := .later }
def ParamBackCardSaid : Prop := Claim7.holds Tryz.pinned (.plain (OpenSpec.ofChange paramBackSpec)) paramBackCard

/-- THE TIED CARD OF 'posthornlaw10.ParamAgain'. -/
def paramAgainCard : Claim7 := { stood := { row := paramAgainRow, standIns := [], harness := (true, "b2188c85811ee0c66549dc74fb4aa3edb2dbf6800d7d2a25cc53e06394abbdf9"), looks := true }, kinds := [], alts := [], laidByText := true, laidKinds := [.data, .data, .data, .data, .sentinel, .sentinel, .data, .pinned], laidTests := true, laidLooks := .later }
def ParamAgainCardSaid : Prop := Claim7.holds Tryz.pinned (.plain (OpenSpec.ofChange paramAgainSpec)) paramAgainCard

/-- THE TIED CARD OF 'posthornlaw10.ParamMeant'. -/
def paramMeantCard : Claim7 := { stood := { row := paramMeantRow, standIns := [], harness := (true, "b2188c85811ee0c66549dc74fb4aa3edb2dbf6800d7d2a25cc53e06394abbdf9"), looks := true }, kinds := [], alts := [], laidByText := true, laidKinds := [.data, .data, .data, .data, .sentinel, .sentinel, .data, .pinned], laidTests := true, laidLooks := .later }
def ParamMeantCardSaid : Prop := Claim7.holds Tryz.pinned (.plain (OpenSpec.ofChange paramMeantSpec)) paramMeantCard

/-- THE TIED CARD OF 'posthornlaw10.ParamAnyOrder'. -/
def paramAnyOrderCard : Claim7 := { stood := { row := paramAnyOrderRow, standIns := [], harness := (true, "b2188c85811ee0c66549dc74fb4aa3edb2dbf6800d7d2a25cc53e06394abbdf9"), looks := true }, kinds := [], alts := [], laidByText := true, laidKinds := [.data, .data, .data, .data, .sentinel, .sentinel, .data, .pinned], laidTests := true, laidLooks := .later }
def ParamAnyOrderCardSaid : Prop := Claim7.holds Tryz.pinned (.plain (OpenSpec.ofChange paramAnyOrderSpec)) paramAnyOrderCard

/-- THE SECOND FORM's CARD OF 'posthornlaw10.ParamOfMails'. -/
def paramOfMailsUptoCard : Claim7 := { stood := { row := paramOfMailsUptoRow, standIns := [], harness := (true, "b2188c85811ee0c66549dc74fb4aa3edb2dbf6800d7d2a25cc53e06394abbdf9"), looks := true }, kinds := [], alts := [], laidByText := true, laidKinds := [.data, .data, .data, .data, .sentinel, .sentinel, .data, .pinned], laidTests := true, laidLooks := .later }
def ParamOfMailsUptoCardSaid : Prop := Claim7.holds Tryz.pinned (.plain (OpenSpec.upto paramOfMailsSpec)) paramOfMailsUptoCard

/-- THE SECOND FORM's CARD OF 'posthornlaw10.ParamMails'. -/
def paramMailsUptoCard : Claim7 := { stood := { row := paramMailsUptoRow, standIns := [], harness := (true, "b2188c85811ee0c66549dc74fb4aa3edb2dbf6800d7d2a25cc53e06394abbdf9"), looks := true }, kinds := [], alts := [], laidByText := true, laidKinds := [.data, .data, .data, .data, .sentinel, .sentinel, .data, .pinned], laidTests := true, laidLooks := .later }
def ParamMailsUptoCardSaid : Prop := Claim7.holds Tryz.pinned (.plain (OpenSpec.upto paramMailsSpec)) paramMailsUptoCard

/-- THE SECOND FORM's CARD OF 'posthornlaw10.ParamBack'. -/
def paramBackUptoCard : Claim7 := { stood := { row := paramBackUptoRow, standIns := [], harness := (true, "b2188c85811ee0c66549dc74fb4aa3edb2dbf6800d7d2a25cc53e06394abbdf9"), looks := true }, kinds := [], alts := [], laidByText := true, laidKinds := [.data, .data, .data, .data, .sentinel, .sentinel, .data, .pinned], laidTests := true, laidLooks := .later }
def ParamBackUptoCardSaid : Prop := Claim7.holds Tryz.pinned (.plain (OpenSpec.upto paramBackSpec)) paramBackUptoCard

/-- THE SECOND FORM's CARD OF 'posthornlaw10.ParamAgain'. -/
def paramAgainUptoCard : Claim7 := { stood := { row := paramAgainUptoRow, standIns := [], harness := (true, "b2188c85811ee0c66549dc74fb4aa3edb2dbf6800d7d2a25cc53e06394abbdf9"), looks := true }, kinds := [], alts := [], laidByText := true, laidKinds := [.data, .data, .data, .data, .sentinel, .sentinel, .data, .pinned], laidTests := true, laidLooks := .later }
def ParamAgainUptoCardSaid : Prop := Claim7.holds Tryz.pinned (.plain (OpenSpec.upto paramAgainSpec)) paramAgainUptoCard

/-- THE SECOND FORM's CARD OF 'posthornlaw10.ParamMeant'. -/
def paramMeantUptoCard : Claim7 := { stood := { row := paramMeantUptoRow, standIns := [], harness := (true, "b2188c85811ee0c66549dc74fb4aa3edb2dbf6800d7d2a25cc53e06394abbdf9"), looks := true }, kinds := [], alts := [], laidByText := true, laidKinds := [.data, .data, .data, .data, .sentinel, .sentinel, .data, .pinned], laidTests := true, laidLooks := .later }
def ParamMeantUptoCardSaid : Prop := Claim7.holds Tryz.pinned (.plain (OpenSpec.upto paramMeantSpec)) paramMeantUptoCard

/-- THE SECOND FORM's CARD OF 'posthornlaw10.ParamAnyOrder'. -/
def paramAnyOrderUptoCard : Claim7 := { stood := { row := paramAnyOrderUptoRow, standIns := [], harness := (true, "b2188c85811ee0c66549dc74fb4aa3edb2dbf6800d7d2a25cc53e06394abbdf9"), looks := true }, kinds := [], alts := [], laidByText := true, laidKinds := [.data, .data, .data, .data, .sentinel, .sentinel, .data, .pinned], laidTests := true, laidLooks := .later }
def ParamAnyOrderUptoCardSaid : Prop := Claim7.holds Tryz.pinned (.plain (OpenSpec.upto paramAnyOrderSpec)) paramAnyOrderUptoCard
end Rows
end Go.Proofs.YtmjoaiccbghijaaGreatDoor
