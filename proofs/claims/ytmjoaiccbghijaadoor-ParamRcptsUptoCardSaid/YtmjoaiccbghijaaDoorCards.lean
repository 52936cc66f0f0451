/-
  DERIVED. GIVEN WITH THE SEED: THE CARDS: each row of YtmjoaiccbghijaaDoorRows.lean that lists a variable, with what it lists TIED to the program's text (the seventh form; the later family's looks); each row that meets fmt, with fmt's text TOLD by the authors' own Lean function (tested against real Go, not proved from fmt's source: count such statements apart). THE CARD IS WHAT COUNTS. Prove the row's statement (the work); the ties are given (YtmjoaiccbghijaaDoorTie.lean); close each card by the builder's one call (the guide's Derived/Test/ToyasCard.lean, 'card_holds'). Laid BY PROGRAM, IN A SANDBOX (cutbox-door.mjs). By AI agents, Wed Nov 11 2026. No macro, syntax, notation, axiom, sorry.
-/
import Derived.Test.YtmjoaiccbghijaaDoorRows
import GoSem.ClaimSeven
namespace Go.Proofs.YtmjoaiccbghijaaDoor
namespace Rows

/-- THE TIED CARD OF 'posthornlaw10.ParamRcpts'. -/
def paramRcptsCard : Claim7 := { stood := { row := paramRcptsRow, standIns := [], harness := (true, "23af905529fc0b0cc4872f527f791be013446c4de82b597de9e13671ab106629"), looks := false }, kinds := [], alts := [], laidByText := true, laidKinds := [.data, .data, .pinned], laidTests := true, laidLooks := .later }
def ParamRcptsCardSaid : Prop := Claim7.holds Tryd.pinned (.plain (OpenSpec.ofChange paramRcptsSpec)) paramRcptsCard

/-- THE TIED CARD OF 'posthornlaw10.ParamOfRcpts'. -/
def paramOfRcptsCard : Claim7 := { stood := { row := paramOfRcptsRow, standIns := [], harness := (true, "23af905529fc0b0cc4872f527f791be013446c4de82b597de9e13671ab106629"), looks := false }, kinds := [], alts := [], laidByText := true, laidKinds := [.data], laidTests := true, laidLooks := .later }
def ParamOfRcptsCardSaid : Prop := Claim7.holds Tryd.pinned (.plain (OpenSpec.ofChange paramOfRcptsSpec)) paramOfRcptsCard

/-- THE SECOND FORM's CARD OF 'posthornlaw10.ParamRcpts'. -/
def paramRcptsUptoCard : Claim7 := { stood := { row := paramRcptsUptoRow, standIns := [], harness := (true, "23af905529fc0b0cc4872f527f791be013446c4de82b597de9e13671ab106629"), looks := false }, kinds := [], alts := [], laidByText := true, laidKinds := [.data, .data, .pinned], laidTests := true, laidLooks := .later }
def ParamRcptsUptoCardSaid : Prop := Claim7.holds Tryd.pinned (.plain (OpenSpec.upto paramRcptsSpec)) paramRcptsUptoCard

/-- THE SECOND FORM's CARD OF 'posthornlaw10.ParamOfRcpts'. -/
def paramOfRcptsUptoCard : Claim7 := { stood := { row := paramOfRcptsUptoRow, standIns := [], harness := (true, "23af905529fc0b0cc4872f527f791be013446c4de82b597de9e13671ab106629"), looks := false }, kinds := [], alts := [], laidByText := true, laidKinds := [.data], laidTests := true, laidLooks := .later }
def ParamOfRcptsUptoCardSaid : Prop := Claim7.holds Tryd.pinned (.plain (OpenSpec.upto paramOfRcptsSpec)) paramOfRcptsUptoCard
end Rows
end Go.Proofs.YtmjoaiccbghijaaDoor
