/-
  DERIVED. GIVEN WITH THE SEED: THE CARDS: each row of YtjlpfijbnflknaaDoorRows.lean that lists a variable, with what it lists TIED to the program's text (the seventh form; the later family's looks); each row that meets fmt, with fmt's text TOLD by the authors' own Lean function (tested against real Go, not proved from fmt's source: count such statements apart). THE CARD IS WHAT COUNTS. Prove the row's statement (the work); the ties are given (YtjlpfijbnflknaaDoorTie.lean); close each card by the builder's one call (the guide's Derived/Test/ToyasCard.lean, 'card_holds'). Laid BY PROGRAM, IN A SANDBOX (cutbox-door.mjs). By AI agents, Wed Nov 11 2026. No macro, syntax, notation, axiom, sorry.
-/
import Derived.Test.YtjlpfijbnflknaaDoorRows
import GoSem.ClaimSeven
namespace Go.Proofs.YtjlpfijbnflknaaDoor
namespace Rows

/-- THE TIED CARD OF 'posthornlaw10.ParamXtexts'. -/
def paramXtextsCard : Claim7 := { stood := { row := paramXtextsRow, standIns := [], harness := (true, "87312459d0b2f844d1535d1825d0fa7d1ec4a1a96125e7d3b63fb9cb72607fe6"), looks := false }, kinds := [], alts := [], laidByText := true, laidKinds := [.data], laidTests := true, laidLooks := .later }
def ParamXtextsCardSaid : Prop := Claim7.holds Tryd.pinned (.plain (OpenSpec.ofChange paramXtextsSpec)) paramXtextsCard

/-- THE TIED CARD OF 'posthornlaw10.ParamPrints'. -/
def paramPrintsCard : Claim7 := { stood := { row := paramPrintsRow, standIns := [], harness := (true, "87312459d0b2f844d1535d1825d0fa7d1ec4a1a96125e7d3b63fb9cb72607fe6"), looks := false }, kinds := [], alts := [], laidByText := true, laidKinds := [.data], laidTests := true, laidLooks := .later }
def ParamPrintsCardSaid : Prop := Claim7.holds Tryd.pinned (.plain (OpenSpec.ofChange paramPrintsSpec)) paramPrintsCard

/-- THE TIED CARD OF 'posthornlaw30.BounceWants'. -/
def bounceWantsCard : Claim7 := { stood := { row := bounceWantsRow, standIns := [], harness := (true, "87312459d0b2f844d1535d1825d0fa7d1ec4a1a96125e7d3b63fb9cb72607fe6"), looks := false }, kinds := [], alts := [], laidByText := true, laidKinds := [.data], laidTests := true, laidLooks := .later }
def BounceWantsCardSaid : Prop := Claim7.holds Tryd.pinned (.plain (OpenSpec.ofChange bounceWantsSpec)) bounceWantsCard

/-- THE TIED CARD OF 'posthornlaw30.BounceBounds'. -/
def bounceBoundsCard : Claim7 := { stood := { row := bounceBoundsRow, standIns := [], harness := (true, "87312459d0b2f844d1535d1825d0fa7d1ec4a1a96125e7d3b63fb9cb72607fe6"), looks := false }, kinds := [], alts := [], laidByText := true, laidKinds := [.data], laidTests := true, laidLooks := .later }
def BounceBoundsCardSaid : Prop := Claim7.holds Tryd.pinned (.plain (OpenSpec.ofChange bounceBoundsSpec)) bounceBoundsCard

/-- THE TIED CARD OF 'posthornlaw30.BounceParts'. -/
def bouncePartsCard : Claim7 := { stood := { row := bouncePartsRow, standIns := [], harness := (true, "87312459d0b2f844d1535d1825d0fa7d1ec4a1a96125e7d3b63fb9cb72607fe6"), looks := false }, kinds := [], alts := [], laidByText := true, laidKinds := [.data], laidTests := true, laidLooks := .later }
def BouncePartsCardSaid : Prop := Claim7.holds Tryd.pinned (.plain (OpenSpec.ofChange bouncePartsSpec)) bouncePartsCard

/-- THE TIED CARD OF 'posthornlaw30.BouncePartsBack'. -/
def bouncePartsBackCard : Claim7 := { stood := { row := bouncePartsBackRow, standIns := [], harness := (true, "87312459d0b2f844d1535d1825d0fa7d1ec4a1a96125e7d3b63fb9cb72607fe6"), looks := false }, kinds := [], alts := [], laidByText := true, laidKinds := [.data], laidTests := true, laidLooks := .later }
def BouncePartsBackCardSaid : Prop := Claim7.holds Tryd.pinned (.plain (OpenSpec.ofChange bouncePartsBackSpec)) bouncePartsBackCard

/-- THE TIED CARD OF 'posthornlaw10.ParamParses'. -/
def paramParsesCard : Claim7 := { stood := { row := paramParsesRow, standIns := [], harness := (true, "87312459d0b2f844d1535d1825d0fa7d1ec4a1a96125e7d3b63fb9cb72607fe6"), looks := false }, kinds := [], alts := [], laidByText := true, laidKinds := [.data], laidTests := true, laidLooks := .later }
def ParamParsesCardSaid : Prop := Claim7.holds Tryd.pinned (.plain (OpenSpec.ofChange paramParsesSpec)) paramParsesCard

/-- THE SECOND FORM's CARD OF 'posthornlaw10.ParamXtexts'. -/
def paramXtextsUptoCard : Claim7 := { stood := { row := paramXtextsUptoRow, standIns := [], harness := (true, "87312459d0b2f844d1535d1825d0fa7d1ec4a1a96125e7d3b63fb9cb72607fe6"), looks := false }, kinds := [], alts := [], laidByText := true, laidKinds := [.data], laidTests := true, laidLooks := .later }
def ParamXtextsUptoCardSaid : Prop := Claim7.holds Tryd.pinned (.plain (OpenSpec.upto paramXtextsSpec)) paramXtextsUptoCard

/-- THE SECOND FORM's CARD OF 'posthornlaw10.ParamPrints'. -/
def paramPrintsUptoCard : Claim7 := { stood := { row := paramPrintsUptoRow, standIns := [], harness := (true, "87312459d0b2f844d1535d1825d0fa7d1ec4a1a96125e7d3b63fb9cb72607fe6"), looks := false }, kinds := [], alts := [], laidByText := true, laidKinds := [.data], laidTests := true, laidLooks := .later }
def ParamPrintsUptoCardSaid : Prop := Claim7.holds Tryd.pinned (.plain (OpenSpec.upto paramPrintsSpec)) paramPrintsUptoCard

/-- THE SECOND FORM's CARD OF 'posthornlaw30.BounceWants'. -/
def bounceWantsUptoCard : Claim7 := { stood := { row := bounceWantsUptoRow, standIns := [], harness := (true, "87312459d0b2f844d1535d1825d0fa7d1ec4a1a96125e7d3b63fb9cb72607fe6"), looks := false }, kinds := [], alts := [], laidByText := true, laidKinds := [.data], laidTests := true, laidLooks := .later }
def BounceWantsUptoCardSaid : Prop := Claim7.holds Tryd.pinned (.plain (OpenSpec.upto bounceWantsSpec)) bounceWantsUptoCard

/-- THE SECOND FORM's CARD OF 'posthornlaw30.BounceBounds'. -/
def bounceBoundsUptoCard : Claim7 := { stood := { row := bounceBoundsUptoRow, standIns := [], harness := (true, "87312459d0b2f844d1535d1825d0fa7d1ec4a1a96125e7d3b63fb9cb72607fe6"), looks := false }, kinds := [], alts := [], laidByText := true, laidKinds := [.data], laidTests := true, laidLooks := .later }
def BounceBoundsUptoCardSaid : Prop := Claim7.holds Tryd.pinned (.plain (OpenSpec.upto bounceBoundsSpec)) bounceBoundsUptoCard

/-- THE SECOND FORM's CARD OF 'posthornlaw30.BounceParts'. -/
def bouncePartsUptoCard : Claim7 := { stood := { row := bouncePartsUptoRow, standIns := [], harness := (true, "87312459d0b2f844d1535d1825d0fa7d1ec4a1a96125e7d3b63fb9cb72607fe6"), looks := false }, kinds := [], alts := [], laidByText := true, laidKinds := [.data], laidTests := true, laidLooks := .later }
def BouncePartsUptoCardSaid : Prop := Claim7.holds Tryd.pinned (.plain (OpenSpec.upto bouncePartsSpec)) bouncePartsUptoCard

/-- THE SECOND FORM's CARD OF 'posthornlaw30.BouncePartsBack'. -/
def bouncePartsBackUptoCard : Claim7 := { stood := { row := bouncePartsBackUptoRow, standIns := [], harness := (true, "87312459d0b2f844d1535d1825d0fa7d1ec4a1a96125e7d3b63fb9cb72607fe6"), looks := false }, kinds := [], alts := [], laidByText := true, laidKinds := [.data], laidTests := true, laidLooks := .later }
def BouncePartsBackUptoCardSaid : Prop := Claim7.holds Tryd.pinned (.plain (OpenSpec.upto bouncePartsBackSpec)) bouncePartsBackUptoCard

/-- THE SECOND FORM's CARD OF 'posthornlaw10.ParamParses'. -/
def paramParsesUptoCard : Claim7 := { stood := { row := paramParsesUptoRow, standIns := [], harness := (true, "87312459d0b2f844d1535d1825d0fa7d1ec4a1a96125e7d3b63fb9cb72607fe6"), looks := false }, kinds := [], alts := [], laidByText := true, laidKinds := [.data], laidTests := true, laidLooks := .later }
def ParamParsesUptoCardSaid : Prop := Claim7.holds Tryd.pinned (.plain (OpenSpec.upto paramParsesSpec)) paramParsesUptoCard
end Rows
end Go.Proofs.YtjlpfijbnflknaaDoor
