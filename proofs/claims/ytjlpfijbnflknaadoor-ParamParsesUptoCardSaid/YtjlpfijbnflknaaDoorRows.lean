/-
  NARROWER THAN 'FOR EVERY INPUT', by the rows' own cells (each row's printed sentence says how): ParamXtexts: laid · ParamPrints: laid · BounceWants: laid · BounceBounds: laid · BounceParts: laid · BouncePartsBack: laid · ParamParses: laid.
  DERIVED. THE GIVEN ROWS OF THIS SEAT. 7 by the template 'for every input the law returns true; each argument reads behind the call as it read before'; 0 by the template 'total and deterministic' (their statements: YtjlpfijbnflknaaDoorTotals.lean).
  GIVEN WITH THE SEED: the statements are not yours to turn. If you find one false, say at which input.
  Laid BY PROGRAM, IN A SANDBOX (cutbox-rows.mjs): the forced cells as the released guide's own fill.sh prints them over the translation 3df03b8c29e47d3a… (all of the seat's roots in one cut). By AI agents, Wed Nov 11 2026. No macro, syntax, notation, axiom, sorry.
-/
import Derived.Test.YtjlpfijbnflknaaDoorChecked
import GoSem.Claim
import GoSem.ClaimJoined
import GoSem.ClaimMapViews
import Derived.JoinedTies
import Derived.KernelRfl
namespace Go.Proofs.YtjlpfijbnflknaaDoor
/- THE CELL 'sum', in the pinned program and in every row, IS THE sha256 OF THE DUMP (.gsa) THAT YtjlpfijbnflknaaDoorProg.lean LOADS. Nothing in Lean hashes anything: it is a label: what it is worth is what the hold of that sum in a sandbox is worth. -/
noncomputable def Tryd.pinned : Pinned := { name := "ytjlpfijbnflknaadoor", sum := "3df03b8c29e47d3a3d235e7359dab0eaa26abb5ea86d10b1e256b51435f6cfd2", checked := Tryd.checked }
namespace Rows
def none {H : Type} : Left H := { results := [], args := [] }

/- WHAT THE LISTED PACKAGE-LEVEL VARIABLES READ AS WHEN THE CALL BEGINS. Each datum BY PROGRAM (the guide's laid-datum.mjs) off the statement by which the dump's own 'gosem.cut.vars' lays the variable. In a bare row this is a premise. The card (YtjlpfijbnflknaaDoorCards.lean) ties it to the program's text. -/
def laid_posthorn_octet_stretches {H : Type} : DataW H := .agg [.agg [.lit (.int .i64 1), .lit (.int .u8 65), .lit (.int .u8 90)], .agg [.lit (.int .i64 1), .lit (.int .u8 97), .lit (.int .u8 122)], .agg [.lit (.int .i64 2), .lit (.int .u8 48), .lit (.int .u8 57)], .agg [.lit (.int .i64 3), .lit (.int .u8 65), .lit (.int .u8 90)], .agg [.lit (.int .i64 3), .lit (.int .u8 97), .lit (.int .u8 122)], .agg [.lit (.int .i64 3), .lit (.int .u8 48), .lit (.int .u8 57)], .agg [.lit (.int .i64 4), .lit (.int .u8 48), .lit (.int .u8 57)], .agg [.lit (.int .i64 4), .lit (.int .u8 65), .lit (.int .u8 70)], .agg [.lit (.int .i64 4), .lit (.int .u8 97), .lit (.int .u8 102)], .agg [.lit (.int .i64 5), .lit (.int .u8 33), .lit (.int .u8 33)], .agg [.lit (.int .i64 5), .lit (.int .u8 35), .lit (.int .u8 39)], .agg [.lit (.int .i64 5), .lit (.int .u8 42), .lit (.int .u8 43)], .agg [.lit (.int .i64 5), .lit (.int .u8 45), .lit (.int .u8 45)], .agg [.lit (.int .i64 5), .lit (.int .u8 47), .lit (.int .u8 47)], .agg [.lit (.int .i64 5), .lit (.int .u8 61), .lit (.int .u8 61)], .agg [.lit (.int .i64 5), .lit (.int .u8 63), .lit (.int .u8 63)], .agg [.lit (.int .i64 5), .lit (.int .u8 94), .lit (.int .u8 96)], .agg [.lit (.int .i64 5), .lit (.int .u8 123), .lit (.int .u8 126)], .agg [.lit (.int .i64 6), .lit (.int .u8 32), .lit (.int .u8 33)], .agg [.lit (.int .i64 6), .lit (.int .u8 35), .lit (.int .u8 91)], .agg [.lit (.int .i64 6), .lit (.int .u8 93), .lit (.int .u8 126)], .agg [.lit (.int .i64 7), .lit (.int .u8 33), .lit (.int .u8 90)], .agg [.lit (.int .i64 7), .lit (.int .u8 94), .lit (.int .u8 126)], .agg [.lit (.int .i64 8), .lit (.int .u8 33), .lit (.int .u8 60)], .agg [.lit (.int .i64 8), .lit (.int .u8 62), .lit (.int .u8 126)], .agg [.lit (.int .i64 9), .lit (.int .u8 33), .lit (.int .u8 42)], .agg [.lit (.int .i64 9), .lit (.int .u8 44), .lit (.int .u8 60)], .agg [.lit (.int .i64 9), .lit (.int .u8 62), .lit (.int .u8 126)], .agg [.lit (.int .i64 10), .lit (.int .u8 45), .lit (.int .u8 45)], .agg [.lit (.int .i64 11), .lit (.int .u8 33), .lit (.int .u8 57)], .agg [.lit (.int .i64 11), .lit (.int .u8 59), .lit (.int .u8 126)], .agg [.lit (.int .i64 12), .lit (.int .u8 9), .lit (.int .u8 9)], .agg [.lit (.int .i64 12), .lit (.int .u8 32), .lit (.int .u8 126)], .agg [.lit (.int .i64 13), .lit (.int .u8 0), .lit (.int .u8 127)], .agg [.lit (.int .i64 14), .lit (.int .u8 128), .lit (.int .u8 255)]]

/-- 'posthornlaw10.ParamXtexts': WHATEVER THE INPUT: true; the input reads as it did. -/
def paramXtextsSpec : ChangeSpec := { name := "paramXtexts", fn := fun _ => fun
  | [d] => { results := [.lit (.bool true)], args := [d] }
  | _ => none }
def paramXtextsRow : OpenClaim := { program := "ytjlpfijbnflknaadoor", sum := "3df03b8c29e47d3a3d235e7359dab0eaa26abb5ea86d10b1e256b51435f6cfd2", func := "posthorn/posthornlaw10.ParamXtexts", spec := "paramXtexts", inPlace := ["internal/abi.NoEscape"], recurses := true, named := ["posthorn/octet.stretches"], apart := false, laid := [("posthorn/octet.stretches", laid_posthorn_octet_stretches)] }
def ParamXtextsSaid : Prop := paramXtextsRow.holds Tryd.pinned (OpenSpec.ofChange paramXtextsSpec)

/-- ITS FALSE NEIGHBOUR: 'it returns false'. Refute it at one input. -/
def paramXtextsWrong : ChangeSpec := { name := "paramXtexts", fn := fun _ => fun
  | [d] => { results := [.lit (.bool false)], args := [d] }
  | _ => none }
def ParamXtextsWrongFalsely : Prop := paramXtextsRow.holds Tryd.pinned (OpenSpec.ofChange paramXtextsWrong)

/-- 'posthornlaw10.ParamPrints': WHATEVER THE INPUT: true; the input reads as it did. -/
def paramPrintsSpec : ChangeSpec := { name := "paramPrints", fn := fun _ => fun
  | [d] => { results := [.lit (.bool true)], args := [d] }
  | _ => none }
def paramPrintsRow : OpenClaim := { program := "ytjlpfijbnflknaadoor", sum := "3df03b8c29e47d3a3d235e7359dab0eaa26abb5ea86d10b1e256b51435f6cfd2", func := "posthorn/posthornlaw10.ParamPrints", spec := "paramPrints", inPlace := ["internal/abi.NoEscape"], recurses := true, named := ["posthorn/octet.stretches"], apart := false, laid := [("posthorn/octet.stretches", laid_posthorn_octet_stretches)] }
def ParamPrintsSaid : Prop := paramPrintsRow.holds Tryd.pinned (OpenSpec.ofChange paramPrintsSpec)

/-- ITS FALSE NEIGHBOUR: 'it returns false'. Refute it at one input. -/
def paramPrintsWrong : ChangeSpec := { name := "paramPrints", fn := fun _ => fun
  | [d] => { results := [.lit (.bool false)], args := [d] }
  | _ => none }
def ParamPrintsWrongFalsely : Prop := paramPrintsRow.holds Tryd.pinned (OpenSpec.ofChange paramPrintsWrong)

/-- 'posthornlaw30.BounceWants': WHATEVER THE INPUT: true; the input reads as it did. -/
def bounceWantsSpec : ChangeSpec := { name := "bounceWants", fn := fun _ => fun
  | [d1, d2, d3] => { results := [.lit (.bool true)], args := [d1, d2, d3] }
  | _ => none }
def bounceWantsRow : OpenClaim := { program := "ytjlpfijbnflknaadoor", sum := "3df03b8c29e47d3a3d235e7359dab0eaa26abb5ea86d10b1e256b51435f6cfd2", func := "posthorn/posthornlaw30.BounceWants", spec := "bounceWants", inPlace := ["internal/bytealg.IndexByte", "internal/bytealg.Index"], recurses := true, named := ["internal/bytealg.MaxLen", "posthorn/octet.stretches"], apart := false, laid := [("posthorn/octet.stretches", laid_posthorn_octet_stretches)] }
def BounceWantsSaid : Prop := bounceWantsRow.holds Tryd.pinned (OpenSpec.ofChange bounceWantsSpec)

/-- ITS FALSE NEIGHBOUR: 'it returns false'. Refute it at one input. -/
def bounceWantsWrong : ChangeSpec := { name := "bounceWants", fn := fun _ => fun
  | [d1, d2, d3] => { results := [.lit (.bool false)], args := [d1, d2, d3] }
  | _ => none }
def BounceWantsWrongFalsely : Prop := bounceWantsRow.holds Tryd.pinned (OpenSpec.ofChange bounceWantsWrong)

/-- 'posthornlaw30.BounceBounds': WHATEVER THE INPUT: true; the input reads as it did. -/
def bounceBoundsSpec : ChangeSpec := { name := "bounceBounds", fn := fun _ => fun
  | [d] => { results := [.lit (.bool true)], args := [d] }
  | _ => none }
def bounceBoundsRow : OpenClaim := { program := "ytjlpfijbnflknaadoor", sum := "3df03b8c29e47d3a3d235e7359dab0eaa26abb5ea86d10b1e256b51435f6cfd2", func := "posthorn/posthornlaw30.BounceBounds", spec := "bounceBounds", inPlace := ["internal/bytealg.IndexByte", "internal/bytealg.Index"], recurses := true, named := ["internal/bytealg.MaxLen", "posthorn/octet.stretches"], apart := false, laid := [("posthorn/octet.stretches", laid_posthorn_octet_stretches)] }
def BounceBoundsSaid : Prop := bounceBoundsRow.holds Tryd.pinned (OpenSpec.ofChange bounceBoundsSpec)

/-- ITS FALSE NEIGHBOUR: 'it returns false'. Refute it at one input. -/
def bounceBoundsWrong : ChangeSpec := { name := "bounceBounds", fn := fun _ => fun
  | [d] => { results := [.lit (.bool false)], args := [d] }
  | _ => none }
def BounceBoundsWrongFalsely : Prop := bounceBoundsRow.holds Tryd.pinned (OpenSpec.ofChange bounceBoundsWrong)

/-- 'posthornlaw30.BounceParts': WHATEVER THE INPUT: true; the input reads as it did. -/
def bouncePartsSpec : ChangeSpec := { name := "bounceParts", fn := fun _ => fun
  | [d1, d2] => { results := [.lit (.bool true)], args := [d1, d2] }
  | _ => none }
def bouncePartsRow : OpenClaim := { program := "ytjlpfijbnflknaadoor", sum := "3df03b8c29e47d3a3d235e7359dab0eaa26abb5ea86d10b1e256b51435f6cfd2", func := "posthorn/posthornlaw30.BounceParts", spec := "bounceParts", inPlace := ["internal/bytealg.IndexByte", "internal/bytealg.Index"], recurses := true, named := ["internal/bytealg.MaxLen", "posthorn/octet.stretches"], apart := false, laid := [("posthorn/octet.stretches", laid_posthorn_octet_stretches)] }
def BouncePartsSaid : Prop := bouncePartsRow.holds Tryd.pinned (OpenSpec.ofChange bouncePartsSpec)

/-- ITS FALSE NEIGHBOUR: 'it returns false'. Refute it at one input. -/
def bouncePartsWrong : ChangeSpec := { name := "bounceParts", fn := fun _ => fun
  | [d1, d2] => { results := [.lit (.bool false)], args := [d1, d2] }
  | _ => none }
def BouncePartsWrongFalsely : Prop := bouncePartsRow.holds Tryd.pinned (OpenSpec.ofChange bouncePartsWrong)

/-- 'posthornlaw30.BouncePartsBack': WHATEVER THE INPUT: true; the input reads as it did. -/
def bouncePartsBackSpec : ChangeSpec := { name := "bouncePartsBack", fn := fun _ => fun
  | [d] => { results := [.lit (.bool true)], args := [d] }
  | _ => none }
def bouncePartsBackRow : OpenClaim := { program := "ytjlpfijbnflknaadoor", sum := "3df03b8c29e47d3a3d235e7359dab0eaa26abb5ea86d10b1e256b51435f6cfd2", func := "posthorn/posthornlaw30.BouncePartsBack", spec := "bouncePartsBack", inPlace := ["internal/bytealg.IndexByte", "internal/bytealg.Index"], recurses := true, named := ["internal/bytealg.MaxLen", "posthorn/octet.stretches"], apart := false, laid := [("posthorn/octet.stretches", laid_posthorn_octet_stretches)] }
def BouncePartsBackSaid : Prop := bouncePartsBackRow.holds Tryd.pinned (OpenSpec.ofChange bouncePartsBackSpec)

/-- ITS FALSE NEIGHBOUR: 'it returns false'. Refute it at one input. -/
def bouncePartsBackWrong : ChangeSpec := { name := "bouncePartsBack", fn := fun _ => fun
  | [d] => { results := [.lit (.bool false)], args := [d] }
  | _ => none }
def BouncePartsBackWrongFalsely : Prop := bouncePartsBackRow.holds Tryd.pinned (OpenSpec.ofChange bouncePartsBackWrong)

/-- 'posthornlaw10.ParamParses': WHATEVER THE INPUT: true; the input reads as it did. -/
def paramParsesSpec : ChangeSpec := { name := "paramParses", fn := fun _ => fun
  | [d1, d2] => { results := [.lit (.bool true)], args := [d1, d2] }
  | _ => none }
def paramParsesRow : OpenClaim := { program := "ytjlpfijbnflknaadoor", sum := "3df03b8c29e47d3a3d235e7359dab0eaa26abb5ea86d10b1e256b51435f6cfd2", func := "posthorn/posthornlaw10.ParamParses", spec := "paramParses", inPlace := ["internal/bytealg.IndexByteString", "internal/bytealg.IndexString"], unfollowed := true, recurses := true, named := ["posthorn/octet.stretches", "internal/bytealg.MaxLen"], apart := false, laid := [("posthorn/octet.stretches", laid_posthorn_octet_stretches)] }
def ParamParsesSaid : Prop := paramParsesRow.holds Tryd.pinned (OpenSpec.ofChange paramParsesSpec)

/-- ITS FALSE NEIGHBOUR: 'it returns false'. Refute it at one input. -/
def paramParsesWrong : ChangeSpec := { name := "paramParses", fn := fun _ => fun
  | [d1, d2] => { results := [.lit (.bool false)], args := [d1, d2] }
  | _ => none }
def ParamParsesWrongFalsely : Prop := paramParsesRow.holds Tryd.pinned (OpenSpec.ofChange paramParsesWrong)

/- THE SECOND FORM. 'bulk': how many values and letters a reading holds, each counted each time it is reached (what is shared counts as often as it is met; a slice's spare places count too). A statement '..UptoSaid' is the law's where the arguments, and the package variables that the reading takes, are together of bulk at most 1048576: NARROWER than '..Said'. Prove '..Said' where nothing that the law and all that it calls make is longer than what came in: it says more and counts as full. Else prove '..UptoSaid'. A law counts once. -/
mutual
def uptoBulk {H : Type} : DataW H → Nat
  | .lit (.string bytes) => bytes.length + 1
  | .lit _ => 1
  | .nil => 1
  | .ptr d => uptoBulk d + 1
  | .slice elems spare => uptoBulkAll elems + uptoBulkAll spare + 1
  | .agg parts => uptoBulkAll parts + 1
  | .iface _ d => uptoBulk d + 1
  | .map entries => uptoBulkEntries entries + 1
  | .held _ => 1
def uptoBulkAll {H : Type} : List (DataW H) → Nat
  | [] => 0
  | d :: r => uptoBulk d + uptoBulkAll r
def uptoBulkEntries {H : Type} : List (Lit × DataW H) → Nat
  | [] => 0
  | x :: r => uptoBulkEntry x + uptoBulkEntries r
def uptoBulkEntry {H : Type} : Lit × DataW H → Nat
  | (.string bytes, d) => bytes.length + uptoBulk d + 1
  | (_, d) => uptoBulk d + 1
 end
def uptoSmall : (H : Type) → List (DataW H) → Bool := fun _ ds => decide (uptoBulkAll ds ≤ 1048576)
def OpenSpec.upto (s : _root_.Go.ChangeSpec) : _root_.Go.OpenSpec := { _root_.Go.OpenSpec.ofChange s with cond := some uptoSmall }

/-- 'posthornlaw10.ParamXtexts', WHERE WHAT IT READS IS OF BULK AT MOST 1048576: true; the input reads as it did. -/
def paramXtextsUptoRow : OpenClaim := { program := "ytjlpfijbnflknaadoor", sum := "3df03b8c29e47d3a3d235e7359dab0eaa26abb5ea86d10b1e256b51435f6cfd2", func := "posthorn/posthornlaw10.ParamXtexts", spec := "paramXtexts", inPlace := ["internal/abi.NoEscape"], recurses := true, named := ["posthorn/octet.stretches"], apart := false, laid := [("posthorn/octet.stretches", laid_posthorn_octet_stretches)], narrowed := true }
def ParamXtextsUptoSaid : Prop := paramXtextsUptoRow.holds Tryd.pinned (OpenSpec.upto paramXtextsSpec)

/-- 'posthornlaw10.ParamPrints', WHERE WHAT IT READS IS OF BULK AT MOST 1048576: true; the input reads as it did. -/
def paramPrintsUptoRow : OpenClaim := { program := "ytjlpfijbnflknaadoor", sum := "3df03b8c29e47d3a3d235e7359dab0eaa26abb5ea86d10b1e256b51435f6cfd2", func := "posthorn/posthornlaw10.ParamPrints", spec := "paramPrints", inPlace := ["internal/abi.NoEscape"], recurses := true, named := ["posthorn/octet.stretches"], apart := false, laid := [("posthorn/octet.stretches", laid_posthorn_octet_stretches)], narrowed := true }
def ParamPrintsUptoSaid : Prop := paramPrintsUptoRow.holds Tryd.pinned (OpenSpec.upto paramPrintsSpec)

/-- 'posthornlaw30.BounceWants', WHERE WHAT IT READS IS OF BULK AT MOST 1048576: true; the input reads as it did. -/
def bounceWantsUptoRow : OpenClaim := { program := "ytjlpfijbnflknaadoor", sum := "3df03b8c29e47d3a3d235e7359dab0eaa26abb5ea86d10b1e256b51435f6cfd2", func := "posthorn/posthornlaw30.BounceWants", spec := "bounceWants", inPlace := ["internal/bytealg.IndexByte", "internal/bytealg.Index"], recurses := true, named := ["internal/bytealg.MaxLen", "posthorn/octet.stretches"], apart := false, laid := [("posthorn/octet.stretches", laid_posthorn_octet_stretches)], narrowed := true }
def BounceWantsUptoSaid : Prop := bounceWantsUptoRow.holds Tryd.pinned (OpenSpec.upto bounceWantsSpec)

/-- 'posthornlaw30.BounceBounds', WHERE WHAT IT READS IS OF BULK AT MOST 1048576: true; the input reads as it did. -/
def bounceBoundsUptoRow : OpenClaim := { program := "ytjlpfijbnflknaadoor", sum := "3df03b8c29e47d3a3d235e7359dab0eaa26abb5ea86d10b1e256b51435f6cfd2", func := "posthorn/posthornlaw30.BounceBounds", spec := "bounceBounds", inPlace := ["internal/bytealg.IndexByte", "internal/bytealg.Index"], recurses := true, named := ["internal/bytealg.MaxLen", "posthorn/octet.stretches"], apart := false, laid := [("posthorn/octet.stretches", laid_posthorn_octet_stretches)], narrowed := true }
def BounceBoundsUptoSaid : Prop := bounceBoundsUptoRow.holds Tryd.pinned (OpenSpec.upto bounceBoundsSpec)

/-- 'posthornlaw30.BounceParts', WHERE WHAT IT READS IS OF BULK AT MOST 1048576: true; the input reads as it did. -/
def bouncePartsUptoRow : OpenClaim := { program := "ytjlpfijbnflknaadoor", sum := "3df03b8c29e47d3a3d235e7359dab0eaa26abb5ea86d10b1e256b51435f6cfd2", func := "posthorn/posthornlaw30.BounceParts", spec := "bounceParts", inPlace := ["internal/bytealg.IndexByte", "internal/bytealg.Index"], recurses := true, named := ["internal/bytealg.MaxLen", "posthorn/octet.stretches"], apart := false, laid := [("posthorn/octet.stretches", laid_posthorn_octet_stretches)], narrowed := true }
def BouncePartsUptoSaid : Prop := bouncePartsUptoRow.holds Tryd.pinned (OpenSpec.upto bouncePartsSpec)

/-- 'posthornlaw30.BouncePartsBack', WHERE WHAT IT READS IS OF BULK AT MOST 1048576: true; the input reads as it did. -/
def bouncePartsBackUptoRow : OpenClaim := { program := "ytjlpfijbnflknaadoor", sum := "3df03b8c29e47d3a3d235e7359dab0eaa26abb5ea86d10b1e256b51435f6cfd2", func := "posthorn/posthornlaw30.BouncePartsBack", spec := "bouncePartsBack", inPlace := ["internal/bytealg.IndexByte", "internal/bytealg.Index"], recurses := true, named := ["internal/bytealg.MaxLen", "posthorn/octet.stretches"], apart := false, laid := [("posthorn/octet.stretches", laid_posthorn_octet_stretches)], narrowed := true }
def BouncePartsBackUptoSaid : Prop := bouncePartsBackUptoRow.holds Tryd.pinned (OpenSpec.upto bouncePartsBackSpec)

/-- 'posthornlaw10.ParamParses', WHERE WHAT IT READS IS OF BULK AT MOST 1048576: true; the input reads as it did. -/
def paramParsesUptoRow : OpenClaim := { program := "ytjlpfijbnflknaadoor", sum := "3df03b8c29e47d3a3d235e7359dab0eaa26abb5ea86d10b1e256b51435f6cfd2", func := "posthorn/posthornlaw10.ParamParses", spec := "paramParses", inPlace := ["internal/bytealg.IndexByteString", "internal/bytealg.IndexString"], unfollowed := true, recurses := true, named := ["posthorn/octet.stretches", "internal/bytealg.MaxLen"], apart := false, laid := [("posthorn/octet.stretches", laid_posthorn_octet_stretches)], narrowed := true }
def ParamParsesUptoSaid : Prop := paramParsesUptoRow.holds Tryd.pinned (OpenSpec.upto paramParsesSpec)

end Rows
end Go.Proofs.YtjlpfijbnflknaaDoor
