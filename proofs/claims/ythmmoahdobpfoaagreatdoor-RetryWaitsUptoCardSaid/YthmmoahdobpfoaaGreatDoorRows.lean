/-
  NARROWER THAN 'FOR EVERY INPUT', by the rows' own cells (each row's printed sentence says how): RetryWaits: laid · RetryEnds: laid.
  DERIVED. THE GIVEN ROWS OF THIS SEAT. 2 by the template 'for every input the law returns true; each argument reads behind the call as it read before'; 0 by the template 'total and deterministic' (their statements: YthmmoahdobpfoaaGreatDoorTotals.lean).
  GIVEN WITH THE SEED: the statements are not yours to turn. If you find one false, say at which input.
  Laid BY PROGRAM, IN A SANDBOX (cutbox-rows.mjs): the forced cells as the released guide's own fill.sh prints them over the translation 6ea8dd5e4247a8fa… (all of the seat's roots in one cut). By AI agents, Wed Nov 11 2026. No macro, syntax, notation, axiom, sorry.
-/
import Derived.Test.YthmmoahdobpfoaaGreatDoorChecked
import GoSem.PinnedTables
import GoSem.Claim
import GoSem.ClaimJoined
import GoSem.ClaimMapViews
import Derived.JoinedTies
import Derived.KernelRfl
namespace Go.Proofs.YthmmoahdobpfoaaGreatDoor
/- THE CELL 'sum', in the pinned program and in every row, IS THE sha256 OF THE DUMP (.gsa) THAT YthmmoahdobpfoaaGreatDoorProg.lean LOADS. Nothing in Lean hashes anything: it is a label: what it is worth is what the hold of that sum in a sandbox is worth. -/
noncomputable def Tryz.pinned : Pinned := { name := "ythmmoahdobpfoaagreatdoor", sum := "6ea8dd5e4247a8faab3050843c7e2e8821fead57212b3c5fc27fd82fddd81607", checked := Tryz.checked }
namespace Rows
def none {H : Type} : Left H := { results := [], args := [] }

/- WHAT THE LISTED PACKAGE-LEVEL VARIABLES READ AS WHEN THE CALL BEGINS. Each datum BY PROGRAM (the guide's laid-datum.mjs) off the statement by which the dump's own 'gosem.cut.vars' lays the variable. In a bare row this is a premise. The card (YthmmoahdobpfoaaGreatDoorCards.lean) ties it to the program's text. -/
def laid_unicode_utf8_acceptRanges {H : Type} : DataW H := .agg [.agg [.lit (.int .u8 128), .lit (.int .u8 191)], .agg [.lit (.int .u8 160), .lit (.int .u8 191)], .agg [.lit (.int .u8 128), .lit (.int .u8 159)], .agg [.lit (.int .u8 144), .lit (.int .u8 191)], .agg [.lit (.int .u8 128), .lit (.int .u8 143)], .agg [.lit (.int .u8 0), .lit (.int .u8 0)], .agg [.lit (.int .u8 0), .lit (.int .u8 0)], .agg [.lit (.int .u8 0), .lit (.int .u8 0)], .agg [.lit (.int .u8 0), .lit (.int .u8 0)], .agg [.lit (.int .u8 0), .lit (.int .u8 0)], .agg [.lit (.int .u8 0), .lit (.int .u8 0)], .agg [.lit (.int .u8 0), .lit (.int .u8 0)], .agg [.lit (.int .u8 0), .lit (.int .u8 0)], .agg [.lit (.int .u8 0), .lit (.int .u8 0)], .agg [.lit (.int .u8 0), .lit (.int .u8 0)], .agg [.lit (.int .u8 0), .lit (.int .u8 0)]]
def laid_posthorn_octet_stretches {H : Type} : DataW H := .agg [.agg [.lit (.int .i64 1), .lit (.int .u8 65), .lit (.int .u8 90)], .agg [.lit (.int .i64 1), .lit (.int .u8 97), .lit (.int .u8 122)], .agg [.lit (.int .i64 2), .lit (.int .u8 48), .lit (.int .u8 57)], .agg [.lit (.int .i64 3), .lit (.int .u8 65), .lit (.int .u8 90)], .agg [.lit (.int .i64 3), .lit (.int .u8 97), .lit (.int .u8 122)], .agg [.lit (.int .i64 3), .lit (.int .u8 48), .lit (.int .u8 57)], .agg [.lit (.int .i64 4), .lit (.int .u8 48), .lit (.int .u8 57)], .agg [.lit (.int .i64 4), .lit (.int .u8 65), .lit (.int .u8 70)], .agg [.lit (.int .i64 4), .lit (.int .u8 97), .lit (.int .u8 102)], .agg [.lit (.int .i64 5), .lit (.int .u8 33), .lit (.int .u8 33)], .agg [.lit (.int .i64 5), .lit (.int .u8 35), .lit (.int .u8 39)], .agg [.lit (.int .i64 5), .lit (.int .u8 42), .lit (.int .u8 43)], .agg [.lit (.int .i64 5), .lit (.int .u8 45), .lit (.int .u8 45)], .agg [.lit (.int .i64 5), .lit (.int .u8 47), .lit (.int .u8 47)], .agg [.lit (.int .i64 5), .lit (.int .u8 61), .lit (.int .u8 61)], .agg [.lit (.int .i64 5), .lit (.int .u8 63), .lit (.int .u8 63)], .agg [.lit (.int .i64 5), .lit (.int .u8 94), .lit (.int .u8 96)], .agg [.lit (.int .i64 5), .lit (.int .u8 123), .lit (.int .u8 126)], .agg [.lit (.int .i64 6), .lit (.int .u8 32), .lit (.int .u8 33)], .agg [.lit (.int .i64 6), .lit (.int .u8 35), .lit (.int .u8 91)], .agg [.lit (.int .i64 6), .lit (.int .u8 93), .lit (.int .u8 126)], .agg [.lit (.int .i64 7), .lit (.int .u8 33), .lit (.int .u8 90)], .agg [.lit (.int .i64 7), .lit (.int .u8 94), .lit (.int .u8 126)], .agg [.lit (.int .i64 8), .lit (.int .u8 33), .lit (.int .u8 60)], .agg [.lit (.int .i64 8), .lit (.int .u8 62), .lit (.int .u8 126)], .agg [.lit (.int .i64 9), .lit (.int .u8 33), .lit (.int .u8 42)], .agg [.lit (.int .i64 9), .lit (.int .u8 44), .lit (.int .u8 60)], .agg [.lit (.int .i64 9), .lit (.int .u8 62), .lit (.int .u8 126)], .agg [.lit (.int .i64 10), .lit (.int .u8 45), .lit (.int .u8 45)], .agg [.lit (.int .i64 11), .lit (.int .u8 33), .lit (.int .u8 57)], .agg [.lit (.int .i64 11), .lit (.int .u8 59), .lit (.int .u8 126)], .agg [.lit (.int .i64 12), .lit (.int .u8 9), .lit (.int .u8 9)], .agg [.lit (.int .i64 12), .lit (.int .u8 32), .lit (.int .u8 126)], .agg [.lit (.int .i64 13), .lit (.int .u8 0), .lit (.int .u8 127)], .agg [.lit (.int .i64 14), .lit (.int .u8 128), .lit (.int .u8 255)]]
/-- One of Go's own tables, pinned by name: the form's constant. -/
def laid_unicode_utf8_first : DataW Unit := Go.Pinned.utf8First

/-- 'posthornlaw29.RetryWaits': WHATEVER THE INPUT: true; the input reads as it did. -/
def retryWaitsSpec : ChangeSpec := { name := "retryWaits", fn := fun _ => fun
  | [d1, d2] => { results := [.lit (.bool true)], args := [d1, d2] }
  | _ => none }
def retryWaitsRow : OpenClaim := { program := "ythmmoahdobpfoaagreatdoor", sum := "6ea8dd5e4247a8faab3050843c7e2e8821fead57212b3c5fc27fd82fddd81607", func := "posthorn/posthornlaw29.RetryWaits", spec := "retryWaits", inPlace := ["internal/bytealg.IndexByteString", "internal/bytealg.CountString", "internal/bytealg.IndexString", "internal/abi.NoEscape", "internal/bytealg.MakeNoZero"], unfollowed := true, recurses := true, named := ["posthorn/octet.stretches", "unicode/utf8.first", "unicode/utf8.acceptRanges", "internal/bytealg.MaxLen"], apart := false, laid := [("unicode/utf8.acceptRanges", laid_unicode_utf8_acceptRanges), ("posthorn/octet.stretches", laid_posthorn_octet_stretches), ("unicode/utf8.first", laid_unicode_utf8_first)] }
def RetryWaitsSaid : Prop := retryWaitsRow.holds Tryz.pinned (OpenSpec.ofChange retryWaitsSpec)

/-- ITS FALSE NEIGHBOUR: 'it returns false'. Refute it at one input. -/
def retryWaitsWrong : ChangeSpec := { name := "retryWaits", fn := fun _ => fun
  | [d1, d2] => { results := [.lit (.bool false)], args := [d1, d2] }
  | _ => none }
def RetryWaitsWrongFalsely : Prop := retryWaitsRow.holds Tryz.pinned (OpenSpec.ofChange retryWaitsWrong)

/-- 'posthornlaw29.RetryEnds': WHATEVER THE INPUT: true; the input reads as it did. -/
def retryEndsSpec : ChangeSpec := { name := "retryEnds", fn := fun _ => fun
  | [d1, d2] => { results := [.lit (.bool true)], args := [d1, d2] }
  | _ => none }
def retryEndsRow : OpenClaim := { program := "ythmmoahdobpfoaagreatdoor", sum := "6ea8dd5e4247a8faab3050843c7e2e8821fead57212b3c5fc27fd82fddd81607", func := "posthorn/posthornlaw29.RetryEnds", spec := "retryEnds", inPlace := ["internal/bytealg.IndexByteString", "internal/bytealg.CountString", "internal/bytealg.IndexString", "internal/abi.NoEscape", "internal/bytealg.MakeNoZero"], unfollowed := true, recurses := true, named := ["posthorn/octet.stretches", "unicode/utf8.first", "unicode/utf8.acceptRanges", "internal/bytealg.MaxLen"], apart := false, laid := [("unicode/utf8.acceptRanges", laid_unicode_utf8_acceptRanges), ("posthorn/octet.stretches", laid_posthorn_octet_stretches), ("unicode/utf8.first", laid_unicode_utf8_first)] }
def RetryEndsSaid : Prop := retryEndsRow.holds Tryz.pinned (OpenSpec.ofChange retryEndsSpec)

/-- ITS FALSE NEIGHBOUR: 'it returns false'. Refute it at one input. -/
def retryEndsWrong : ChangeSpec := { name := "retryEnds", fn := fun _ => fun
  | [d1, d2] => { results := [.lit (.bool false)], args := [d1, d2] }
  | _ => none }
def RetryEndsWrongFalsely : Prop := retryEndsRow.holds Tryz.pinned (OpenSpec.ofChange retryEndsWrong)

/- THE SECOND FORM. 'bulk': how many values and letters a reading holds, each counted each time it is reached (what is shared counts as often as it is met; a slice's spare places count too). A statement '..UptoSaid' is the law's where the arguments, and the package variables that the reading takes, are together of bulk at most 1048576: NARROWER than '..Said'. Prove '..Said' where nothing that the law and all that it calls make is longer than what came in: it says more and counts as full. Else prove '..UptoSaid'. A law counts once. -/
mutual
def uptoBulk {H : Type} : DataW H → Nat
  | .lit (.string bytes) => bytes.length + 1
  | .lit _ => 1
  | .nil => 1
  | .ptr d => uptoBulk d + 1
  | .slice elems spare => uptoBulkAll elems + uptoBulkAll spare + 1
  | .agg parts => uptoBulkAll parts + 1
  | .iface _ d => uptoBulk d + 1
  | .map entries => uptoBulkEntries entries + 1
  | .held _ => 1
def uptoBulkAll {H : Type} : List (DataW H) → Nat
  | [] => 0
  | d :: r => uptoBulk d + uptoBulkAll r
def uptoBulkEntries {H : Type} : List (Lit × DataW H) → Nat
  | [] => 0
  | x :: r => uptoBulkEntry x + uptoBulkEntries r
def uptoBulkEntry {H : Type} : Lit × DataW H → Nat
  | (.string bytes, d) => bytes.length + uptoBulk d + 1
  | (_, d) => uptoBulk d + 1
 end
def uptoSmall : (H : Type) → List (DataW H) → Bool := fun _ ds => decide (uptoBulkAll ds ≤ 1048576)
def OpenSpec.upto (s : _root_.Go.ChangeSpec) : _root_.Go.OpenSpec := { _root_.Go.OpenSpec.ofChange s with cond := some uptoSmall }

/-- 'posthornlaw29.RetryWaits', WHERE WHAT IT READS IS OF BULK AT MOST 1048576: true; the input reads as it did. -/
def retryWaitsUptoRow : OpenClaim := { program := "ythmmoahdobpfoaagreatdoor", sum := "6ea8dd5e4247a8faab3050843c7e2e8821fead57212b3c5fc27fd82fddd81607", func := "posthorn/posthornlaw29.RetryWaits", spec := "retryWaits", inPlace := ["internal/bytealg.IndexByteString", "internal/bytealg.CountString", "internal/bytealg.IndexString", "internal/abi.NoEscape", "internal/bytealg.MakeNoZero"], unfollowed := true, recurses := true, named := ["posthorn/octet.stretches", "unicode/utf8.first", "unicode/utf8.acceptRanges", "internal/bytealg.MaxLen"], apart := false, laid := [("unicode/utf8.acceptRanges", laid_unicode_utf8_acceptRanges), ("posthorn/octet.stretches", laid_posthorn_octet_stretches), ("unicode/utf8.first", laid_unicode_utf8_first)], narrowed := true }
def RetryWaitsUptoSaid : Prop := retryWaitsUptoRow.holds Tryz.pinned (OpenSpec.upto retryWaitsSpec)

/-- 'posthornlaw29.RetryEnds', WHERE WHAT IT READS IS OF BULK AT MOST 1048576: true; the input reads as it did. -/
def retryEndsUptoRow : OpenClaim := { program := "ythmmoahdobpfoaagreatdoor", sum := "6ea8dd5e4247a8faab3050843c7e2e8821fead57212b3c5fc27fd82fddd81607", func := "posthorn/posthornlaw29.RetryEnds", spec := "retryEnds", inPlace := ["internal/bytealg.IndexByteString", "internal/bytealg.CountString", "internal/bytealg.IndexString", "internal/abi.NoEscape", "internal/bytealg.MakeNoZero"], unfollowed := true, recurses := true, named := ["posthorn/octet.stretches", "unicode/utf8.first", "unicode/utf8.acceptRanges", "internal/bytealg.MaxLen"], apart := false, laid := [("unicode/utf8.acceptRanges", laid_unicode_utf8_acceptRanges), ("posthorn/octet.stretches", laid_posthorn_octet_stretches), ("unicode/utf8.first", laid_unicode_utf8_first)], narrowed := true }
def RetryEndsUptoSaid : Prop := retryEndsUptoRow.holds Tryz.pinned (OpenSpec.upto retryEndsSpec)

end Rows
end Go.Proofs.YthmmoahdobpfoaaGreatDoor
