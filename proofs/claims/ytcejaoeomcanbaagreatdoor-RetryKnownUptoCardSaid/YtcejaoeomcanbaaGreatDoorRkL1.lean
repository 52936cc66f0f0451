/- A part of the proof of the statement that this claim hands in: what single functions come to. There are no conditions. -/
import Derived.Test.YtcejaoeomcanbaaGreatDoorProg
import Derived.KernelRfl
import Derived.Test.YtcejaoeomcanbaaGreatDoorXEv35
import Derived.Test.YtcejaoeomcanbaaGreatDoorXEv4
set_option linter.unusedVariables false
set_option linter.unusedSimpArgs false
set_option linter.unusedSectionVars false
namespace Go.Proofs.YtcejaoeomcanbaaGreatDoor.retryKnown
open Go.Ev
/-- The table of octet: class, first byte, last byte. -/
def tab : List (Int × Nat × Nat) := [(1, 65, 90), (1, 97, 122), (2, 48, 57), (3, 65, 90), (3, 97, 122), (3, 48, 57), (4, 48, 57), (4, 65, 70), (4, 97, 102), (5, 33, 33), (5, 35, 39), (5, 42, 43), (5, 45, 45), (5, 47, 47), (5, 61, 61), (5, 63, 63), (5, 94, 96), (5, 123, 126), (6, 32, 33), (6, 35, 91), (6, 93, 126), (7, 33, 90), (7, 94, 126), (8, 33, 60), (8, 62, 126), (9, 33, 42), (9, 44, 60), (9, 62, 126), (10, 45, 45), (11, 33, 57), (11, 59, 126), (12, 9, 9), (12, 32, 126), (13, 0, 127), (14, 128, 255)]
def tabCells (x : Int × Nat × Nat) : List EV := [.int .i64 x.1, .int .u8 (x.2.1 : Nat), .int .u8 (x.2.2 : Nat)]
def tabRow : List EV := (tab.map tabCells).flatten
/-- What the package-level variables hold that are read: the table of octet. -/
def tabG : Globs := fun g => if g = 1 then some tabRow else none
end Go.Proofs.YtcejaoeomcanbaaGreatDoor.retryKnown

namespace Go.Proofs.YtcejaoeomcanbaaGreatDoor.retryKnown
open Go.Ev hiding Comes
open Go.Ev (FitsO OrcOk OrcRun GPlain)

theorem mixW : Tryz.prog.follows .mixedOrders = true := by kernel_rfl
noncomputable def K0 : FuncId → Option EFunc := getF Tryz.prog
theorem fits0 : FitsO Tryz.prog K0 := fun _ _ h => .inl h
theorem ok0 (base : Nat) (w0 : World) : OrcOk Tryz.prog K0 tabG base w0 := by
  intro f ef o args m v j w vs hf hp ho hm hv
  exact absurd hp (getF_num hf)
theorem gplain : GPlain tabG := by
  intro g cs h
  unfold tabG at h
  split at h
  · cases h; exact (show tabRow.all plainV = true by kernel_rfl)
  · cases h
def k_octet_Is : List (List EV × EV) := [([.int .i64 3, .int .u8 97], .bool true),
  ([.int .i64 10, .int .u8 97], .bool true),
  ([.int .i64 3, .int .u8 101], .bool true),
  ([.int .i64 10, .int .u8 101], .bool true),
  ([.int .i64 3, .int .u8 120], .bool true),
  ([.int .i64 10, .int .u8 120], .bool true),
  ([.int .i64 3, .int .u8 109], .bool true),
  ([.int .i64 10, .int .u8 109], .bool true),
  ([.int .i64 3, .int .u8 112], .bool true),
  ([.int .i64 10, .int .u8 112], .bool true),
  ([.int .i64 3, .int .u8 108], .bool true),
  ([.int .i64 10, .int .u8 108], .bool true),
  ([.int .i64 3, .int .u8 66], .bool true),
  ([.int .i64 10, .int .u8 66], .bool true),
  ([.int .i64 3, .int .u8 98], .bool true),
  ([.int .i64 10, .int .u8 98], .bool true),
  ([.int .i64 13, .int .u8 97], .bool true),
  ([.int .i64 13, .int .u8 101], .bool true),
  ([.int .i64 13, .int .u8 120], .bool true),
  ([.int .i64 13, .int .u8 109], .bool true),
  ([.int .i64 13, .int .u8 112], .bool true),
  ([.int .i64 13, .int .u8 108], .bool true),
  ([.int .i64 13, .int .u8 98], .bool true)]
theorem k_octet_Is_run : OrcRun K0 tabG 62 (few k_octet_Is) := OrcRun.all (k := 3000) (by kernel_rfl)
noncomputable def K1 : FuncId → Option EFunc := over K0 62 (few k_octet_Is)
theorem fits1 : FitsO Tryz.prog K1 := FitsO.over fits0
theorem ok1 : ∀ base w0, OrcOk Tryz.prog K1 tabG base w0 := OrcOk.over mixW fits0 gplain ok0 (by kernel_rfl) k_octet_Is_run
def k_domain_Check : List (List EV × EV) := [([.agg [.int .i64 1, .str [97, 46, 101, 120, 97, 109, 112, 108, 101], .int .u8 0, .int .u8 0, .int .u8 0, .int .u8 0, .int .u8 0, .int .u8 0, .int .u8 0, .int .u8 0, .int .u8 0, .int .u8 0, .int .u8 0, .int .u8 0, .int .u8 0, .int .u8 0, .int .u8 0, .int .u8 0], .bool true], .int .i64 0),
  ([.agg [.int .i64 1, .str [66, 46, 101, 120, 97, 109, 112, 108, 101], .int .u8 0, .int .u8 0, .int .u8 0, .int .u8 0, .int .u8 0, .int .u8 0, .int .u8 0, .int .u8 0, .int .u8 0, .int .u8 0, .int .u8 0, .int .u8 0, .int .u8 0, .int .u8 0, .int .u8 0, .int .u8 0], .bool true], .int .i64 0),
  ([.agg [.int .i64 1, .str [98, 46, 101, 120, 97, 109, 112, 108, 101], .int .u8 0, .int .u8 0, .int .u8 0, .int .u8 0, .int .u8 0, .int .u8 0, .int .u8 0, .int .u8 0, .int .u8 0, .int .u8 0, .int .u8 0, .int .u8 0, .int .u8 0, .int .u8 0, .int .u8 0, .int .u8 0], .bool true], .int .i64 0),
  ([.agg [.int .i64 0, .str [], .int .u8 0, .int .u8 0, .int .u8 0, .int .u8 0, .int .u8 0, .int .u8 0, .int .u8 0, .int .u8 0, .int .u8 0, .int .u8 0, .int .u8 0, .int .u8 0, .int .u8 0, .int .u8 0, .int .u8 0, .int .u8 0], .bool true], .int .i64 2),
  ([.agg [.int .i64 1, .str [97], .int .u8 0, .int .u8 0, .int .u8 0, .int .u8 0, .int .u8 0, .int .u8 0, .int .u8 0, .int .u8 0, .int .u8 0, .int .u8 0, .int .u8 0, .int .u8 0, .int .u8 0, .int .u8 0, .int .u8 0, .int .u8 0], .bool true], .int .i64 0)]
theorem k_domain_Check_run : OrcRun K1 tabG 26 (few k_domain_Check) := OrcRun.all (k := 3000) (by kernel_rfl)
noncomputable def K2 : FuncId → Option EFunc := over K1 26 (few k_domain_Check)
theorem fits2 : FitsO Tryz.prog K2 := FitsO.over fits1
theorem ok2 : ∀ base w0, OrcOk Tryz.prog K2 tabG base w0 := OrcOk.over mixW fits1 gplain ok1 (by kernel_rfl) k_domain_Check_run
def k_domain_Ascii : List (List EV × EV) := [([.agg [.int .i64 1, .str [97, 46, 101, 120, 97, 109, 112, 108, 101], .int .u8 0, .int .u8 0, .int .u8 0, .int .u8 0, .int .u8 0, .int .u8 0, .int .u8 0, .int .u8 0, .int .u8 0, .int .u8 0, .int .u8 0, .int .u8 0, .int .u8 0, .int .u8 0, .int .u8 0, .int .u8 0]], .tuple [.agg [.int .i64 1, .str [97, 46, 101, 120, 97, 109, 112, 108, 101], .int .u8 0, .int .u8 0, .int .u8 0, .int .u8 0, .int .u8 0, .int .u8 0, .int .u8 0, .int .u8 0, .int .u8 0, .int .u8 0, .int .u8 0, .int .u8 0, .int .u8 0, .int .u8 0, .int .u8 0, .int .u8 0], .int .i64 0]),
  ([.agg [.int .i64 1, .str [66, 46, 101, 120, 97, 109, 112, 108, 101], .int .u8 0, .int .u8 0, .int .u8 0, .int .u8 0, .int .u8 0, .int .u8 0, .int .u8 0, .int .u8 0, .int .u8 0, .int .u8 0, .int .u8 0, .int .u8 0, .int .u8 0, .int .u8 0, .int .u8 0, .int .u8 0]], .tuple [.agg [.int .i64 1, .str [98, 46, 101, 120, 97, 109, 112, 108, 101], .int .u8 0, .int .u8 0, .int .u8 0, .int .u8 0, .int .u8 0, .int .u8 0, .int .u8 0, .int .u8 0, .int .u8 0, .int .u8 0, .int .u8 0, .int .u8 0, .int .u8 0, .int .u8 0, .int .u8 0, .int .u8 0], .int .i64 0]),
  ([.agg [.int .i64 1, .str [98, 46, 101, 120, 97, 109, 112, 108, 101], .int .u8 0, .int .u8 0, .int .u8 0, .int .u8 0, .int .u8 0, .int .u8 0, .int .u8 0, .int .u8 0, .int .u8 0, .int .u8 0, .int .u8 0, .int .u8 0, .int .u8 0, .int .u8 0, .int .u8 0, .int .u8 0]], .tuple [.agg [.int .i64 1, .str [98, 46, 101, 120, 97, 109, 112, 108, 101], .int .u8 0, .int .u8 0, .int .u8 0, .int .u8 0, .int .u8 0, .int .u8 0, .int .u8 0, .int .u8 0, .int .u8 0, .int .u8 0, .int .u8 0, .int .u8 0, .int .u8 0, .int .u8 0, .int .u8 0, .int .u8 0], .int .i64 0])]
theorem k_domain_Ascii_run : OrcRun K2 tabG 50 (few k_domain_Ascii) := OrcRun.all (k := 3000) (by kernel_rfl)
noncomputable def K3 : FuncId → Option EFunc := over K2 50 (few k_domain_Ascii)
theorem fits3 : FitsO Tryz.prog K3 := FitsO.over fits2
theorem ok3 : ∀ base w0, OrcOk Tryz.prog K3 tabG base w0 := OrcOk.over mixW fits2 gplain ok2 (by kernel_rfl) k_domain_Ascii_run
def k_domain_Same : List (List EV × EV) := [([.agg [.int .i64 1, .str [97, 46, 101, 120, 97, 109, 112, 108, 101], .int .u8 0, .int .u8 0, .int .u8 0, .int .u8 0, .int .u8 0, .int .u8 0, .int .u8 0, .int .u8 0, .int .u8 0, .int .u8 0, .int .u8 0, .int .u8 0, .int .u8 0, .int .u8 0, .int .u8 0, .int .u8 0], .agg [.int .i64 1, .str [66, 46, 101, 120, 97, 109, 112, 108, 101], .int .u8 0, .int .u8 0, .int .u8 0, .int .u8 0, .int .u8 0, .int .u8 0, .int .u8 0, .int .u8 0, .int .u8 0, .int .u8 0, .int .u8 0, .int .u8 0, .int .u8 0, .int .u8 0, .int .u8 0, .int .u8 0]], .bool false),
  ([.agg [.int .i64 1, .str [97, 46, 101, 120, 97, 109, 112, 108, 101], .int .u8 0, .int .u8 0, .int .u8 0, .int .u8 0, .int .u8 0, .int .u8 0, .int .u8 0, .int .u8 0, .int .u8 0, .int .u8 0, .int .u8 0, .int .u8 0, .int .u8 0, .int .u8 0, .int .u8 0, .int .u8 0], .agg [.int .i64 1, .str [98, 46, 101, 120, 97, 109, 112, 108, 101], .int .u8 0, .int .u8 0, .int .u8 0, .int .u8 0, .int .u8 0, .int .u8 0, .int .u8 0, .int .u8 0, .int .u8 0, .int .u8 0, .int .u8 0, .int .u8 0, .int .u8 0, .int .u8 0, .int .u8 0, .int .u8 0]], .bool false),
  ([.agg [.int .i64 1, .str [66, 46, 101, 120, 97, 109, 112, 108, 101], .int .u8 0, .int .u8 0, .int .u8 0, .int .u8 0, .int .u8 0, .int .u8 0, .int .u8 0, .int .u8 0, .int .u8 0, .int .u8 0, .int .u8 0, .int .u8 0, .int .u8 0, .int .u8 0, .int .u8 0, .int .u8 0], .agg [.int .i64 1, .str [98, 46, 101, 120, 97, 109, 112, 108, 101], .int .u8 0, .int .u8 0, .int .u8 0, .int .u8 0, .int .u8 0, .int .u8 0, .int .u8 0, .int .u8 0, .int .u8 0, .int .u8 0, .int .u8 0, .int .u8 0, .int .u8 0, .int .u8 0, .int .u8 0, .int .u8 0]], .bool true)]
theorem k_domain_Same_run : OrcRun K3 tabG 29 (few k_domain_Same) := OrcRun.all (k := 3000) (by kernel_rfl)
noncomputable def K4 : FuncId → Option EFunc := over K3 29 (few k_domain_Same)
theorem fits4 : FitsO Tryz.prog K4 := FitsO.over fits3
theorem ok4 : ∀ base w0, OrcOk Tryz.prog K4 tabG base w0 := OrcOk.over mixW fits3 gplain ok3 (by kernel_rfl) k_domain_Same_run
def isYes : Option CR → Bool
  | some ⟨.val (.bool true), _, _⟩ => true
  | _ => false
theorem isYes_spec {r : Option CR} (h : isYes r = true) : ∃ m p, r = some ⟨.val (.bool true), m, p⟩ := by
  unfold isYes at h
  split at h
  · exact ⟨_, _, rfl⟩
  · cases h
theorem run : isYes (evFunL K4 tabG 3000 3 [] ⟨[], 0⟩ none) = true := by kernel_rfl
noncomputable def T : FuncId → Option EFunc := K4
theorem fitsT : FitsO Tryz.prog T := fits4
theorem orcT : ∀ base w0, OrcOk Tryz.prog T tabG base w0 := ok4
theorem lawIs : isPlainF (T 3) = true := by kernel_rfl
/-- What the law comes to. -/
theorem lawAll : ∃ m' p', Go.Ev.Comes T tabG 3 [] ⟨[], 0⟩ none ⟨.val (.bool true), m', p'⟩ := by
  obtain ⟨m, p, e⟩ := isYes_spec run
  exact ⟨m, p, comes_of_run e⟩
end Go.Proofs.YtcejaoeomcanbaaGreatDoor.retryKnown
