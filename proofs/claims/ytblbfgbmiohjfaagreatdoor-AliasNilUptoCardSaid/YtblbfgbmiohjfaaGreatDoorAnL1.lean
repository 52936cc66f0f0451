/- A part of the proof of the statement that this claim hands in: what single functions come to. There are no conditions. -/
import Derived.Test.YtblbfgbmiohjfaaGreatDoorAnFuns
import Derived.KernelRfl
import Derived.Test.YtblbfgbmiohjfaaGreatDoorXEv29
import Derived.Test.YtblbfgbmiohjfaaGreatDoorXEv30
import Derived.Test.YtblbfgbmiohjfaaGreatDoorXEv34
import Derived.Test.YtblbfgbmiohjfaaGreatDoorXEv35
set_option linter.unusedVariables false
set_option linter.unusedSimpArgs false
set_option linter.unusedSectionVars false
namespace Go.Proofs.YtblbfgbmiohjfaaGreatDoor.aliasNil
open Go.Ev hiding Comes
/-- The table of octet: class, first byte, last byte. -/
def tab : List (Int × Nat × Nat) := [(1, 65, 90), (1, 97, 122), (2, 48, 57), (3, 65, 90), (3, 97, 122), (3, 48, 57), (4, 48, 57), (4, 65, 70), (4, 97, 102), (5, 33, 33), (5, 35, 39), (5, 42, 43), (5, 45, 45), (5, 47, 47), (5, 61, 61), (5, 63, 63), (5, 94, 96), (5, 123, 126), (6, 32, 33), (6, 35, 91), (6, 93, 126), (7, 33, 90), (7, 94, 126), (8, 33, 60), (8, 62, 126), (9, 33, 42), (9, 44, 60), (9, 62, 126), (10, 45, 45), (11, 33, 57), (11, 59, 126), (12, 9, 9), (12, 32, 126), (13, 0, 127), (14, 128, 255)]
def tabCells (x : Int × Nat × Nat) : List EV := [.int .i64 x.1, .int .u8 (x.2.1 : Nat), .int .u8 (x.2.2 : Nat)]
def tabRow : List EV := (tab.map tabCells).flatten
/-- What the package-level variables hold that are read: the table of octet. -/
class GG where
  g : Globs
  tab : g g_octet_stretches = some tabRow
def G [GG] : Globs := GG.g
theorem g_tab [GG] : G g_octet_stretches = some tabRow := GG.tab
def tabG : Globs := fun g => if g = g_octet_stretches then some tabRow else none
instance tabGG : GG := ⟨tabG, if_pos rfl⟩
end Go.Proofs.YtblbfgbmiohjfaaGreatDoor.aliasNil

namespace Go.Proofs.YtblbfgbmiohjfaaGreatDoor.aliasNil
open Go.Ev hiding Comes
open Go.Ev (FitsO OrcOk OrcRun GPlain)

theorem mixW : Tryz.prog.follows .mixedOrders = true := by kernel_rfl
noncomputable def K0 : FuncId → Option EFunc := getF Tryz.prog
theorem fits0 : FitsO Tryz.prog K0 := fun _ _ h => .inl h
theorem ok0 (base : Nat) (w0 : World) : OrcOk Tryz.prog K0 tabG base w0 := by
  intro f ef o args m v j w vs hf hp ho hm hv
  exact absurd hp (getF_num hf)
theorem gplain : GPlain tabG := by
  intro g cs h
  unfold tabG at h
  split at h
  · cases h; exact (show tabRow.all plainV = true by kernel_rfl)
  · cases h
def k_octet_Is_0 : List (List EV × EV) := [([.int .i64 3, .int .u8 101], .bool true),
  ([.int .i64 10, .int .u8 101], .bool true),
  ([.int .i64 3, .int .u8 120], .bool true),
  ([.int .i64 10, .int .u8 120], .bool true),
  ([.int .i64 3, .int .u8 97], .bool true),
  ([.int .i64 10, .int .u8 97], .bool true),
  ([.int .i64 3, .int .u8 109], .bool true),
  ([.int .i64 10, .int .u8 109], .bool true),
  ([.int .i64 3, .int .u8 112], .bool true),
  ([.int .i64 10, .int .u8 112], .bool true),
  ([.int .i64 3, .int .u8 108], .bool true),
  ([.int .i64 10, .int .u8 108], .bool true),
  ([.int .i64 13, .int .u8 101], .bool true),
  ([.int .i64 13, .int .u8 120], .bool true),
  ([.int .i64 13, .int .u8 97], .bool true),
  ([.int .i64 13, .int .u8 109], .bool true),
  ([.int .i64 13, .int .u8 112], .bool true),
  ([.int .i64 13, .int .u8 108], .bool true),
  ([.int .i64 5, .int .u8 112], .bool true),
  ([.int .i64 3, .int .u8 111], .bool true),
  ([.int .i64 5, .int .u8 111], .bool true),
  ([.int .i64 3, .int .u8 115], .bool true),
  ([.int .i64 5, .int .u8 115], .bool true),
  ([.int .i64 3, .int .u8 116], .bool true),
  ([.int .i64 5, .int .u8 116], .bool true),
  ([.int .i64 5, .int .u8 109], .bool true),
  ([.int .i64 5, .int .u8 97], .bool true),
  ([.int .i64 5, .int .u8 101], .bool true)]
theorem k_octet_Is_0_run : OrcRun K0 tabG 61 (few k_octet_Is_0) := OrcRun.all (k := 3000) (by kernel_rfl)
def k_octet_Is_1 : List (List EV × EV) := [([.int .i64 3, .int .u8 114], .bool true),
  ([.int .i64 5, .int .u8 114], .bool true),
  ([.int .i64 3, .int .u8 69], .bool true),
  ([.int .i64 10, .int .u8 69], .bool true),
  ([.int .i64 10, .int .u8 111], .bool true),
  ([.int .i64 10, .int .u8 114], .bool true),
  ([.int .i64 3, .int .u8 103], .bool true),
  ([.int .i64 10, .int .u8 103], .bool true),
  ([.int .i64 13, .int .u8 111], .bool true),
  ([.int .i64 13, .int .u8 114], .bool true),
  ([.int .i64 13, .int .u8 103], .bool true),
  ([.int .i64 3, .int .u8 102], .bool true),
  ([.int .i64 5, .int .u8 102], .bool true),
  ([.int .i64 3, .int .u8 110], .bool true),
  ([.int .i64 5, .int .u8 110], .bool true),
  ([.int .i64 3, .int .u8 98], .bool true),
  ([.int .i64 5, .int .u8 98], .bool true),
  ([.int .i64 10, .int .u8 102], .bool true),
  ([.int .i64 5, .int .u8 108], .bool true),
  ([.int .i64 5, .int .u8 120], .bool true),
  ([.int .i64 5, .int .u8 43], .bool true),
  ([.int .i64 3, .int .u8 49], .bool true),
  ([.int .i64 5, .int .u8 49], .bool true),
  ([.int .i64 3, .int .u8 100], .bool true),
  ([.int .i64 5, .int .u8 100], .bool true),
  ([.int .i64 3, .int .u8 121], .bool true),
  ([.int .i64 5, .int .u8 121], .bool true),
  ([.int .i64 13, .int .u8 102], .bool true),
  ([.int .i64 3, .int .u8 88], .bool true)]
theorem k_octet_Is_1_run : OrcRun K0 tabG 61 (few k_octet_Is_1) := OrcRun.all (k := 3000) (by kernel_rfl)
def k_octet_Is_2 : List (List EV × EV) := [([.int .i64 10, .int .u8 88], .bool true),
  ([.int .i64 3, .int .u8 65], .bool true),
  ([.int .i64 10, .int .u8 65], .bool true),
  ([.int .i64 3, .int .u8 77], .bool true),
  ([.int .i64 10, .int .u8 77], .bool true),
  ([.int .i64 3, .int .u8 80], .bool true),
  ([.int .i64 10, .int .u8 80], .bool true),
  ([.int .i64 3, .int .u8 76], .bool true),
  ([.int .i64 10, .int .u8 76], .bool true)]
theorem k_octet_Is_2_run : OrcRun K0 tabG 61 (few k_octet_Is_2) := OrcRun.all (k := 3000) (by kernel_rfl)
def k_octet_Is : List (List EV × EV) := k_octet_Is_0 ++ (k_octet_Is_1 ++ (k_octet_Is_2))
theorem k_octet_Is_run : OrcRun K0 tabG 61 (few k_octet_Is) := OrcRun.append k_octet_Is_0_run (OrcRun.append k_octet_Is_1_run (k_octet_Is_2_run))
noncomputable def K1 : FuncId → Option EFunc := over K0 61 (few k_octet_Is)
theorem fits1 : FitsO Tryz.prog K1 := FitsO.over fits0
theorem ok1 : ∀ base w0, OrcOk Tryz.prog K1 tabG base w0 := OrcOk.over mixW fits0 gplain ok0 (by kernel_rfl) k_octet_Is_run
def k_runes_Bad_string : List (List EV × EV) := [([.str [101, 120, 97, 109, 112, 108, 101]], .int .i64 7),
  ([.str [112, 111, 115, 116, 109, 97, 115, 116, 101, 114]], .int .i64 10),
  ([.str [69, 120, 97, 109, 112, 108, 101, 46, 111, 114, 103]], .int .i64 11),
  ([.str [101, 120, 97, 109, 112, 108, 101, 46, 111, 114, 103]], .int .i64 11),
  ([.str [115, 116, 97, 102, 102]], .int .i64 5),
  ([.str [97, 110, 110]], .int .i64 3),
  ([.str [98, 111, 98]], .int .i64 3),
  ([.str [98]], .int .i64 1),
  ([.str [102, 97, 114, 46, 101, 120, 97, 109, 112, 108, 101]], .int .i64 11),
  ([.str [97, 108, 108]], .int .i64 3),
  ([.str [120]], .int .i64 1),
  ([.str [114]], .int .i64 1),
  ([.str [115]], .int .i64 1),
  ([.str [114, 43, 49]], .int .i64 3),
  ([.str [108, 111, 115, 116]], .int .i64 4),
  ([.str [110, 111, 98, 111, 100, 121]], .int .i64 6),
  ([.str [69, 88, 65, 77, 80, 76, 69]], .int .i64 7)]
theorem k_runes_Bad_string_run : OrcRun K1 tabG 60 (few k_runes_Bad_string) := OrcRun.all (k := 3000) (by kernel_rfl)
noncomputable def K2 : FuncId → Option EFunc := over K1 60 (few k_runes_Bad_string)
theorem fits2 : FitsO Tryz.prog K2 := FitsO.over fits1
theorem ok2 : ∀ base w0, OrcOk Tryz.prog K2 tabG base w0 := OrcOk.over mixW fits1 gplain ok1 (by kernel_rfl) k_runes_Bad_string_run
def k_octet_Span_string : List (List EV × EV) := [([.int .i64 13, .str [101, 120, 97, 109, 112, 108, 101], .int .i64 0], .int .i64 7),
  ([.int .i64 13, .str [111, 114, 103], .int .i64 0], .int .i64 3),
  ([.int .i64 13, .str [102, 97, 114], .int .i64 0], .int .i64 3)]
theorem k_octet_Span_string_run : OrcRun K2 tabG 64 (few k_octet_Span_string) := OrcRun.all (k := 3000) (by kernel_rfl)
noncomputable def K3 : FuncId → Option EFunc := over K2 64 (few k_octet_Span_string)
theorem fits3 : FitsO Tryz.prog K3 := FitsO.over fits2
theorem ok3 : ∀ base w0, OrcOk Tryz.prog K3 tabG base w0 := OrcOk.over mixW fits2 gplain ok2 (by kernel_rfl) k_octet_Span_string_run
def k_domain_name : List (List EV × EV) := [([.str [101, 120, 97, 109, 112, 108, 101], .bool true], .agg [.int .i64 0, .int .i64 0]),
  ([.str [69, 120, 97, 109, 112, 108, 101, 46, 111, 114, 103], .bool true], .agg [.int .i64 0, .int .i64 0]),
  ([.str [101, 120, 97, 109, 112, 108, 101, 46, 111, 114, 103], .bool true], .agg [.int .i64 0, .int .i64 0]),
  ([.str [102, 97, 114, 46, 101, 120, 97, 109, 112, 108, 101], .bool true], .agg [.int .i64 0, .int .i64 0]),
  ([.str [69, 88, 65, 77, 80, 76, 69], .bool true], .agg [.int .i64 0, .int .i64 0])]
theorem k_domain_name_run : OrcRun K3 tabG 41 (few k_domain_name) := OrcRun.all (k := 3000) (by kernel_rfl)
noncomputable def K4 : FuncId → Option EFunc := over K3 41 (few k_domain_name)
theorem fits4 : FitsO Tryz.prog K4 := FitsO.over fits3
theorem ok4 : ∀ base w0, OrcOk Tryz.prog K4 tabG base w0 := OrcOk.over mixW fits3 gplain ok3 (by kernel_rfl) k_domain_name_run
def k_domain_Check : List (List EV × EV) := [([.agg [.int .i64 1, .str [101, 120, 97, 109, 112, 108, 101], .int .u8 0, .int .u8 0, .int .u8 0, .int .u8 0, .int .u8 0, .int .u8 0, .int .u8 0, .int .u8 0, .int .u8 0, .int .u8 0, .int .u8 0, .int .u8 0, .int .u8 0, .int .u8 0, .int .u8 0, .int .u8 0], .bool true], .int .i64 0),
  ([.agg [.int .i64 1, .str [69, 120, 97, 109, 112, 108, 101, 46, 111, 114, 103], .int .u8 0, .int .u8 0, .int .u8 0, .int .u8 0, .int .u8 0, .int .u8 0, .int .u8 0, .int .u8 0, .int .u8 0, .int .u8 0, .int .u8 0, .int .u8 0, .int .u8 0, .int .u8 0, .int .u8 0, .int .u8 0], .bool true], .int .i64 0),
  ([.agg [.int .i64 1, .str [101, 120, 97, 109, 112, 108, 101, 46, 111, 114, 103], .int .u8 0, .int .u8 0, .int .u8 0, .int .u8 0, .int .u8 0, .int .u8 0, .int .u8 0, .int .u8 0, .int .u8 0, .int .u8 0, .int .u8 0, .int .u8 0, .int .u8 0, .int .u8 0, .int .u8 0, .int .u8 0], .bool true], .int .i64 0),
  ([.agg [.int .i64 1, .str [102, 97, 114, 46, 101, 120, 97, 109, 112, 108, 101], .int .u8 0, .int .u8 0, .int .u8 0, .int .u8 0, .int .u8 0, .int .u8 0, .int .u8 0, .int .u8 0, .int .u8 0, .int .u8 0, .int .u8 0, .int .u8 0, .int .u8 0, .int .u8 0, .int .u8 0, .int .u8 0], .bool true], .int .i64 0),
  ([.agg [.int .i64 1, .str [69, 88, 65, 77, 80, 76, 69], .int .u8 0, .int .u8 0, .int .u8 0, .int .u8 0, .int .u8 0, .int .u8 0, .int .u8 0, .int .u8 0, .int .u8 0, .int .u8 0, .int .u8 0, .int .u8 0, .int .u8 0, .int .u8 0, .int .u8 0, .int .u8 0], .bool true], .int .i64 0)]
theorem k_domain_Check_run : OrcRun K4 tabG 28 (few k_domain_Check) := OrcRun.all (k := 3000) (by kernel_rfl)
noncomputable def K5 : FuncId → Option EFunc := over K4 28 (few k_domain_Check)
theorem fits5 : FitsO Tryz.prog K5 := FitsO.over fits4
theorem ok5 : ∀ base w0, OrcOk Tryz.prog K5 tabG base w0 := OrcOk.over mixW fits4 gplain ok4 (by kernel_rfl) k_domain_Check_run
def k_domain_Ascii : List (List EV × EV) := [([.agg [.int .i64 1, .str [101, 120, 97, 109, 112, 108, 101], .int .u8 0, .int .u8 0, .int .u8 0, .int .u8 0, .int .u8 0, .int .u8 0, .int .u8 0, .int .u8 0, .int .u8 0, .int .u8 0, .int .u8 0, .int .u8 0, .int .u8 0, .int .u8 0, .int .u8 0, .int .u8 0]], .tuple [.agg [.int .i64 1, .str [101, 120, 97, 109, 112, 108, 101], .int .u8 0, .int .u8 0, .int .u8 0, .int .u8 0, .int .u8 0, .int .u8 0, .int .u8 0, .int .u8 0, .int .u8 0, .int .u8 0, .int .u8 0, .int .u8 0, .int .u8 0, .int .u8 0, .int .u8 0, .int .u8 0], .int .i64 0]),
  ([.agg [.int .i64 1, .str [69, 120, 97, 109, 112, 108, 101, 46, 111, 114, 103], .int .u8 0, .int .u8 0, .int .u8 0, .int .u8 0, .int .u8 0, .int .u8 0, .int .u8 0, .int .u8 0, .int .u8 0, .int .u8 0, .int .u8 0, .int .u8 0, .int .u8 0, .int .u8 0, .int .u8 0, .int .u8 0]], .tuple [.agg [.int .i64 1, .str [101, 120, 97, 109, 112, 108, 101, 46, 111, 114, 103], .int .u8 0, .int .u8 0, .int .u8 0, .int .u8 0, .int .u8 0, .int .u8 0, .int .u8 0, .int .u8 0, .int .u8 0, .int .u8 0, .int .u8 0, .int .u8 0, .int .u8 0, .int .u8 0, .int .u8 0, .int .u8 0], .int .i64 0]),
  ([.agg [.int .i64 1, .str [102, 97, 114, 46, 101, 120, 97, 109, 112, 108, 101], .int .u8 0, .int .u8 0, .int .u8 0, .int .u8 0, .int .u8 0, .int .u8 0, .int .u8 0, .int .u8 0, .int .u8 0, .int .u8 0, .int .u8 0, .int .u8 0, .int .u8 0, .int .u8 0, .int .u8 0, .int .u8 0]], .tuple [.agg [.int .i64 1, .str [102, 97, 114, 46, 101, 120, 97, 109, 112, 108, 101], .int .u8 0, .int .u8 0, .int .u8 0, .int .u8 0, .int .u8 0, .int .u8 0, .int .u8 0, .int .u8 0, .int .u8 0, .int .u8 0, .int .u8 0, .int .u8 0, .int .u8 0, .int .u8 0, .int .u8 0, .int .u8 0], .int .i64 0]),
  ([.agg [.int .i64 1, .str [69, 88, 65, 77, 80, 76, 69], .int .u8 0, .int .u8 0, .int .u8 0, .int .u8 0, .int .u8 0, .int .u8 0, .int .u8 0, .int .u8 0, .int .u8 0, .int .u8 0, .int .u8 0, .int .u8 0, .int .u8 0, .int .u8 0, .int .u8 0, .int .u8 0]], .tuple [.agg [.int .i64 1, .str [101, 120, 97, 109, 112, 108, 101], .int .u8 0, .int .u8 0, .int .u8 0, .int .u8 0, .int .u8 0, .int .u8 0, .int .u8 0, .int .u8 0, .int .u8 0, .int .u8 0, .int .u8 0, .int .u8 0, .int .u8 0, .int .u8 0, .int .u8 0, .int .u8 0], .int .i64 0])]
theorem k_domain_Ascii_run : OrcRun K5 tabG 29 (few k_domain_Ascii) := OrcRun.all (k := 3000) (by kernel_rfl)
noncomputable def K6 : FuncId → Option EFunc := over K5 29 (few k_domain_Ascii)
theorem fits6 : FitsO Tryz.prog K6 := FitsO.over fits5
theorem ok6 : ∀ base w0, OrcOk Tryz.prog K6 tabG base w0 := OrcOk.over mixW fits5 gplain ok5 (by kernel_rfl) k_domain_Ascii_run
def k_domain_Print : List (List EV × EV) := [([.agg [.int .i64 1, .str [101, 120, 97, 109, 112, 108, 101], .int .u8 0, .int .u8 0, .int .u8 0, .int .u8 0, .int .u8 0, .int .u8 0, .int .u8 0, .int .u8 0, .int .u8 0, .int .u8 0, .int .u8 0, .int .u8 0, .int .u8 0, .int .u8 0, .int .u8 0, .int .u8 0]], .tuple [.str [101, 120, 97, 109, 112, 108, 101], .int .i64 0]),
  ([.agg [.int .i64 1, .str [101, 120, 97, 109, 112, 108, 101, 46, 111, 114, 103], .int .u8 0, .int .u8 0, .int .u8 0, .int .u8 0, .int .u8 0, .int .u8 0, .int .u8 0, .int .u8 0, .int .u8 0, .int .u8 0, .int .u8 0, .int .u8 0, .int .u8 0, .int .u8 0, .int .u8 0, .int .u8 0]], .tuple [.str [101, 120, 97, 109, 112, 108, 101, 46, 111, 114, 103], .int .i64 0]),
  ([.agg [.int .i64 1, .str [69, 120, 97, 109, 112, 108, 101, 46, 111, 114, 103], .int .u8 0, .int .u8 0, .int .u8 0, .int .u8 0, .int .u8 0, .int .u8 0, .int .u8 0, .int .u8 0, .int .u8 0, .int .u8 0, .int .u8 0, .int .u8 0, .int .u8 0, .int .u8 0, .int .u8 0, .int .u8 0]], .tuple [.str [69, 120, 97, 109, 112, 108, 101, 46, 111, 114, 103], .int .i64 0]),
  ([.agg [.int .i64 1, .str [102, 97, 114, 46, 101, 120, 97, 109, 112, 108, 101], .int .u8 0, .int .u8 0, .int .u8 0, .int .u8 0, .int .u8 0, .int .u8 0, .int .u8 0, .int .u8 0, .int .u8 0, .int .u8 0, .int .u8 0, .int .u8 0, .int .u8 0, .int .u8 0, .int .u8 0, .int .u8 0]], .tuple [.str [102, 97, 114, 46, 101, 120, 97, 109, 112, 108, 101], .int .i64 0])]
theorem k_domain_Print_run : OrcRun K6 tabG 31 (few k_domain_Print) := OrcRun.all (k := 3000) (by kernel_rfl)
noncomputable def K7 : FuncId → Option EFunc := over K6 31 (few k_domain_Print)
theorem fits7 : FitsO Tryz.prog K7 := FitsO.over fits6
theorem ok7 : ∀ base w0, OrcOk Tryz.prog K7 tabG base w0 := OrcOk.over mixW fits6 gplain ok6 (by kernel_rfl) k_domain_Print_run
def k_alias_hostKey : List (List EV × EV) := [([.agg [.int .i64 1, .str [101, 120, 97, 109, 112, 108, 101], .int .u8 0, .int .u8 0, .int .u8 0, .int .u8 0, .int .u8 0, .int .u8 0, .int .u8 0, .int .u8 0, .int .u8 0, .int .u8 0, .int .u8 0, .int .u8 0, .int .u8 0, .int .u8 0, .int .u8 0, .int .u8 0]], .tuple [.str [101, 120, 97, 109, 112, 108, 101], .bool true]),
  ([.agg [.int .i64 1, .str [69, 120, 97, 109, 112, 108, 101, 46, 111, 114, 103], .int .u8 0, .int .u8 0, .int .u8 0, .int .u8 0, .int .u8 0, .int .u8 0, .int .u8 0, .int .u8 0, .int .u8 0, .int .u8 0, .int .u8 0, .int .u8 0, .int .u8 0, .int .u8 0, .int .u8 0, .int .u8 0]], .tuple [.str [101, 120, 97, 109, 112, 108, 101, 46, 111, 114, 103], .bool true]),
  ([.agg [.int .i64 1, .str [102, 97, 114, 46, 101, 120, 97, 109, 112, 108, 101], .int .u8 0, .int .u8 0, .int .u8 0, .int .u8 0, .int .u8 0, .int .u8 0, .int .u8 0, .int .u8 0, .int .u8 0, .int .u8 0, .int .u8 0, .int .u8 0, .int .u8 0, .int .u8 0, .int .u8 0, .int .u8 0]], .tuple [.str [102, 97, 114, 46, 101, 120, 97, 109, 112, 108, 101], .bool true]),
  ([.agg [.int .i64 1, .str [69, 88, 65, 77, 80, 76, 69], .int .u8 0, .int .u8 0, .int .u8 0, .int .u8 0, .int .u8 0, .int .u8 0, .int .u8 0, .int .u8 0, .int .u8 0, .int .u8 0, .int .u8 0, .int .u8 0, .int .u8 0, .int .u8 0, .int .u8 0, .int .u8 0]], .tuple [.str [101, 120, 97, 109, 112, 108, 101], .bool true])]
theorem k_alias_hostKey_run : OrcRun K7 tabG 16 (few k_alias_hostKey) := OrcRun.all (k := 3000) (by kernel_rfl)
noncomputable def K8 : FuncId → Option EFunc := over K7 16 (few k_alias_hostKey)
theorem fits8 : FitsO Tryz.prog K8 := FitsO.over fits7
theorem ok8 : ∀ base w0, OrcOk Tryz.prog K8 tabG base w0 := OrcOk.over mixW fits7 gplain ok7 (by kernel_rfl) k_alias_hostKey_run
def k_path_Same : List (List EV × EV) := [([.agg [.str [97, 110, 110], .int .i64 1, .str [101, 120, 97, 109, 112, 108, 101], .int .u8 0, .int .u8 0, .int .u8 0, .int .u8 0, .int .u8 0, .int .u8 0, .int .u8 0, .int .u8 0, .int .u8 0, .int .u8 0, .int .u8 0, .int .u8 0, .int .u8 0, .int .u8 0, .int .u8 0, .int .u8 0], .agg [.str [115, 116, 97, 102, 102], .int .i64 1, .str [101, 120, 97, 109, 112, 108, 101], .int .u8 0, .int .u8 0, .int .u8 0, .int .u8 0, .int .u8 0, .int .u8 0, .int .u8 0, .int .u8 0, .int .u8 0, .int .u8 0, .int .u8 0, .int .u8 0, .int .u8 0, .int .u8 0, .int .u8 0, .int .u8 0]], .bool false),
  ([.agg [.str [98, 111, 98], .int .i64 1, .str [101, 120, 97, 109, 112, 108, 101], .int .u8 0, .int .u8 0, .int .u8 0, .int .u8 0, .int .u8 0, .int .u8 0, .int .u8 0, .int .u8 0, .int .u8 0, .int .u8 0, .int .u8 0, .int .u8 0, .int .u8 0, .int .u8 0, .int .u8 0, .int .u8 0], .agg [.str [115, 116, 97, 102, 102], .int .i64 1, .str [101, 120, 97, 109, 112, 108, 101], .int .u8 0, .int .u8 0, .int .u8 0, .int .u8 0, .int .u8 0, .int .u8 0, .int .u8 0, .int .u8 0, .int .u8 0, .int .u8 0, .int .u8 0, .int .u8 0, .int .u8 0, .int .u8 0, .int .u8 0, .int .u8 0]], .bool false),
  ([.agg [.str [98, 111, 98], .int .i64 1, .str [101, 120, 97, 109, 112, 108, 101], .int .u8 0, .int .u8 0, .int .u8 0, .int .u8 0, .int .u8 0, .int .u8 0, .int .u8 0, .int .u8 0, .int .u8 0, .int .u8 0, .int .u8 0, .int .u8 0, .int .u8 0, .int .u8 0, .int .u8 0, .int .u8 0], .agg [.str [98, 111, 98], .int .i64 1, .str [101, 120, 97, 109, 112, 108, 101], .int .u8 0, .int .u8 0, .int .u8 0, .int .u8 0, .int .u8 0, .int .u8 0, .int .u8 0, .int .u8 0, .int .u8 0, .int .u8 0, .int .u8 0, .int .u8 0, .int .u8 0, .int .u8 0, .int .u8 0, .int .u8 0]], .bool true),
  ([.agg [.str [98], .int .i64 1, .str [102, 97, 114, 46, 101, 120, 97, 109, 112, 108, 101], .int .u8 0, .int .u8 0, .int .u8 0, .int .u8 0, .int .u8 0, .int .u8 0, .int .u8 0, .int .u8 0, .int .u8 0, .int .u8 0, .int .u8 0, .int .u8 0, .int .u8 0, .int .u8 0, .int .u8 0, .int .u8 0], .agg [.str [98, 111, 98], .int .i64 1, .str [101, 120, 97, 109, 112, 108, 101], .int .u8 0, .int .u8 0, .int .u8 0, .int .u8 0, .int .u8 0, .int .u8 0, .int .u8 0, .int .u8 0, .int .u8 0, .int .u8 0, .int .u8 0, .int .u8 0, .int .u8 0, .int .u8 0, .int .u8 0, .int .u8 0]], .bool false),
  ([.agg [.str [115], .int .i64 1, .str [101, 120, 97, 109, 112, 108, 101], .int .u8 0, .int .u8 0, .int .u8 0, .int .u8 0, .int .u8 0, .int .u8 0, .int .u8 0, .int .u8 0, .int .u8 0, .int .u8 0, .int .u8 0, .int .u8 0, .int .u8 0, .int .u8 0, .int .u8 0, .int .u8 0], .agg [.str [114], .int .i64 1, .str [101, 120, 97, 109, 112, 108, 101], .int .u8 0, .int .u8 0, .int .u8 0, .int .u8 0, .int .u8 0, .int .u8 0, .int .u8 0, .int .u8 0, .int .u8 0, .int .u8 0, .int .u8 0, .int .u8 0, .int .u8 0, .int .u8 0, .int .u8 0, .int .u8 0]], .bool false),
  ([.agg [.str [114, 43, 49], .int .i64 1, .str [101, 120, 97, 109, 112, 108, 101], .int .u8 0, .int .u8 0, .int .u8 0, .int .u8 0, .int .u8 0, .int .u8 0, .int .u8 0, .int .u8 0, .int .u8 0, .int .u8 0, .int .u8 0, .int .u8 0, .int .u8 0, .int .u8 0, .int .u8 0, .int .u8 0], .agg [.str [115], .int .i64 1, .str [101, 120, 97, 109, 112, 108, 101], .int .u8 0, .int .u8 0, .int .u8 0, .int .u8 0, .int .u8 0, .int .u8 0, .int .u8 0, .int .u8 0, .int .u8 0, .int .u8 0, .int .u8 0, .int .u8 0, .int .u8 0, .int .u8 0, .int .u8 0, .int .u8 0]], .bool false),
  ([.agg [.str [97, 110, 110], .int .i64 1, .str [101, 120, 97, 109, 112, 108, 101], .int .u8 0, .int .u8 0, .int .u8 0, .int .u8 0, .int .u8 0, .int .u8 0, .int .u8 0, .int .u8 0, .int .u8 0, .int .u8 0, .int .u8 0, .int .u8 0, .int .u8 0, .int .u8 0, .int .u8 0, .int .u8 0], .agg [.str [115], .int .i64 1, .str [101, 120, 97, 109, 112, 108, 101], .int .u8 0, .int .u8 0, .int .u8 0, .int .u8 0, .int .u8 0, .int .u8 0, .int .u8 0, .int .u8 0, .int .u8 0, .int .u8 0, .int .u8 0, .int .u8 0, .int .u8 0, .int .u8 0, .int .u8 0, .int .u8 0]], .bool false),
  ([.agg [.str [115, 116, 97, 102, 102], .int .i64 1, .str [101, 120, 97, 109, 112, 108, 101], .int .u8 0, .int .u8 0, .int .u8 0, .int .u8 0, .int .u8 0, .int .u8 0, .int .u8 0, .int .u8 0, .int .u8 0, .int .u8 0, .int .u8 0, .int .u8 0, .int .u8 0, .int .u8 0, .int .u8 0, .int .u8 0], .agg [.str [97, 108, 108], .int .i64 1, .str [101, 120, 97, 109, 112, 108, 101], .int .u8 0, .int .u8 0, .int .u8 0, .int .u8 0, .int .u8 0, .int .u8 0, .int .u8 0, .int .u8 0, .int .u8 0, .int .u8 0, .int .u8 0, .int .u8 0, .int .u8 0, .int .u8 0, .int .u8 0, .int .u8 0]], .bool false),
  ([.agg [.str [120], .int .i64 1, .str [102, 97, 114, 46, 101, 120, 97, 109, 112, 108, 101], .int .u8 0, .int .u8 0, .int .u8 0, .int .u8 0, .int .u8 0, .int .u8 0, .int .u8 0, .int .u8 0, .int .u8 0, .int .u8 0, .int .u8 0, .int .u8 0, .int .u8 0, .int .u8 0, .int .u8 0, .int .u8 0], .agg [.str [97, 108, 108], .int .i64 1, .str [101, 120, 97, 109, 112, 108, 101], .int .u8 0, .int .u8 0, .int .u8 0, .int .u8 0, .int .u8 0, .int .u8 0, .int .u8 0, .int .u8 0, .int .u8 0, .int .u8 0, .int .u8 0, .int .u8 0, .int .u8 0, .int .u8 0, .int .u8 0, .int .u8 0]], .bool false),
  ([.agg [.str [110, 111, 98, 111, 100, 121], .int .i64 1, .str [101, 120, 97, 109, 112, 108, 101], .int .u8 0, .int .u8 0, .int .u8 0, .int .u8 0, .int .u8 0, .int .u8 0, .int .u8 0, .int .u8 0, .int .u8 0, .int .u8 0, .int .u8 0, .int .u8 0, .int .u8 0, .int .u8 0, .int .u8 0, .int .u8 0], .agg [.str [108, 111, 115, 116], .int .i64 1, .str [101, 120, 97, 109, 112, 108, 101], .int .u8 0, .int .u8 0, .int .u8 0, .int .u8 0, .int .u8 0, .int .u8 0, .int .u8 0, .int .u8 0, .int .u8 0, .int .u8 0, .int .u8 0, .int .u8 0, .int .u8 0, .int .u8 0, .int .u8 0, .int .u8 0]], .bool false)]
theorem k_path_Same_run : OrcRun K8 tabG 36 (few k_path_Same) := OrcRun.all (k := 3000) (by kernel_rfl)
noncomputable def K9 : FuncId → Option EFunc := over K8 36 (few k_path_Same)
theorem fits9 : FitsO Tryz.prog K9 := FitsO.over fits8
theorem ok9 : ∀ base w0, OrcOk Tryz.prog K9 tabG base w0 := OrcOk.over mixW fits8 gplain ok8 (by kernel_rfl) k_path_Same_run
def k_path_Check : List (List EV × EV) := [([.agg [.int .i64 3, .slice none 0 0 0, .str [112, 111, 115, 116, 109, 97, 115, 116, 101, 114], .int .i64 1, .str [101, 120, 97, 109, 112, 108, 101], .int .u8 0, .int .u8 0, .int .u8 0, .int .u8 0, .int .u8 0, .int .u8 0, .int .u8 0, .int .u8 0, .int .u8 0, .int .u8 0, .int .u8 0, .int .u8 0, .int .u8 0, .int .u8 0, .int .u8 0, .int .u8 0], .bool true], .int .i64 0),
  ([.agg [.int .i64 3, .slice none 0 0 0, .str [112, 111, 115, 116, 109, 97, 115, 116, 101, 114], .int .i64 1, .str [69, 120, 97, 109, 112, 108, 101, 46, 111, 114, 103], .int .u8 0, .int .u8 0, .int .u8 0, .int .u8 0, .int .u8 0, .int .u8 0, .int .u8 0, .int .u8 0, .int .u8 0, .int .u8 0, .int .u8 0, .int .u8 0, .int .u8 0, .int .u8 0, .int .u8 0, .int .u8 0], .bool true], .int .i64 0),
  ([.agg [.int .i64 3, .slice none 0 0 0, .str [115, 116, 97, 102, 102], .int .i64 1, .str [101, 120, 97, 109, 112, 108, 101], .int .u8 0, .int .u8 0, .int .u8 0, .int .u8 0, .int .u8 0, .int .u8 0, .int .u8 0, .int .u8 0, .int .u8 0, .int .u8 0, .int .u8 0, .int .u8 0, .int .u8 0, .int .u8 0, .int .u8 0, .int .u8 0], .bool true], .int .i64 0),
  ([.agg [.int .i64 3, .slice none 0 0 0, .str [97, 110, 110], .int .i64 1, .str [101, 120, 97, 109, 112, 108, 101], .int .u8 0, .int .u8 0, .int .u8 0, .int .u8 0, .int .u8 0, .int .u8 0, .int .u8 0, .int .u8 0, .int .u8 0, .int .u8 0, .int .u8 0, .int .u8 0, .int .u8 0, .int .u8 0, .int .u8 0, .int .u8 0], .bool true], .int .i64 0),
  ([.agg [.int .i64 3, .slice none 0 0 0, .str [98, 111, 98], .int .i64 1, .str [101, 120, 97, 109, 112, 108, 101], .int .u8 0, .int .u8 0, .int .u8 0, .int .u8 0, .int .u8 0, .int .u8 0, .int .u8 0, .int .u8 0, .int .u8 0, .int .u8 0, .int .u8 0, .int .u8 0, .int .u8 0, .int .u8 0, .int .u8 0, .int .u8 0], .bool true], .int .i64 0),
  ([.agg [.int .i64 3, .slice none 0 0 0, .str [98], .int .i64 1, .str [102, 97, 114, 46, 101, 120, 97, 109, 112, 108, 101], .int .u8 0, .int .u8 0, .int .u8 0, .int .u8 0, .int .u8 0, .int .u8 0, .int .u8 0, .int .u8 0, .int .u8 0, .int .u8 0, .int .u8 0, .int .u8 0, .int .u8 0, .int .u8 0, .int .u8 0, .int .u8 0], .bool true], .int .i64 0),
  ([.agg [.int .i64 3, .slice none 0 0 0, .str [97, 108, 108], .int .i64 1, .str [101, 120, 97, 109, 112, 108, 101], .int .u8 0, .int .u8 0, .int .u8 0, .int .u8 0, .int .u8 0, .int .u8 0, .int .u8 0, .int .u8 0, .int .u8 0, .int .u8 0, .int .u8 0, .int .u8 0, .int .u8 0, .int .u8 0, .int .u8 0, .int .u8 0], .bool true], .int .i64 0),
  ([.agg [.int .i64 3, .slice none 0 0 0, .str [120], .int .i64 1, .str [102, 97, 114, 46, 101, 120, 97, 109, 112, 108, 101], .int .u8 0, .int .u8 0, .int .u8 0, .int .u8 0, .int .u8 0, .int .u8 0, .int .u8 0, .int .u8 0, .int .u8 0, .int .u8 0, .int .u8 0, .int .u8 0, .int .u8 0, .int .u8 0, .int .u8 0, .int .u8 0], .bool true], .int .i64 0),
  ([.agg [.int .i64 3, .slice none 0 0 0, .str [114], .int .i64 1, .str [101, 120, 97, 109, 112, 108, 101], .int .u8 0, .int .u8 0, .int .u8 0, .int .u8 0, .int .u8 0, .int .u8 0, .int .u8 0, .int .u8 0, .int .u8 0, .int .u8 0, .int .u8 0, .int .u8 0, .int .u8 0, .int .u8 0, .int .u8 0, .int .u8 0], .bool true], .int .i64 0),
  ([.agg [.int .i64 3, .slice none 0 0 0, .str [115], .int .i64 1, .str [101, 120, 97, 109, 112, 108, 101], .int .u8 0, .int .u8 0, .int .u8 0, .int .u8 0, .int .u8 0, .int .u8 0, .int .u8 0, .int .u8 0, .int .u8 0, .int .u8 0, .int .u8 0, .int .u8 0, .int .u8 0, .int .u8 0, .int .u8 0, .int .u8 0], .bool true], .int .i64 0),
  ([.agg [.int .i64 3, .slice none 0 0 0, .str [114, 43, 49], .int .i64 1, .str [101, 120, 97, 109, 112, 108, 101], .int .u8 0, .int .u8 0, .int .u8 0, .int .u8 0, .int .u8 0, .int .u8 0, .int .u8 0, .int .u8 0, .int .u8 0, .int .u8 0, .int .u8 0, .int .u8 0, .int .u8 0, .int .u8 0, .int .u8 0, .int .u8 0], .bool true], .int .i64 0),
  ([.agg [.int .i64 3, .slice none 0 0 0, .str [108, 111, 115, 116], .int .i64 1, .str [101, 120, 97, 109, 112, 108, 101], .int .u8 0, .int .u8 0, .int .u8 0, .int .u8 0, .int .u8 0, .int .u8 0, .int .u8 0, .int .u8 0, .int .u8 0, .int .u8 0, .int .u8 0, .int .u8 0, .int .u8 0, .int .u8 0, .int .u8 0, .int .u8 0], .bool true], .int .i64 0),
  ([.agg [.int .i64 3, .slice none 0 0 0, .str [110, 111, 98, 111, 100, 121], .int .i64 1, .str [101, 120, 97, 109, 112, 108, 101], .int .u8 0, .int .u8 0, .int .u8 0, .int .u8 0, .int .u8 0, .int .u8 0, .int .u8 0, .int .u8 0, .int .u8 0, .int .u8 0, .int .u8 0, .int .u8 0, .int .u8 0, .int .u8 0, .int .u8 0, .int .u8 0], .bool true], .int .i64 0)]
theorem k_path_Check_run : OrcRun K9 tabG 38 (few k_path_Check) := OrcRun.all (k := 3000) (by kernel_rfl)
noncomputable def K10 : FuncId → Option EFunc := over K9 38 (few k_path_Check)
theorem fits10 : FitsO Tryz.prog K10 := FitsO.over fits9
theorem ok10 : ∀ base w0, OrcOk Tryz.prog K10 tabG base w0 := OrcOk.over mixW fits9 gplain ok9 (by kernel_rfl) k_path_Check_run
def k_alias_boxKey : List (List EV × EV) := [([.agg [.str [115, 116, 97, 102, 102], .int .i64 1, .str [101, 120, 97, 109, 112, 108, 101], .int .u8 0, .int .u8 0, .int .u8 0, .int .u8 0, .int .u8 0, .int .u8 0, .int .u8 0, .int .u8 0, .int .u8 0, .int .u8 0, .int .u8 0, .int .u8 0, .int .u8 0, .int .u8 0, .int .u8 0, .int .u8 0]], .tuple [.agg [.str [101, 120, 97, 109, 112, 108, 101], .str [115, 116, 97, 102, 102]], .bool true]),
  ([.agg [.str [98, 111, 98], .int .i64 1, .str [101, 120, 97, 109, 112, 108, 101], .int .u8 0, .int .u8 0, .int .u8 0, .int .u8 0, .int .u8 0, .int .u8 0, .int .u8 0, .int .u8 0, .int .u8 0, .int .u8 0, .int .u8 0, .int .u8 0, .int .u8 0, .int .u8 0, .int .u8 0, .int .u8 0]], .tuple [.agg [.str [101, 120, 97, 109, 112, 108, 101], .str [98, 111, 98]], .bool true]),
  ([.agg [.str [97, 108, 108], .int .i64 1, .str [101, 120, 97, 109, 112, 108, 101], .int .u8 0, .int .u8 0, .int .u8 0, .int .u8 0, .int .u8 0, .int .u8 0, .int .u8 0, .int .u8 0, .int .u8 0, .int .u8 0, .int .u8 0, .int .u8 0, .int .u8 0, .int .u8 0, .int .u8 0, .int .u8 0]], .tuple [.agg [.str [101, 120, 97, 109, 112, 108, 101], .str [97, 108, 108]], .bool true]),
  ([.agg [.str [114], .int .i64 1, .str [101, 120, 97, 109, 112, 108, 101], .int .u8 0, .int .u8 0, .int .u8 0, .int .u8 0, .int .u8 0, .int .u8 0, .int .u8 0, .int .u8 0, .int .u8 0, .int .u8 0, .int .u8 0, .int .u8 0, .int .u8 0, .int .u8 0, .int .u8 0, .int .u8 0]], .tuple [.agg [.str [101, 120, 97, 109, 112, 108, 101], .str [114]], .bool true]),
  ([.agg [.str [115], .int .i64 1, .str [101, 120, 97, 109, 112, 108, 101], .int .u8 0, .int .u8 0, .int .u8 0, .int .u8 0, .int .u8 0, .int .u8 0, .int .u8 0, .int .u8 0, .int .u8 0, .int .u8 0, .int .u8 0, .int .u8 0, .int .u8 0, .int .u8 0, .int .u8 0, .int .u8 0]], .tuple [.agg [.str [101, 120, 97, 109, 112, 108, 101], .str [115]], .bool true]),
  ([.agg [.str [108, 111, 115, 116], .int .i64 1, .str [101, 120, 97, 109, 112, 108, 101], .int .u8 0, .int .u8 0, .int .u8 0, .int .u8 0, .int .u8 0, .int .u8 0, .int .u8 0, .int .u8 0, .int .u8 0, .int .u8 0, .int .u8 0, .int .u8 0, .int .u8 0, .int .u8 0, .int .u8 0, .int .u8 0]], .tuple [.agg [.str [101, 120, 97, 109, 112, 108, 101], .str [108, 111, 115, 116]], .bool true]),
  ([.agg [.str [97, 110, 110], .int .i64 1, .str [101, 120, 97, 109, 112, 108, 101], .int .u8 0, .int .u8 0, .int .u8 0, .int .u8 0, .int .u8 0, .int .u8 0, .int .u8 0, .int .u8 0, .int .u8 0, .int .u8 0, .int .u8 0, .int .u8 0, .int .u8 0, .int .u8 0, .int .u8 0, .int .u8 0]], .tuple [.agg [.str [101, 120, 97, 109, 112, 108, 101], .str [97, 110, 110]], .bool true]),
  ([.agg [.str [98], .int .i64 1, .str [102, 97, 114, 46, 101, 120, 97, 109, 112, 108, 101], .int .u8 0, .int .u8 0, .int .u8 0, .int .u8 0, .int .u8 0, .int .u8 0, .int .u8 0, .int .u8 0, .int .u8 0, .int .u8 0, .int .u8 0, .int .u8 0, .int .u8 0, .int .u8 0, .int .u8 0, .int .u8 0]], .tuple [.agg [.str [102, 97, 114, 46, 101, 120, 97, 109, 112, 108, 101], .str [98]], .bool true]),
  ([.agg [.str [114], .int .i64 1, .str [69, 88, 65, 77, 80, 76, 69], .int .u8 0, .int .u8 0, .int .u8 0, .int .u8 0, .int .u8 0, .int .u8 0, .int .u8 0, .int .u8 0, .int .u8 0, .int .u8 0, .int .u8 0, .int .u8 0, .int .u8 0, .int .u8 0, .int .u8 0, .int .u8 0]], .tuple [.agg [.str [101, 120, 97, 109, 112, 108, 101], .str [114]], .bool true]),
  ([.agg [.str [114, 43, 49], .int .i64 1, .str [101, 120, 97, 109, 112, 108, 101], .int .u8 0, .int .u8 0, .int .u8 0, .int .u8 0, .int .u8 0, .int .u8 0, .int .u8 0, .int .u8 0, .int .u8 0, .int .u8 0, .int .u8 0, .int .u8 0, .int .u8 0, .int .u8 0, .int .u8 0, .int .u8 0]], .tuple [.agg [.str [101, 120, 97, 109, 112, 108, 101], .str [114, 43, 49]], .bool true]),
  ([.agg [.str [120], .int .i64 1, .str [102, 97, 114, 46, 101, 120, 97, 109, 112, 108, 101], .int .u8 0, .int .u8 0, .int .u8 0, .int .u8 0, .int .u8 0, .int .u8 0, .int .u8 0, .int .u8 0, .int .u8 0, .int .u8 0, .int .u8 0, .int .u8 0, .int .u8 0, .int .u8 0, .int .u8 0, .int .u8 0]], .tuple [.agg [.str [102, 97, 114, 46, 101, 120, 97, 109, 112, 108, 101], .str [120]], .bool true]),
  ([.agg [.str [110, 111, 98, 111, 100, 121], .int .i64 1, .str [101, 120, 97, 109, 112, 108, 101], .int .u8 0, .int .u8 0, .int .u8 0, .int .u8 0, .int .u8 0, .int .u8 0, .int .u8 0, .int .u8 0, .int .u8 0, .int .u8 0, .int .u8 0, .int .u8 0, .int .u8 0, .int .u8 0, .int .u8 0, .int .u8 0]], .tuple [.agg [.str [101, 120, 97, 109, 112, 108, 101], .str [110, 111, 98, 111, 100, 121]], .bool true])]
theorem k_alias_boxKey_run : OrcRun K10 tabG 26 (few k_alias_boxKey) := OrcRun.all (k := 3000) (by kernel_rfl)
noncomputable def K11 : FuncId → Option EFunc := over K10 26 (few k_alias_boxKey)
theorem fits11 : FitsO Tryz.prog K11 := FitsO.over fits10
theorem ok11 : ∀ base w0, OrcOk Tryz.prog K11 tabG base w0 := OrcOk.over mixW fits10 gplain ok10 (by kernel_rfl) k_alias_boxKey_run
def isYes : Option CR → Bool
  | some ⟨.val (.bool true), _, _⟩ => true
  | _ => false
theorem isYes_spec {r : Option CR} (h : isYes r = true) : ∃ m p, r = some ⟨.val (.bool true), m, p⟩ := by
  unfold isYes at h
  split at h
  · exact ⟨_, _, rfl⟩
  · cases h
theorem run : isYes (evFunL K11 tabG 3000 f_l19_wakes [] ⟨[], 0⟩ none) = true := by kernel_rfl
theorem known : OrcRun K11 tabG f_l19_wakes yes0 := by
  intro args v h
  unfold yes0 at h
  split at h
  · cases h
    obtain ⟨m, p, e⟩ := isYes_spec run
    exact ⟨rfl, rfl, m, p, comes_of_run e⟩
  · cases h
theorem fitsT : FitsO Tryz.prog T := by
  intro f ef h
  unfold T at h
  split at h
  · cases h; exact .inr ⟨_, rfl⟩
  · exact .inl h
theorem orcT (base : Nat) (w0 : World) : OrcOk Tryz.prog T tabG base w0 := by
  intro f ef o args m v j w vs hf hp ho hm hv
  unfold T at hf
  split at hf
  · rename_i h4
    cases hf
    cases hp
    obtain ⟨e4, he4, hp4⟩ := isPlainF_ok (show isPlainF (K11 f_l19_wakes) = true by kernel_rfl)
    have h4 : f = f_l19_wakes := h4
    subst h4
    exact orc_run mixW fits11 gplain ok11 he4 hp4 known ho hm hv
  · exact absurd hp (getF_num hf)
/-- What the law's first call comes to. -/
theorem c_l19_wakes [GG] (m : Mem) : Go.Ev.Comes T G f_l19_wakes [] m none ⟨.val (.bool true), m, none⟩ := ⟨1, rfl⟩
end Go.Proofs.YtblbfgbmiohjfaaGreatDoor.aliasNil

namespace Go.Proofs.YtblbfgbmiohjfaaGreatDoor.aliasNil
open Go.Ev hiding Comes
variable [GG]

/-- A book that New did not make. -/
def noBook : List EV := [.map none, .map none, .slice none 0 0 0, .map none]
theorem c_nil_Expand (m : Mem) (cs : List EV) (h : cs.length = 19) : Go.Ev.Comes T G f_alias_Book_Expand [.ptr none, .agg cs] m none ⟨.val (.tuple [.slice none 0 0 0, .int .i64 1]), m, none⟩ := by
  refine comes2 T_alias_Book_Expand rfl fun M hg hlen hlow => ?_
  have hl0 : m.bl.length ≤ M.low := by omega
  simp only [F_alias_Book_Expand]
  simp +contextual only [vq, vc, ve, vv, vn, vl, ↓reduceIte, Nat.reduceEqDiff, Nat.reduceAdd, Nat.reduceMul, Nat.reduceSub, Nat.reduceLeDiff, Nat.reduceLT, Nat.reduceBEq, Nat.reduceBNe, reduceCtorEq, Int.reduceBEq, Int.reduceBNe, Int.reduceLT, Int.reduceLE, Int.reduceEq, Int.reduceToNat, Int.reduceAdd, Int.reduceSub, Int.reduceNeg, h]
  refine new_mk fun M1 e1 => ?_
  have l1 : m.bl.length ≤ M1.low := by rw [e1]; exact hl0
  simp +contextual only [vq, vc, ve, vv, vn, vl, ↓reduceIte, Nat.reduceEqDiff, Nat.reduceAdd, Nat.reduceMul, Nat.reduceSub, Nat.reduceLeDiff, Nat.reduceLT, Nat.reduceBEq, Nat.reduceBNe, reduceCtorEq, Int.reduceBEq, Int.reduceBNe, Int.reduceLT, Int.reduceLE, Int.reduceEq, Int.reduceToNat, Int.reduceAdd, Int.reduceSub, Int.reduceNeg, l1]
theorem c_zero_Expand (m : Mem) (b : Nat) (cs : List EV) (h : cs.length = 19) (hb : RowIs m b noBook) : Go.Ev.Comes T G f_alias_Book_Expand [.ptr (some ⟨.mem b 0, 0⟩), .agg cs] m none ⟨.val (.tuple [.slice none 0 0 0, .int .i64 1]), m, none⟩ := by
  refine comes2 T_alias_Book_Expand rfl fun M hg hlen hlow => ?_
  have hl0 : m.bl.length ≤ M.low := by omega
  have hb := hb.grown hg
  simp only [F_alias_Book_Expand]
  simp +contextual only [vq, vc, ve, vv, vn, vl, ↓reduceIte, Nat.reduceEqDiff, Nat.reduceAdd, Nat.reduceMul, Nat.reduceSub, Nat.reduceLeDiff, Nat.reduceLT, Nat.reduceBEq, Nat.reduceBNe, reduceCtorEq, Int.reduceBEq, Int.reduceBNe, Int.reduceLT, Int.reduceLE, Int.reduceEq, Int.reduceToNat, Int.reduceAdd, Int.reduceSub, Int.reduceNeg, h]
  refine new_mk fun M1 e1 => ?_
  have l1 : m.bl.length ≤ M1.low := by rw [e1]; exact hl0
  have hb : RowIs M1 b noBook := by rw [e1]; exact row_keep hb
  unfold noBook at hb
  simp +contextual only [vq, vc, ve, vv, vn, vl, ↓reduceIte, Nat.reduceEqDiff, Nat.reduceAdd, Nat.reduceMul, Nat.reduceSub, Nat.reduceLeDiff, Nat.reduceLT, Nat.reduceBEq, Nat.reduceBNe, reduceCtorEq, Int.reduceBEq, Int.reduceBNe, Int.reduceLT, Int.reduceLE, Int.reduceEq, Int.reduceToNat, Int.reduceAdd, Int.reduceSub, Int.reduceNeg, l1, hb.get (G := G)]
theorem c_nil_Local (m : Mem) (cs : List EV) (h : cs.length = 18) : Go.Ev.Comes T G f_alias_Book_Local [.ptr none, .agg cs] m none ⟨.val (.bool false), m, none⟩ := by
  refine comes2 T_alias_Book_Local rfl fun M hg hlen hlow => ?_
  have hl0 : m.bl.length ≤ M.low := by omega
  simp only [F_alias_Book_Local]
  simp +contextual only [vq, vc, ve, vv, vn, vl, ↓reduceIte, Nat.reduceEqDiff, Nat.reduceAdd, Nat.reduceMul, Nat.reduceSub, Nat.reduceLeDiff, Nat.reduceLT, Nat.reduceBEq, Nat.reduceBNe, reduceCtorEq, Int.reduceBEq, Int.reduceBNe, Int.reduceLT, Int.reduceLE, Int.reduceEq, Int.reduceToNat, Int.reduceAdd, Int.reduceSub, Int.reduceNeg, h]
  refine new_mk fun M1 e1 => ?_
  have l1 : m.bl.length ≤ M1.low := by rw [e1]; exact hl0
  simp +contextual only [vq, vc, ve, vv, vn, vl, ↓reduceIte, Nat.reduceEqDiff, Nat.reduceAdd, Nat.reduceMul, Nat.reduceSub, Nat.reduceLeDiff, Nat.reduceLT, Nat.reduceBEq, Nat.reduceBNe, reduceCtorEq, Int.reduceBEq, Int.reduceBNe, Int.reduceLT, Int.reduceLE, Int.reduceEq, Int.reduceToNat, Int.reduceAdd, Int.reduceSub, Int.reduceNeg, l1]
theorem c_zero_Local (m : Mem) (b : Nat) (cs : List EV) (h : cs.length = 18) (hb : RowIs m b noBook) : Go.Ev.Comes T G f_alias_Book_Local [.ptr (some ⟨.mem b 0, 0⟩), .agg cs] m none ⟨.val (.bool false), m, none⟩ := by
  refine comes2 T_alias_Book_Local rfl fun M hg hlen hlow => ?_
  have hl0 : m.bl.length ≤ M.low := by omega
  have hb := hb.grown hg
  simp only [F_alias_Book_Local]
  simp +contextual only [vq, vc, ve, vv, vn, vl, ↓reduceIte, Nat.reduceEqDiff, Nat.reduceAdd, Nat.reduceMul, Nat.reduceSub, Nat.reduceLeDiff, Nat.reduceLT, Nat.reduceBEq, Nat.reduceBNe, reduceCtorEq, Int.reduceBEq, Int.reduceBNe, Int.reduceLT, Int.reduceLE, Int.reduceEq, Int.reduceToNat, Int.reduceAdd, Int.reduceSub, Int.reduceNeg, h]
  refine new_mk fun M1 e1 => ?_
  have l1 : m.bl.length ≤ M1.low := by rw [e1]; exact hl0
  have hb : RowIs M1 b noBook := by rw [e1]; exact row_keep hb
  unfold noBook at hb
  simp +contextual only [vq, vc, ve, vv, vn, vl, ↓reduceIte, Nat.reduceEqDiff, Nat.reduceAdd, Nat.reduceMul, Nat.reduceSub, Nat.reduceLeDiff, Nat.reduceLT, Nat.reduceBEq, Nat.reduceBNe, reduceCtorEq, Int.reduceBEq, Int.reduceBNe, Int.reduceLT, Int.reduceLE, Int.reduceEq, Int.reduceToNat, Int.reduceAdd, Int.reduceSub, Int.reduceNeg, l1, hb.get (G := G)]
theorem c_nil_Knows (m : Mem) (cs : List EV) (h : cs.length = 19) : Go.Ev.Comes T G f_alias_Book_Knows [.ptr none, .agg cs] m none ⟨.val (.bool false), m, none⟩ := by
  refine comes2 T_alias_Book_Knows rfl fun M hg hlen hlow => ?_
  have hl0 : m.bl.length ≤ M.low := by omega
  simp only [F_alias_Book_Knows]
  simp +contextual only [vq, vc, ve, vv, vn, vl, ↓reduceIte, Nat.reduceEqDiff, Nat.reduceAdd, Nat.reduceMul, Nat.reduceSub, Nat.reduceLeDiff, Nat.reduceLT, Nat.reduceBEq, Nat.reduceBNe, reduceCtorEq, Int.reduceBEq, Int.reduceBNe, Int.reduceLT, Int.reduceLE, Int.reduceEq, Int.reduceToNat, Int.reduceAdd, Int.reduceSub, Int.reduceNeg, h]
  refine new_mk fun M1 e1 => ?_
  have l1 : m.bl.length ≤ M1.low := by rw [e1]; exact hl0
  have R : RowIs M1 M.bl.length cs := by rw [e1]; exact row_push _ _
  have hn : M1.getN G ⟨.mem M.bl.length 0, 1⟩ 18 = some (cs.drop 1) := by
    simp [Mem.getN, Mem.row]
    rw [show M1.bl[M.bl.length]? = _ from R]
    simp [h]
    exact List.take_of_length_le (by simp [h])
  simp +contextual only [vq, vc, ve, vv, vn, vl, ↓reduceIte, Nat.reduceEqDiff, Nat.reduceAdd, Nat.reduceMul, Nat.reduceSub, Nat.reduceLeDiff, Nat.reduceLT, Nat.reduceBEq, Nat.reduceBNe, reduceCtorEq, Int.reduceBEq, Int.reduceBNe, Int.reduceLT, Int.reduceLE, Int.reduceEq, Int.reduceToNat, Int.reduceAdd, Int.reduceSub, Int.reduceNeg, l1, hn, callR_val (c_nil_Local M1 (cs.drop 1) (by simp [h]))]
theorem c_zero_Knows (m : Mem) (b : Nat) (cs : List EV) (h : cs.length = 19) (hb : RowIs m b noBook) : Go.Ev.Comes T G f_alias_Book_Knows [.ptr (some ⟨.mem b 0, 0⟩), .agg cs] m none ⟨.val (.bool false), m, none⟩ := by
  refine comes2 T_alias_Book_Knows rfl fun M hg hlen hlow => ?_
  have hl0 : m.bl.length ≤ M.low := by omega
  have hb := hb.grown hg
  simp only [F_alias_Book_Knows]
  simp +contextual only [vq, vc, ve, vv, vn, vl, ↓reduceIte, Nat.reduceEqDiff, Nat.reduceAdd, Nat.reduceMul, Nat.reduceSub, Nat.reduceLeDiff, Nat.reduceLT, Nat.reduceBEq, Nat.reduceBNe, reduceCtorEq, Int.reduceBEq, Int.reduceBNe, Int.reduceLT, Int.reduceLE, Int.reduceEq, Int.reduceToNat, Int.reduceAdd, Int.reduceSub, Int.reduceNeg, h]
  refine new_mk fun M1 e1 => ?_
  have l1 : m.bl.length ≤ M1.low := by rw [e1]; exact hl0
  have hb : RowIs M1 b noBook := by rw [e1]; exact row_keep hb
  have R : RowIs M1 M.bl.length cs := by rw [e1]; exact row_push _ _
  have hn : M1.getN G ⟨.mem M.bl.length 0, 1⟩ 18 = some (cs.drop 1) := by
    simp [Mem.getN, Mem.row]
    rw [show M1.bl[M.bl.length]? = _ from R]
    simp [h]
    exact List.take_of_length_le (by simp [h])
  simp +contextual only [vq, vc, ve, vv, vn, vl, ↓reduceIte, Nat.reduceEqDiff, Nat.reduceAdd, Nat.reduceMul, Nat.reduceSub, Nat.reduceLeDiff, Nat.reduceLT, Nat.reduceBEq, Nat.reduceBNe, reduceCtorEq, Int.reduceBEq, Int.reduceBNe, Int.reduceLT, Int.reduceLE, Int.reduceEq, Int.reduceToNat, Int.reduceAdd, Int.reduceSub, Int.reduceNeg, l1, hn, callR_val (c_zero_Local M1 b (cs.drop 1) (by simp [h]) hb)]
theorem c_nil_Rings (m : Mem) : Go.Ev.Comes T G f_alias_Book_Rings [.ptr none] m none ⟨.val (.slice none 0 0 0), m, none⟩ := by
  refine comes2 T_alias_Book_Rings rfl fun M hg hlen hlow => ?_
  have hl0 : m.bl.length ≤ M.low := by omega
  simp only [F_alias_Book_Rings]
  simp +contextual only [vq, vc, ve, vv, vn, vl, ↓reduceIte, Nat.reduceEqDiff, Nat.reduceAdd, Nat.reduceMul, Nat.reduceSub, Nat.reduceLeDiff, Nat.reduceLT, Nat.reduceBEq, Nat.reduceBNe, reduceCtorEq, Int.reduceBEq, Int.reduceBNe, Int.reduceLT, Int.reduceLE, Int.reduceEq, Int.reduceToNat, Int.reduceAdd, Int.reduceSub, Int.reduceNeg, hl0]
theorem c_zero_Rings (m : Mem) (b : Nat) (hb : RowIs m b noBook) : Go.Ev.Comes T G f_alias_Book_Rings [.ptr (some ⟨.mem b 0, 0⟩)] m none ⟨.val (.slice none 0 0 0), m, none⟩ := by
  refine comes2 T_alias_Book_Rings rfl fun M hg hlen hlow => ?_
  have hl0 : m.bl.length ≤ M.low := by omega
  have hb := hb.grown hg
  unfold noBook at hb
  simp only [F_alias_Book_Rings]
  simp +contextual only [vq, vc, ve, vv, vn, vl, ↓reduceIte, Nat.reduceEqDiff, Nat.reduceAdd, Nat.reduceMul, Nat.reduceSub, Nat.reduceLeDiff, Nat.reduceLT, Nat.reduceBEq, Nat.reduceBNe, reduceCtorEq, Int.reduceBEq, Int.reduceBNe, Int.reduceLT, Int.reduceLE, Int.reduceEq, Int.reduceToNat, Int.reduceAdd, Int.reduceSub, Int.reduceNeg, hl0, hb.get (G := G)]
  refine loop2 (fun n st => ∃ A, st = ⟨A, M, [], none⟩ ∧ n = 0 ∧ A 3 = .slice none 0 0 0 ∧ A 13 = .int .i64 0 ∧ A 14 = .int .i64 0) 0 ⟨_, rfl, rfl, by simp +contextual only [vq, vc, ve, vv, vn, vl, ↓reduceIte, Nat.reduceEqDiff, Nat.reduceAdd, Nat.reduceMul, Nat.reduceSub, Nat.reduceLeDiff, Nat.reduceLT, Nat.reduceBEq, Nat.reduceBNe, reduceCtorEq, Int.reduceBEq, Int.reduceBNe, Int.reduceLT, Int.reduceLE, Int.reduceEq, Int.reduceToNat, Int.reduceAdd, Int.reduceSub, Int.reduceNeg], by simp +contextual only [vq, vc, ve, vv, vn, vl, ↓reduceIte, Nat.reduceEqDiff, Nat.reduceAdd, Nat.reduceMul, Nat.reduceSub, Nat.reduceLeDiff, Nat.reduceLT, Nat.reduceBEq, Nat.reduceBNe, reduceCtorEq, Int.reduceBEq, Int.reduceBNe, Int.reduceLT, Int.reduceLE, Int.reduceEq, Int.reduceToNat, Int.reduceAdd, Int.reduceSub, Int.reduceNeg]; rfl, by simp +contextual only [vq, vc, ve, vv, vn, vl, ↓reduceIte, Nat.reduceEqDiff, Nat.reduceAdd, Nat.reduceMul, Nat.reduceSub, Nat.reduceLeDiff, Nat.reduceLT, Nat.reduceBEq, Nat.reduceBNe, reduceCtorEq, Int.reduceBEq, Int.reduceBNe, Int.reduceLT, Int.reduceLE, Int.reduceEq, Int.reduceToNat, Int.reduceAdd, Int.reduceSub, Int.reduceNeg]⟩ fun J hJ n st hI => ?_
  obtain ⟨A, rfl, rfl, A3, A13, A14⟩ := hI
  simp +contextual only [vq, vc, ve, vv, vn, vl, ↓reduceIte, Nat.reduceEqDiff, Nat.reduceAdd, Nat.reduceMul, Nat.reduceSub, Nat.reduceLeDiff, Nat.reduceLT, Nat.reduceBEq, Nat.reduceBNe, reduceCtorEq, Int.reduceBEq, Int.reduceBNe, Int.reduceLT, Int.reduceLE, Int.reduceEq, Int.reduceToNat, Int.reduceAdd, Int.reduceSub, Int.reduceNeg, hl0, A3, A13, A14]

theorem law (m : Mem) (cs : List EV) (h : cs.length = 19) : Go.Ev.Comes T G f_l19_AliasNil [.agg cs] m none ⟨.val (.bool true), m, none⟩ := by
  refine comes2 T_l19_AliasNil rfl fun M hg hlen hlow => ?_
  have hl0 : m.bl.length ≤ M.low := by omega
  simp only [F_l19_AliasNil]
  simp +contextual only [vq, vc, ve, vv, vn, vl, ↓reduceIte, Nat.reduceEqDiff, Nat.reduceAdd, Nat.reduceMul, Nat.reduceSub, Nat.reduceLeDiff, Nat.reduceLT, Nat.reduceBEq, Nat.reduceBNe, reduceCtorEq, Int.reduceBEq, Int.reduceBNe, Int.reduceLT, Int.reduceLE, Int.reduceEq, Int.reduceToNat, Int.reduceAdd, Int.reduceSub, Int.reduceNeg, h]
  refine new_mk fun M1 e1 => ?_
  have l1 : m.bl.length ≤ M1.low := by rw [e1]; exact hl0
  have R1 : RowIs M1 M.bl.length cs := by rw [e1]; exact row_push _ _
  simp +contextual only [vq, vc, ve, vv, vn, vl, ↓reduceIte, Nat.reduceEqDiff, Nat.reduceAdd, Nat.reduceMul, Nat.reduceSub, Nat.reduceLeDiff, Nat.reduceLT, Nat.reduceBEq, Nat.reduceBNe, reduceCtorEq, Int.reduceBEq, Int.reduceBNe, Int.reduceLT, Int.reduceLE, Int.reduceEq, Int.reduceToNat, Int.reduceAdd, Int.reduceSub, Int.reduceNeg]
  refine new_mk fun M2 e2 => ?_
  have l2 : m.bl.length ≤ M2.low := by rw [e2]; exact l1
  have R1 : RowIs M2 M.bl.length cs := by rw [e2]; exact row_keep R1
  have R2 : RowIs M2 M1.bl.length noBook := by rw [e2]; exact row_push _ _
  have n19 : M2.getN G ⟨.mem M.bl.length 0, 0⟩ 19 = some cs := by
    simp [Mem.getN, Mem.row]
    rw [show M2.bl[M.bl.length]? = _ from R1]
    simp [h]
    exact List.take_of_length_le (by omega)
  have n18 : M2.getN G ⟨.mem M.bl.length 0, 1⟩ 18 = some (cs.drop 1) := by
    simp [Mem.getN, Mem.row]
    rw [show M2.bl[M.bl.length]? = _ from R1]
    simp [h]
    exact List.take_of_length_le (by simp [h])
  simp +contextual only [vq, vc, ve, vv, vn, vl, ↓reduceIte, Nat.reduceEqDiff, Nat.reduceAdd, Nat.reduceMul, Nat.reduceSub, Nat.reduceLeDiff, Nat.reduceLT, Nat.reduceBEq, Nat.reduceBNe, reduceCtorEq, Int.reduceBEq, Int.reduceBNe, Int.reduceLT, Int.reduceLE, Int.reduceEq, Int.reduceToNat, Int.reduceAdd, Int.reduceSub, Int.reduceNeg, l2, n19, n18, callR_val (c_nil_Expand M2 cs h), callR_val (c_zero_Expand M2 M1.bl.length cs h R2), callR_val (c_l19_wakes M2), callR_val (c_nil_Local M2 (cs.drop 1) (by simp [h])), callR_val (c_zero_Local M2 M1.bl.length (cs.drop 1) (by simp [h]) R2), callR_val (c_nil_Knows M2 cs h), callR_val (c_zero_Knows M2 M1.bl.length cs h R2), callR_val (c_nil_Rings M2), callR_val (c_zero_Rings M2 M1.bl.length R2)]
theorem lawAll (m : Mem) (xs : List EV) (hro : RO m) (hs : SitArgs 1048576 m [.struct [.str, .struct [.int .i64, .str, .arr 16 (.int .u8)]]] xs) : ∃ m' p', Go.Ev.Comes T G f_l19_AliasNil xs m none ⟨.val (.bool true), m', p'⟩ := by
  obtain ⟨ys, r, rfl, h1, h2, rfl⟩ := hs
  exact ⟨m, none, law m ys h2⟩
end Go.Proofs.YtblbfgbmiohjfaaGreatDoor.aliasNil
