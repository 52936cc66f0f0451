/- The closed part of the law: the program's first answers ('wakes'), reckoned. There are no conditions. -/
import Derived.Test.YtjomofcdanpdgadGreatDoorRuFuns
import Derived.Test.YtjomofcdanpdgadGreatDoorRuEv25
import Derived.KernelRfl
set_option linter.unusedSimpArgs false
set_option linter.unusedSectionVars false
set_option linter.unusedVariables false
namespace Go.Proofs.YtjomofcdanpdgadGreatDoor.recordUnlike
open Go.Ev hiding Comes
open Go.Ev (FitsO OrcOk OrcRun GPlain)

def tab : List (Int × Nat × Nat) := [(1, 65, 90), (1, 97, 122), (2, 48, 57), (3, 65, 90), (3, 97, 122), (3, 48, 57), (4, 48, 57), (4, 65, 70), (4, 97, 102), (5, 33, 33), (5, 35, 39), (5, 42, 43), (5, 45, 45), (5, 47, 47), (5, 61, 61), (5, 63, 63), (5, 94, 96), (5, 123, 126), (6, 32, 33), (6, 35, 91), (6, 93, 126), (7, 33, 90), (7, 94, 126), (8, 33, 60), (8, 62, 126), (9, 33, 42), (9, 44, 60), (9, 62, 126), (10, 45, 45), (11, 33, 57), (11, 59, 126), (12, 9, 9), (12, 32, 126), (13, 0, 127), (14, 128, 255)]
def tabCells (x : Int × Nat × Nat) : List EV := [.int .i64 x.1, .int .u8 (x.2.1 : Nat), .int .u8 (x.2.2 : Nat)]
def tabRow : List EV := (tab.map tabCells).flatten
def G : Globs := fun g => if g = 0 then some tabRow else none
theorem mix : Tryz.prog.follows .mixedOrders = true := by kernel_rfl
theorem fitsG : Go.Ev.Fits Tryz.prog Tg := fun _ _ h => h
theorem fits1 : FitsO Tryz.prog Tg := fun _ _ h => .inl h
theorem orc1 (base : Nat) (w0 : World) : OrcOk Tryz.prog Tg G base w0 := fun f ef o args m v j w vs hf hp _ _ _ => absurd hp (getF_num hf)
theorem gplain : GPlain G := by
  intro g cs h
  unfold G at h
  split at h
  · cases h; exact (show tabRow.all plainV = true by kernel_rfl)
  · cases h
def isYes : Option CR → Bool
  | some ⟨.val (.bool true), _, _⟩ => true
  | _ => false
theorem isYes_spec {r : Option CR} (h : isYes r = true) : ∃ m p, r = some ⟨.val (.bool true), m, p⟩ := by
  unfold isYes at h
  split at h
  · exact ⟨_, _, rfl⟩
  · cases h
theorem run : isYes (evFunL Tg G 3000 4 [] ⟨[], 0⟩ none) = true := by kernel_rfl
theorem known : OrcRun Tg G 4 yes0 := by
  intro args v h
  unfold yes0 at h
  split at h
  · cases h
    obtain ⟨m, p, e⟩ := isYes_spec run
    exact ⟨rfl, rfl, m, p, comes_of_run e⟩
  · cases h
theorem fitsT : FitsO Tryz.prog T := by
  intro f ef h
  unfold T at h
  split at h
  · cases h; exact .inr ⟨_, rfl⟩
  · exact .inl h
theorem t14 : ∃ ef, Tg 4 = some ef ∧ ef.prim = none := by
  obtain ⟨ef, hef⟩ : ∃ ef, Tg 4 = some ef := Option.isSome_iff_exists.1 (show (Tg 4).isSome = true by kernel_rfl)
  refine ⟨ef, hef, ?_⟩
  have : (Tg 4).bind (·.prim) = none := by kernel_rfl
  rw [hef] at this
  exact this
theorem orcT (base : Nat) (w0 : World) : OrcOk Tryz.prog T G base w0 := by
  intro f ef o args m v j w vs hf hp ho hm hv
  unfold T at hf
  split at hf
  · rename_i h4
    subst h4
    cases hf
    cases hp
    obtain ⟨e4, he4, hp4⟩ := t14
    exact orc_run mix fits1 gplain orc1 he4 hp4 known ho hm hv
  · exact absurd hp (getF_num hf)
/-- What the law's first call comes to. -/
theorem c4 (m : Mem) : Go.Ev.Comes T G 4 [] m none ⟨.val (.bool true), m, none⟩ := ⟨1, rfl⟩
end Go.Proofs.YtjomofcdanpdgadGreatDoor.recordUnlike
