/- The closed part of the law: the program's first answers ('wakes'), reckoned. There are no conditions. -/
import Derived.Test.YtjomofcdanpdgabGreatDoorPcIG
import Derived.Test.YtjomofcdanpdgabGreatDoorPcEv25
import Derived.KernelRfl
set_option linter.unusedSimpArgs false
set_option linter.unusedSectionVars false
set_option linter.unusedVariables false
namespace Go.Proofs.YtjomofcdanpdgabGreatDoor.paramCarried
open Go.Ev hiding Comes
open Go.Ev (FitsO OrcOk OrcRun GPlain)

theorem mix : Tryz.prog.follows .mixedOrders = true := by kernel_rfl
theorem fitsG : Go.Ev.Fits Tryz.prog Tg := fun _ _ h => h
theorem Tg7 : Tg 7 = some F7 := by kernel_rfl
/-- What octet.Is is known to answer. -/
def oIs : List EV → Option EV
  | [.int .i64 c, .int .u8 b] => if 0 ≤ b then some (.bool (isF c b.toNat)) else none
  | _ => none
noncomputable def T1 : FuncId → Option EFunc := fun f => if f = 7 then some ⟨[], .skip, some (.orc oIs)⟩ else Tg f
theorem fits1 : FitsO Tryz.prog T1 := by
  intro f ef h
  unfold T1 at h
  split at h
  · cases h; exact .inr ⟨_, rfl⟩
  · exact .inl h
theorem orc1 (base : Nat) (w0 : World) : OrcOk Tryz.prog T1 G base w0 := by
  intro f ef o args m v j w vs hf hp ho hm hv
  unfold T1 at hf
  split at hf
  · rename_i h7
    subst h7
    cases hf
    cases hp
    unfold oIs at ho
    split at ho
    case h_2 => cases ho
    rename_i c b
    split at ho
    case isFalse => cases ho
    rename_i hb
    cases ho
    obtain ⟨b, rfl⟩ : ∃ n : Nat, b = (n : Int) := ⟨b.toNat, by omega⟩
    exact orc_of_comes mix fitsG Tg7 rfl (c7g Tg7 m c b) hm hv
  · exact absurd hp (getF_num hf)
theorem gplain : GPlain G := by
  intro g cs h
  unfold G at h
  split at h
  · cases h; exact (show tabRow.all plainV = true by kernel_rfl)
  · cases h
def isYes : Option CR → Bool
  | some ⟨.val (.bool true), _, _⟩ => true
  | _ => false
theorem isYes_spec {r : Option CR} (h : isYes r = true) : ∃ m p, r = some ⟨.val (.bool true), m, p⟩ := by
  unfold isYes at h
  split at h
  · exact ⟨_, _, rfl⟩
  · cases h
theorem run : isYes (evFunL T1 G 3000 4 [] ⟨[], 0⟩ none) = true := by kernel_rfl
theorem known : OrcRun T1 G 4 yes0 := by
  intro args v h
  unfold yes0 at h
  split at h
  · cases h
    obtain ⟨m, p, e⟩ := isYes_spec run
    exact ⟨rfl, rfl, m, p, comes_of_run e⟩
  · cases h
theorem fitsT : FitsO Tryz.prog T := by
  intro f ef h
  unfold T at h
  split at h
  · cases h; exact .inr ⟨_, rfl⟩
  · exact .inl h
theorem t14 : ∃ ef, T1 4 = some ef ∧ ef.prim = none := by
  obtain ⟨ef, hef⟩ : ∃ ef, T1 4 = some ef := Option.isSome_iff_exists.1 (show (T1 4).isSome = true by kernel_rfl)
  refine ⟨ef, hef, ?_⟩
  have : (T1 4).bind (·.prim) = none := by kernel_rfl
  rw [hef] at this
  exact this
theorem orcT (base : Nat) (w0 : World) : OrcOk Tryz.prog T G base w0 := by
  intro f ef o args m v j w vs hf hp ho hm hv
  unfold T at hf
  split at hf
  · rename_i h4
    subst h4
    cases hf
    cases hp
    obtain ⟨e4, he4, hp4⟩ := t14
    exact orc_run mix fits1 gplain orc1 he4 hp4 known ho hm hv
  · exact absurd hp (getF_num hf)
/-- What the law's first call comes to. -/
theorem c4 (m : Mem) : Go.Ev.Comes T G 4 [] m none ⟨.val (.bool true), m, none⟩ := ⟨1, rfl⟩
end Go.Proofs.YtjomofcdanpdgabGreatDoor.paramCarried
