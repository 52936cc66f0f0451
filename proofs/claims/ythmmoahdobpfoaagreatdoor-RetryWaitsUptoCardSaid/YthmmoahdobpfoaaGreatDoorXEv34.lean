/- The engine, part 34: the rule for functions that are handed something to do with it what they like. There are no conditions. -/
import Derived.Test.YthmmoahdobpfoaaGreatDoorXEv33
set_option linter.unusedSimpArgs false
set_option linter.unusedSectionVars false
set_option linter.unusedVariables false
namespace Go.Ev
variable {T : FuncId → Option EFunc} {G : Globs}

theorem comes2W {f : FuncId} {args : List EV} {m : Mem} {q : List EV × Mem} {v : EV} {ef : EFunc} (hT : T f = some ef) (hp : ef.prim = some .weak) (hq : weakE args m = some q)
    (h : ∀ M, Grown q.2 M → M.bl.length = q.2.bl.length → M.low = q.2.bl.length → wp2 T G ef.body (doneE G ef.res v q.2.bl.length) ⟨argsE q.1, M, [], none⟩) : Comes T G f args m none ⟨.val v, q.2, none⟩ := by
  have hw := wp2_sound (h ⟨q.2.bl, q.2.bl.length⟩ Grown.begin rfl rfl)
  unfold wpC at hw
  obtain ⟨k, ex, s, he, hQ⟩ := hw
  have fin : s.d = [] ∧ s.p = none ∧ (resultsE G s.A s.m ef.res).map oneE = some v ∧ q.2.bl.length ≤ s.m.low ∧ noref q.2.bl.length v = true → finE (evFun T G k) G ef.res q.2 none s = some ⟨.val v, q.2, none⟩ := by
    rintro ⟨h1, h2, h3, h4, h5⟩
    cases hr : resultsE G s.A s.m ef.res with
    | none => rw [hr] at h3; cases h3
    | some vs =>
      rw [hr] at h3
      simp only [Option.map_some, Option.some.injEq] at h3
      simp only [finE, h1, runD, hr, Option.map_some, List.isEmpty_nil, Bool.true_eq_false, and_false, if_false, h3, h2, leave_keep h4 h5]
  refine ⟨k + 1, ?_⟩
  simp only [evFun, hT, hp, hq, Option.isSome_none, Bool.false_eq_true, if_false, he]
  cases ex with
  | normal => exact fin hQ
  | ret => exact fin hQ
  | exit i => exact hQ.elim
  | pan v => exact hQ.elim
end Go.Ev
