/- RetryKnown: The numbers of errors, the limits, and what the document's examples name. Holds of the given program. There are no conditions. -/
import Derived.Test.YtcejaoeomcanbaaGreatDoorRkL1
import Derived.Test.YtcejaoeomcanbaaGreatDoorCards
import Derived.Test.YtcejaoeomcanbaaGreatDoorTie
import Derived.WalkKit
import Derived.ProofKit
import Derived.OpenShut
import Derived.Deep.DeepHandedRow
import Derived.Deep.DeepWitnessRowRef
import Derived.Stop.LaidErr
import Derived.Lay
import Derived.Test.YtcejaoeomcanbaaGreatDoorXEv20
import Derived.Test.YtcejaoeomcanbaaGreatDoorXEv24
import Derived.Test.YtcejaoeomcanbaaGreatDoorXEv25
set_option linter.unusedSimpArgs false
set_option linter.unusedSectionVars false
namespace Go.Proofs.YtcejaoeomcanbaaGreatDoor.retryKnown
open Go.ChangeShapes Go.WideShapes Go.ChangeAt Go.RowKit
open Go.Ev hiding Comes
set_option linter.unusedVariables false

theorem own : ownKnob Tryz.prog.godebug = none := by kernel_rfl
theorem mix : Tryz.prog.follows .mixedOrders = true := by kernel_rfl
theorem gTab : Tryz.prog.globalNamed "posthorn/octet.stretches" = some 1 := by kernel_rfl
theorem gTabType : (Tryz.prog.globals[1]?).map (·.type) = some 160 := by kernel_rfl
def tabSh : Sh := .arr 35 (.struct [.int .i64, .int .u8, .int .u8])
theorem tabShOk : shOk Tryz.prog tabSh 160 = true := by kernel_rfl
theorem tabFlat : flatV (H := Unit) Rows.laid_posthorn_octet_stretches = tabRow := by kernel_rfl
theorem tabCellOk : tabRow.all cellOk = true := by kernel_rfl

theorem globs {W : World} (h : laidMetH Tryz.prog Rows.retryKnownUptoRow.laid W) : ∀ g cs, tabG g = some cs → g < W.heap.size ∧ cs.all cellOk = true ∧ ∃ c ty fr, W.heap[g]? = some (.cells c ty fr) ∧ RowIn ⟨id, id, id, fun _ => none⟩ ⟨[], 0⟩ cs c 0 := by
  intro g cs hg
  unfold tabG at hg
  split at hg
  case isFalse => cases hg
  rename_i h0
  subst h0
  cases hg
  obtain ⟨h1, h2⟩ := glob_of_laid (j := ⟨id, id, id, fun _ => none⟩) (m := ⟨[], 0⟩) gTab gTabType tabShOk rfl tabFlat (show laidMet Tryz.prog _ W from h).tail
  exact ⟨h1, tabCellOk, h2⟩

set_option maxRecDepth 100000 in
theorem contract (H : Type) (enc : TypeId × Value → H) (W : World) (base : Nat) (args : Array Value) (ds gs : List (DataW H)) (before : List MemPlace)
    (hval : ∀ (j : Nat) t v, Tryz.f3.params[j]? = some t → args[j]? = some v → Value.okWide Tryz.prog W .any base t v)
    (hW : DataW.Whole enc Tryz.prog Tryz.f3.params.toList Rows.retryKnownSpec.vars false W args.toList ds gs before) (hk : Rows.uptoSmall H (ds ++ gs) = true) (hL : laidMetH Tryz.prog Rows.retryKnownUptoRow.laid W) :
    Calls Tryz.prog 3 args W fun e W' => ∃ v, e = .returned v ∧ Rows.retryKnownSpec.post enc Tryz.prog Tryz.f3 false true false false W args v W' := by
  have hW' := hW
  obtain ⟨p, q, hA0, hV, rfl, hfz, hnd⟩ := hW
  have hA : DataW.TrodAll enc Tryz.prog W 0 (fun _ => true) true Tryz.f3.params.toList args.toList ds p := hA0
  rw [Tryz.params3] at hA
  obtain ⟨rfl, rfl⟩ := trodVars_none hV
  simp only [List.append_nil] at hW'
  obtain ⟨ha, rfl, rfl⟩ := trodAll_nil hA
  have ha : args = #[] := Array.ext' ha
  subst ha
  obtain ⟨ef, hef, hprim⟩ := isPlainF_ok lawIs
  refine (closed_calls (P := Tryz.prog) mix fitsT orcT hef hprim lawAll (globs hL)).mono fun e W' ⟨he, hb⟩ => ?_
  subst he
  refine ⟨_, rfl, post_of_below (pa := []) (pv := []) hW' hb (fun _ _ _ => (trodAll_cons_mk (shut_bool Tryz.underlying4 _) trodAll_mk0)) (fun sp hsp => ?_) (fun _ _ => rfl) (by simp) (ok_one (by kernel_rfl) rfl (okWide_bool_mk Tryz.underlying4 _))⟩
  have := trodAll_below (enc := enc) (P := Tryz.prog) (by kernel_rfl) hb (ts := []) (by intro t ht; simp at ht) hA (by simp) sp hsp
  rw [Tryz.params3]
  exact this

theorem laid_met (os : Os) : laidMet Tryz.prog Rows.retryKnownUptoRow.laid ((World.laidAll Tryz.prog os Rows.retryKnownUptoRow.laid).forCall (fun _ _ => 0) ⟨#[], #[], []⟩).memory :=
  laidMet_laidAll _ (by kernel_rfl) (by kernel_rfl)
theorem reads (os : Os) {H : Type} (enc : TypeId × Value → H) : ∃ places, DataW.whole enc Tryz.prog ((World.laidAll Tryz.prog os Rows.retryKnownUptoRow.laid).forCall (fun _ _ => 0) ⟨#[], #[], []⟩).memory Tryz.f3.params.toList Rows.retryKnownSpec.vars false (#[] : Array Value).toList 8 = some ([], [], places) :=
  ⟨[], by kernel_rfl⟩

set_option maxRecDepth 100000 in
theorem lifted (os : Os) (started : os.Started) (H : Type) (enc : TypeId × Value → H) (F : Stop.Interp) :
    ReturnsInHanded {} Tryz.checked os 3 .any ((Rows.OpenSpec.upto Rows.retryKnownSpec).preRow enc Tryz.prog Tryz.f3 Rows.retryKnownUptoRow.domain false Rows.retryKnownUptoRow.laid) (((Rows.OpenSpec.upto Rows.retryKnownSpec).at F).post enc Tryz.prog Tryz.f3 false true false false) := by
  obtain ⟨places, hx⟩ := reads os enc
  refine returnsInHanded_of_row (C := Tryz.checked) (s := Rows.OpenSpec.upto Rows.retryKnownSpec) own started (by kernel_rfl) Tryz.func3
    (witness_row_atRef (enc := enc) (C := Tryz.checked) false (World.laidAll Tryz.prog os Rows.retryKnownUptoRow.laid) #[] (World.laidAll_os _ _ _) (by kernel_rfl) (by kernel_rfl) (by kernel_rfl)
      (OpenSpec.preRow_of_cond 8 hx (by kernel_rfl) (fun k hk => by cases hk; kernel_rfl) (by kernel_rfl) (laid_met os))) ?_
  intro W base args ds gs before hval hW _ hcond _ hL hS _
  exact contract H enc W base args ds gs before hval hW (hcond _ rfl) hL

theorem said : Rows.RetryKnownUptoSaid :=
  OpenClaim.holds_of_cond 3 Tryz.f3 rfl rfl rfl rfl rfl rfl rfl ⟨rfl, rfl, rfl, rfl, rfl⟩ rfl rfl rfl rfl rfl (by kernel_rfl) Tryz.func3 (by kernel_rfl)
    (of_decide_eq_true (by kernel_rfl)) (by unfold Func.isWrapper; first | (rw [if_pos (by decide +kernel)]; kernel_rfl) | (rw [if_neg (by decide +kernel)]; exact ⟨rfl, rfl⟩))
    (fun os started H enc _ F => by rw [OpenClaim.pre_eq_preRow]; exact lifted os started H enc F)

theorem plain (f : FuncId) (fn : Func) (hf : Tryz.pinned.checked.prog.funcNamed "posthorn/posthornlaw29.RetryKnown" = some f) (hfn : Tryz.pinned.checked.prog.funcs[f]? = some fn) :
    false = Tryz.pinned.checked.prog.looks [] ∧ ∀ (j : Nat) t, fn.params[j]? = some t → Tryz.pinned.checked.prog.wantsStandIn t = false := by
  obtain rfl : f = 3 := Option.some.inj ((show Tryz.prog.funcNamed "posthorn/posthornlaw29.RetryKnown" = some 3 by kernel_rfl).symm.trans hf) |>.symm
  obtain rfl : fn = Tryz.f3 := (Option.some.inj (Tryz.func3.symm.trans hfn)).symm
  refine ⟨by kernel_rfl, fun j t ht => ?_⟩
  rw [Tryz.params3] at ht
  simp at ht

theorem proved : Rows.RetryKnownUptoCardSaid :=
  Claim7.holds_tied_plain_at .later [] _ _ _ _ said (fun _ h => by cases h) (by kernel_rfl) (fun _ h => by cases h) retryKnownUpto_row_tie rfl ⟨rfl, rfl⟩ (by kernel_rfl) rfl plain (by kernel_rfl)
end Go.Proofs.YtcejaoeomcanbaaGreatDoor.retryKnown
