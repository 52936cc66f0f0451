/- RetryWaits: Of any times and any number the program waits as the document says; waits never fall, and none is above the most. Holds of the given program for arguments of at most 1048576 values and letters (the statement's own bound). There are no other conditions. -/
import Derived.Test.YthmmoahdobpfoaaGreatDoorRwL1
import Derived.Test.YthmmoahdobpfoaaGreatDoorCards
import Derived.Test.YthmmoahdobpfoaaGreatDoorTie
import Derived.WalkKit
import Derived.ProofKit
import Derived.OpenShut
import Derived.Deep.DeepHandedRow
import Derived.Deep.DeepWitnessRowRef
import Derived.Stop.LaidErr
import Derived.Lay
import Derived.Test.YthmmoahdobpfoaaGreatDoorXEv20
import Derived.Test.YthmmoahdobpfoaaGreatDoorXEv24
import Derived.Test.YthmmoahdobpfoaaGreatDoorXEv25
set_option linter.unusedSimpArgs false
set_option linter.unusedSectionVars false
namespace Go.Proofs.YthmmoahdobpfoaaGreatDoor.retryWaits
open Go.ChangeShapes Go.WideShapes Go.ChangeAt Go.RowKit
open Go.Ev hiding Comes
set_option linter.unusedVariables false

theorem own : ownKnob Tryz.prog.godebug = none := by kernel_rfl
theorem mix : Tryz.prog.follows .mixedOrders = true := by kernel_rfl
theorem gTab : Tryz.prog.globalNamed "posthorn/octet.stretches" = some 0 := by kernel_rfl
theorem gTabType : (Tryz.prog.globals[0]?).map (·.type) = some 158 := by kernel_rfl
def tabSh : Sh := .arr 35 (.struct [.int .i64, .int .u8, .int .u8])
theorem tabShOk : shOk Tryz.prog tabSh 158 = true := by kernel_rfl
theorem tabFlat : flatV (H := Unit) Rows.laid_posthorn_octet_stretches = tabRow := by kernel_rfl
theorem tabCellOk : tabRow.all cellOk = true := by kernel_rfl

theorem globs {W : World} (h : laidMetH Tryz.prog Rows.retryWaitsUptoRow.laid W) : ∀ g cs, tabG g = some cs → g < W.heap.size ∧ cs.all cellOk = true ∧ ∃ c ty fr, W.heap[g]? = some (.cells c ty fr) ∧ RowIn ⟨id, id, id, fun _ => none⟩ ⟨[], 0⟩ cs c 0 := by
  intro g cs hg
  unfold tabG at hg
  split at hg
  case isFalse => cases hg
  rename_i h0
  subst h0
  cases hg
  obtain ⟨h1, h2⟩ := glob_of_laid (j := ⟨id, id, id, fun _ => none⟩) (m := ⟨[], 0⟩) gTab gTabType tabShOk rfl tabFlat (show laidMet Tryz.prog _ W from h).tail
  exact ⟨h1, tabCellOk, h2⟩

mutual
theorem bulk_le {H : Type} : ∀ (l : List (DataW H)) (d : DataW H), d ∈ l → Rows.uptoBulk d ≤ Rows.uptoBulkAll l
  | [], d, h => by cases h
  | x :: l, d, h => by
    simp only [Rows.uptoBulkAll]
    rcases List.mem_cons.1 h with rfl | h
    · omega
    · have := bulk_le l d h
      omega
end
theorem bulk_len {H : Type} : ∀ (l : List (DataW H)), l.length ≤ Rows.uptoBulkAll l
  | [] => by simp [Rows.uptoBulkAll]
  | x :: l => by
    have h1 : 1 ≤ Rows.uptoBulk x := by
      cases x <;> (try simp only [Rows.uptoBulk]) <;> (try omega)
      rename_i v
      cases v <;> simp [Rows.uptoBulk]
    have := bulk_len l
    simp only [Rows.uptoBulkAll, List.length_cons]
    omega
theorem bulky {H : Type} : Bulky (H := H) Rows.uptoBulk :=
  ⟨fun bs => by simp only [Rows.uptoBulk]; omega,
   fun es sp => by have := bulk_len es; simp only [Rows.uptoBulk]; omega,
   fun es sp e he => by have := bulk_le es e he; simp only [Rows.uptoBulk]; omega,
   fun ps p hp => by have := bulk_le ps p hp; simp only [Rows.uptoBulk]; omega⟩

theorem shOk_0 : shOk Tryz.prog (.struct [(.int .i64), (.flt .f64), (.int .i64), (.int .i64)]) 24 = true := by kernel_rfl
theorem shOk_1 : shOk Tryz.prog (.int .i64) 3 = true := by kernel_rfl

set_option maxRecDepth 100000 in
theorem contract (H : Type) (enc : TypeId × Value → H) (W : World) (base : Nat) (args : Array Value) (ds gs : List (DataW H)) (before : List MemPlace)
    (hval : ∀ (j : Nat) t v, Tryz.f3.params[j]? = some t → args[j]? = some v → Value.okWide Tryz.prog W .any base t v)
    (hW : DataW.Whole enc Tryz.prog Tryz.f3.params.toList Rows.retryWaitsSpec.vars false W args.toList ds gs before) (hk : Rows.uptoSmall H (ds ++ gs) = true) (hL : laidMetH Tryz.prog Rows.retryWaitsUptoRow.laid W) :
    Calls Tryz.prog 3 args W fun e W' => ∃ v, e = .returned v ∧ Rows.retryWaitsSpec.post enc Tryz.prog Tryz.f3 false true false false W args v W' := by
  have hW' := hW
  obtain ⟨p, q, hA0, hV, rfl, hfz, hnd⟩ := hW
  have hA : DataW.TrodAll enc Tryz.prog W 0 (fun _ => true) true Tryz.f3.params.toList args.toList ds p := hA0
  rw [Tryz.params3] at hA hval
  obtain ⟨rfl, rfl⟩ := trodVars_none hV
  simp only [List.append_nil] at hW' hk
  have hk' : Rows.uptoBulkAll ds ≤ 1048576 := by
    unfold Rows.uptoSmall at hk
    exact of_decide_eq_true hk
  have hps : ∀ x ∈ p, x.block < W.heap.size := hA.lt
  obtain ⟨d0, d1, rfl⟩ : ∃ d0 d1, ds = [d0, d1] := by
    obtain ⟨v0, vs0, e0, es0, p0, q0, _, rfl, _, _, r0⟩ := trodAll_cons hA
    obtain ⟨v1, vs1, e1, es1, p1, q1, _, rfl, _, _, r1⟩ := trodAll_cons r0
    obtain ⟨_, rfl, _⟩ := trodAll_nil r1
    exact ⟨e0, e1, rfl⟩
  obtain ⟨ef, hef⟩ : ∃ ef, T 3 = some ef := ⟨_, T_l29_RetryWaits⟩
  have hprim : ef.prim = none := by
    have h := (show T 3 = some F_l29_RetryWaits from T_l29_RetryWaits)
    rw [h] at hef
    cases hef
    rfl
  refine (law_callsO bulky mix fitsT orcT hef hprim (shs := [(.struct [(.int .i64), (.flt .f64), (.int .i64), (.int .i64)]), (.int .i64)]) (ts := [24, 3]) (bb := base) lawAll rfl ?_ ?_ hA (fun d hd => Nat.le_trans (bulk_le _ d hd) hk') (globs hL)).mono fun e W' ⟨he, hb⟩ => ?_
  · intro i s t hs ht
    match i, hs, ht with
    | 0, hs, ht => cases hs; cases ht; exact shOk_0
    | 1, hs, ht => cases hs; cases ht; exact shOk_1
    | i + 2, hs, ht => simp at hs
  · intro i t v ht hv
    exact hval i t v (by simpa using ht) (by simpa using hv)
  · subst he
    refine ⟨_, rfl, post_of_below (pa := p) (pv := []) hW' hb (fun _ _ _ => (trodAll_cons_mk (shut_bool Tryz.underlying4 _) trodAll_mk0)) (fun sp hsp => ?_) (fun _ _ => rfl) (by simp) (ok_one (by kernel_rfl) rfl (okWide_bool_mk Tryz.underlying4 _))⟩
    have := trodAll_below (enc := enc) (P := Tryz.prog) (by kernel_rfl) hb (ts := [24, 3]) (by intro t ht; simp at ht; rcases ht with rfl | rfl <;> exact ⟨by kernel_rfl, of_decide_eq_true (by kernel_rfl)⟩) hA hps sp hsp
    rw [Tryz.params3]
    exact this

theorem laid_met (os : Os) : laidMet Tryz.prog Rows.retryWaitsUptoRow.laid ((World.laidAll Tryz.prog os Rows.retryWaitsUptoRow.laid).forCall (fun _ _ => 0) ⟨#[], #[.agg #[.int .i64 0, .float .f64 0, .int .i64 0, .int .i64 0], .int .i64 0], []⟩).memory :=
  laidMet_laidAll _ (by kernel_rfl) (by kernel_rfl)
theorem reads (os : Os) {H : Type} (enc : TypeId × Value → H) : ∃ places, DataW.whole enc Tryz.prog ((World.laidAll Tryz.prog os Rows.retryWaitsUptoRow.laid).forCall (fun _ _ => 0) ⟨#[], #[.agg #[.int .i64 0, .float .f64 0, .int .i64 0, .int .i64 0], .int .i64 0], []⟩).memory Tryz.f3.params.toList Rows.retryWaitsSpec.vars false (#[.agg #[.int .i64 0, .float .f64 0, .int .i64 0, .int .i64 0], .int .i64 0] : Array Value).toList 8 = some ([.agg [.lit (.int .i64 0), .lit (.float .f64 0), .lit (.int .i64 0), .lit (.int .i64 0)], .lit (.int .i64 0)], [], places) :=
  ⟨[], by kernel_rfl⟩

set_option maxRecDepth 100000 in
theorem lifted (os : Os) (started : os.Started) (H : Type) (enc : TypeId × Value → H) (F : Stop.Interp) :
    ReturnsInHanded {} Tryz.checked os 3 .any ((Rows.OpenSpec.upto Rows.retryWaitsSpec).preRow enc Tryz.prog Tryz.f3 Rows.retryWaitsUptoRow.domain false Rows.retryWaitsUptoRow.laid) (((Rows.OpenSpec.upto Rows.retryWaitsSpec).at F).post enc Tryz.prog Tryz.f3 false true false false) := by
  obtain ⟨places, hx⟩ := reads os enc
  refine returnsInHanded_of_row (C := Tryz.checked) (s := Rows.OpenSpec.upto Rows.retryWaitsSpec) own started (by kernel_rfl) Tryz.func3
    (witness_row_atRef (enc := enc) (C := Tryz.checked) false (World.laidAll Tryz.prog os Rows.retryWaitsUptoRow.laid) #[.agg #[.int .i64 0, .float .f64 0, .int .i64 0, .int .i64 0], .int .i64 0] (World.laidAll_os _ _ _) (by kernel_rfl) (by kernel_rfl) (by kernel_rfl)
      (OpenSpec.preRow_of_cond 8 hx (by kernel_rfl) (fun k hk => by cases hk; kernel_rfl) (by kernel_rfl) (laid_met os))) ?_
  intro W base args ds gs before hval hW _ hcond _ hL hS _
  exact contract H enc W base args ds gs before hval hW (hcond _ rfl) hL

theorem said : Rows.RetryWaitsUptoSaid :=
  OpenClaim.holds_of_cond 3 Tryz.f3 rfl rfl rfl rfl rfl rfl rfl ⟨rfl, rfl, rfl, rfl, rfl⟩ rfl rfl rfl rfl rfl (by kernel_rfl) Tryz.func3 (by kernel_rfl)
    (of_decide_eq_true (by kernel_rfl)) (by unfold Func.isWrapper; first | (rw [if_pos (by decide +kernel)]; kernel_rfl) | (rw [if_neg (by decide +kernel)]; exact ⟨rfl, rfl⟩))
    (fun os started H enc _ F => by rw [OpenClaim.pre_eq_preRow]; exact lifted os started H enc F)

theorem plain (f : FuncId) (fn : Func) (hf : Tryz.pinned.checked.prog.funcNamed "posthorn/posthornlaw29.RetryWaits" = some f) (hfn : Tryz.pinned.checked.prog.funcs[f]? = some fn) :
    false = Tryz.pinned.checked.prog.looks [] ∧ ∀ (j : Nat) t, fn.params[j]? = some t → Tryz.pinned.checked.prog.wantsStandIn t = false := by
  obtain rfl : f = 3 := Option.some.inj ((show Tryz.prog.funcNamed "posthorn/posthornlaw29.RetryWaits" = some 3 by kernel_rfl).symm.trans hf) |>.symm
  obtain rfl : fn = Tryz.f3 := (Option.some.inj (Tryz.func3.symm.trans hfn)).symm
  refine ⟨by kernel_rfl, fun j t ht => ?_⟩
  rw [Tryz.params3] at ht
  have := Array.mem_of_getElem? ht
  simp at this
  rcases this with rfl | rfl
  · exact (show Tryz.prog.wantsStandIn 24 = false by kernel_rfl)
  · exact (show Tryz.prog.wantsStandIn 3 = false by kernel_rfl)

theorem proved : Rows.RetryWaitsUptoCardSaid :=
  Claim7.holds_tied_plain_at .later [] _ _ _ _ said (fun _ h => by cases h) (by kernel_rfl) (fun _ h => by cases h) retryWaitsUpto_row_tie rfl ⟨rfl, rfl⟩ (by kernel_rfl) rfl plain (by kernel_rfl)
end Go.Proofs.YthmmoahdobpfoaaGreatDoor.retryWaits
