/- ParamParses: Parse of any text is what the reference says; what it gives is new memory. Holds of the given program for arguments of at most 1048576 values and letters (the statement's own bound). There are no other conditions. -/
import Derived.Test.YtjlpfijbnflknaaDoorPaL3
import Derived.Test.YtjlpfijbnflknaaDoorCards
import Derived.Test.YtjlpfijbnflknaaDoorTie
import Derived.WalkKit
import Derived.ProofKit
import Derived.OpenShut
import Derived.Deep.DeepHandedRow
import Derived.Deep.DeepWitnessRowRef
import Derived.Stop.LaidErr
import Derived.Lay
import Derived.Shelf.Vars
import Derived.Test.YtjlpfijbnflknaaDoorPaEv20
import Derived.Test.YtjlpfijbnflknaaDoorPaEv24
set_option linter.unusedSimpArgs false
set_option linter.unusedSectionVars false
namespace Go.Proofs.YtjlpfijbnflknaaDoor.paramParses
open Go.ChangeShapes Go.WideShapes Go.ChangeAt Go.RowKit
open Go.Ev hiding Comes
set_option linter.unusedVariables false

theorem own : ownKnob Tryd.prog.godebug = none := by kernel_rfl
theorem mix : Tryd.prog.follows .mixedOrders = true := by kernel_rfl
theorem fits : Go.Ev.Fits Tryd.prog T := fun _ _ h => h
theorem gTab : Tryd.prog.globalNamed "posthorn/octet.stretches" = some 0 := by kernel_rfl
theorem gTabType : (Tryd.prog.globals[0]?).map (·.type) = some 95 := by kernel_rfl
def tabSh : Sh := .arr 35 (.struct [.int .i64, .int .u8, .int .u8])
theorem tabShOk : shOk Tryd.prog tabSh 95 = true := by kernel_rfl
theorem tabFlat : flatV (H := Unit) Rows.laid_posthorn_octet_stretches = tabRow := by kernel_rfl
theorem tabCellOk : tabRow.all cellOk = true := by kernel_rfl

/-- A variable of a whole number that is not laid: it holds some number. -/
theorem glob_of_shape {P : Program} {w : World} {g : Nat} {t : TypeId} {zero : Array Value} {k : IntKind} {j : Inj} {m : Mem} (h : w.ShapedOpen P) (hg : g < P.globals.size) (h0 : ((begin P (fun _ _ => 0) default).world.heap[g]?).bind Obj.row? = some (zero, t)) (hz : zero.size = 1)
    (hb : P.buildable t = true) (hc : P.cellTypes P.depth t = some [t]) (hu : P.underlying t = some (.int k)) : ∃ x : Int, g < w.heap.size ∧ ∃ c ty fr, w.heap[g]? = some (.cells c ty fr) ∧ RowIn j m [.int k x] c 0 := by
  obtain ⟨x, hx⟩ := Go.Proofs.cell_of_shapedOpen_int h hg h0 hz hb hc hu
  unfold World.cell? at hx
  split at hx
  case h_2 => cases hx
  rename_i c ty fr hh
  simp only [Option.isSome_none, Bool.false_eq_true, if_false] at hx
  refine ⟨x, (Array.getElem?_eq_some_iff.1 hh).1, c, ty, fr, hh, ?_, fun i y hi => ?_⟩
  · have := (Array.getElem?_eq_some_iff.1 hx).1
    simp at this ⊢
    omega
  · match i, hi with
    | 0, hi =>
      cases hi
      exact ⟨_, hx, rfl⟩
    | i + 1, hi => simp at hi
theorem maxAt {W : World} (h : W.ShapedOpen Tryd.prog) : ∃ x : Int, 1 < W.heap.size ∧ ∃ c ty fr, W.heap[1]? = some (.cells c ty fr) ∧ RowIn ⟨id, id, id, fun _ => none⟩ ⟨[], 0⟩ [.int .i64 x] c 0 :=
  glob_of_shape (P := Tryd.prog) (g := 1) (t := 3) (zero := #[.int .i64 0]) h (of_decide_eq_true (by kernel_rfl)) (by kernel_rfl) rfl (by kernel_rfl) (by kernel_rfl) Tryd.underlying3
theorem globs {W : World} (h : laidMetH Tryd.prog Rows.paramParsesUptoRow.laid W) {x : Int} (hx : 1 < W.heap.size ∧ ∃ c ty fr, W.heap[1]? = some (.cells c ty fr) ∧ RowIn ⟨id, id, id, fun _ => none⟩ ⟨[], 0⟩ [.int .i64 x] c 0) : ∀ g cs, maxG x g = some cs → g < W.heap.size ∧ cs.all cellOk = true ∧ ∃ c ty fr, W.heap[g]? = some (.cells c ty fr) ∧ RowIn ⟨id, id, id, fun _ => none⟩ ⟨[], 0⟩ cs c 0 := by
  intro g cs hg
  unfold maxG at hg
  split at hg
  · rename_i h0
    subst h0
    cases hg
    obtain ⟨h1, h2⟩ := glob_of_laid (j := ⟨id, id, id, fun _ => none⟩) (m := ⟨[], 0⟩) gTab gTabType tabShOk rfl tabFlat (show laidMet Tryd.prog _ W from h)
    exact ⟨h1, tabCellOk, h2⟩
  · split at hg
    case isFalse => cases hg
    rename_i h0
    subst h0
    cases hg
    exact ⟨hx.1, rfl, hx.2⟩

mutual
theorem bulk_le {H : Type} : ∀ (l : List (DataW H)) (d : DataW H), d ∈ l → Rows.uptoBulk d ≤ Rows.uptoBulkAll l
  | [], d, h => by cases h
  | x :: l, d, h => by
    simp only [Rows.uptoBulkAll]
    rcases List.mem_cons.1 h with rfl | h
    · omega
    · have := bulk_le l d h
      omega
end
theorem bulk_len {H : Type} : ∀ (l : List (DataW H)), l.length ≤ Rows.uptoBulkAll l
  | [] => by simp [Rows.uptoBulkAll]
  | x :: l => by
    have h1 : 1 ≤ Rows.uptoBulk x := by
      cases x <;> (try simp only [Rows.uptoBulk]) <;> (try omega)
      rename_i v
      cases v <;> simp [Rows.uptoBulk]
    have := bulk_len l
    simp only [Rows.uptoBulkAll, List.length_cons]
    omega
theorem bulky {H : Type} : Bulky (H := H) Rows.uptoBulk :=
  ⟨fun bs => by simp only [Rows.uptoBulk]; omega,
   fun es sp => by have := bulk_len es; simp only [Rows.uptoBulk]; omega,
   fun es sp e he => by have := bulk_le es e he; simp only [Rows.uptoBulk]; omega,
   fun ps p hp => by have := bulk_le ps p hp; simp only [Rows.uptoBulk]; omega⟩

theorem shOk_0 : shOk Tryd.prog .str 9 = true := by kernel_rfl
theorem shOk_1 : shOk Tryd.prog .bool 4 = true := by kernel_rfl

set_option maxRecDepth 100000 in
theorem contract (H : Type) (enc : TypeId × Value → H) (W : World) (base : Nat) (args : Array Value) (ds gs : List (DataW H)) (before : List MemPlace)
    (hval : ∀ (j : Nat) t v, Tryd.f9.params[j]? = some t → args[j]? = some v → Value.okWide Tryd.prog W .any base t v)
    (hW : DataW.Whole enc Tryd.prog Tryd.f9.params.toList Rows.paramParsesSpec.vars false W args.toList ds gs before) (hk : Rows.uptoSmall H (ds ++ gs) = true) (hL : laidMetH Tryd.prog Rows.paramParsesUptoRow.laid W) (hS : W.ShapedOpen Tryd.prog) :
    Calls Tryd.prog 9 args W fun e W' => ∃ v, e = .returned v ∧ Rows.paramParsesSpec.post enc Tryd.prog Tryd.f9 false true false false W args v W' := by
  have hW' := hW
  obtain ⟨p, q, hA0, hV, rfl, hfz, hnd⟩ := hW
  have hA : DataW.TrodAll enc Tryd.prog W 0 (fun _ => true) true Tryd.f9.params.toList args.toList ds p := hA0
  rw [Tryd.params9] at hA hval
  obtain ⟨rfl, rfl⟩ := trodVars_none hV
  simp only [List.append_nil] at hW' hk
  have hk' : Rows.uptoBulkAll ds ≤ 1048576 := by
    unfold Rows.uptoSmall at hk
    exact of_decide_eq_true hk
  have hps : ∀ x ∈ p, x.block < W.heap.size := hA.lt
  obtain ⟨d0, d1, rfl⟩ : ∃ d0 d1, ds = [d0, d1] := by
    obtain ⟨v0, vs0, e0, es0, p0, q0, _, rfl, _, _, r0⟩ := trodAll_cons hA
    obtain ⟨v1, vs1, e1, es1, p1, q1, _, rfl, _, _, r1⟩ := trodAll_cons r0
    obtain ⟨_, rfl, _⟩ := trodAll_nil r1
    exact ⟨e0, e1, rfl⟩
  obtain ⟨ef, hef⟩ : ∃ ef, T 9 = some ef := ⟨_, T_l10_ParamParses⟩
  have hprim : ef.prim = none := by
    have h := (show T 9 = some F_l10_ParamParses from T_l10_ParamParses)
    rw [h] at hef
    cases hef
    rfl
  obtain ⟨x, hx⟩ := maxAt hS
  letI := maxGG x
  refine (law_calls bulky mix fits hef hprim (shs := [.str, .bool]) (ts := [9, 4]) (bb := base) lawAll rfl ?_ ?_ hA (fun d hd => Nat.le_trans (bulk_le _ d hd) hk') (globs hL hx)).mono fun e W' ⟨he, hb⟩ => ?_
  · intro i s t hs ht
    match i, hs, ht with
    | 0, hs, ht => cases hs; cases ht; exact shOk_0
    | 1, hs, ht => cases hs; cases ht; exact shOk_1
    | i + 2, hs, ht => simp at hs
  · intro i t v ht hv
    exact hval i t v (by simpa using ht) (by simpa using hv)
  · subst he
    refine ⟨_, rfl, post_of_below (pa := p) (pv := []) hW' hb (fun _ _ _ => (trodAll_cons_mk (shut_bool Tryd.underlying4 _) trodAll_mk0)) (fun sp hsp => ?_) (fun _ _ => rfl) (by simp) (ok_one (by kernel_rfl) rfl (okWide_bool_mk Tryd.underlying4 _))⟩
    have := trodAll_below (enc := enc) (P := Tryd.prog) (by kernel_rfl) hb (ts := [9, 4]) (by intro t ht; simp at ht; rcases ht with rfl | rfl <;> exact ⟨by kernel_rfl, of_decide_eq_true (by kernel_rfl)⟩) hA hps sp hsp
    rw [Tryd.params9]
    exact this

theorem laid_met (os : Os) : laidMet Tryd.prog Rows.paramParsesUptoRow.laid ((World.laidAll Tryd.prog os Rows.paramParsesUptoRow.laid).forCall (fun _ _ => 0) ⟨#[], #[.string ⟨#[]⟩, .bool false], []⟩).memory :=
  laidMet_laidAll _ (by kernel_rfl) (by kernel_rfl)
theorem reads (os : Os) {H : Type} (enc : TypeId × Value → H) : ∃ places, DataW.whole enc Tryd.prog ((World.laidAll Tryd.prog os Rows.paramParsesUptoRow.laid).forCall (fun _ _ => 0) ⟨#[], #[.string ⟨#[]⟩, .bool false], []⟩).memory Tryd.f9.params.toList Rows.paramParsesSpec.vars false (#[.string ⟨#[]⟩, .bool false] : Array Value).toList 8 = some ([.lit (.string []), .lit (.bool false)], [], places) :=
  ⟨[], by kernel_rfl⟩

set_option maxRecDepth 100000 in
theorem lifted (os : Os) (started : os.Started) (H : Type) (enc : TypeId × Value → H) (F : Stop.Interp) :
    ReturnsInHanded {} Tryd.checked os 9 .any ((Rows.OpenSpec.upto Rows.paramParsesSpec).preRow enc Tryd.prog Tryd.f9 Rows.paramParsesUptoRow.domain false Rows.paramParsesUptoRow.laid) (((Rows.OpenSpec.upto Rows.paramParsesSpec).at F).post enc Tryd.prog Tryd.f9 false true false false) := by
  obtain ⟨places, hx⟩ := reads os enc
  refine returnsInHanded_of_row (C := Tryd.checked) (s := Rows.OpenSpec.upto Rows.paramParsesSpec) own started (by kernel_rfl) Tryd.func9
    (witness_row_atRef (enc := enc) (C := Tryd.checked) false (World.laidAll Tryd.prog os Rows.paramParsesUptoRow.laid) #[.string ⟨#[]⟩, .bool false] (World.laidAll_os _ _ _) (by kernel_rfl) (by kernel_rfl) (by kernel_rfl)
      (OpenSpec.preRow_of_cond 8 hx (by kernel_rfl) (fun k hk => by cases hk; kernel_rfl) (by kernel_rfl) (laid_met os))) ?_
  intro W base args ds gs before hval hW _ hcond _ hL hS _
  exact contract H enc W base args ds gs before hval hW (hcond _ rfl) hL hS

theorem said : Rows.ParamParsesUptoSaid :=
  OpenClaim.holds_of_cond 9 Tryd.f9 rfl rfl rfl rfl rfl rfl rfl ⟨rfl, rfl, rfl, rfl, rfl⟩ rfl rfl rfl rfl rfl (by kernel_rfl) Tryd.func9 (by kernel_rfl)
    (of_decide_eq_true (by kernel_rfl)) (by unfold Func.isWrapper; first | (rw [if_pos (by decide +kernel)]; kernel_rfl) | (rw [if_neg (by decide +kernel)]; exact ⟨rfl, rfl⟩))
    (fun os started H enc _ F => by rw [OpenClaim.pre_eq_preRow]; exact lifted os started H enc F)

theorem plain (f : FuncId) (fn : Func) (hf : Tryd.pinned.checked.prog.funcNamed "posthorn/posthornlaw10.ParamParses" = some f) (hfn : Tryd.pinned.checked.prog.funcs[f]? = some fn) :
    false = Tryd.pinned.checked.prog.looks [] ∧ ∀ (j : Nat) t, fn.params[j]? = some t → Tryd.pinned.checked.prog.wantsStandIn t = false := by
  obtain rfl : f = 9 := Option.some.inj ((show Tryd.prog.funcNamed "posthorn/posthornlaw10.ParamParses" = some 9 by kernel_rfl).symm.trans hf) |>.symm
  obtain rfl : fn = Tryd.f9 := (Option.some.inj (Tryd.func9.symm.trans hfn)).symm
  refine ⟨by kernel_rfl, fun j t ht => ?_⟩
  rw [Tryd.params9] at ht
  have := Array.mem_of_getElem? ht
  simp at this
  rcases this with rfl | rfl
  · exact (show Tryd.prog.wantsStandIn 9 = false by kernel_rfl)
  · exact (show Tryd.prog.wantsStandIn 4 = false by kernel_rfl)

theorem proved : Rows.ParamParsesUptoCardSaid :=
  Claim7.holds_tied_plain_at .later [] _ _ _ _ said (fun _ h => by cases h) (by kernel_rfl) (fun _ h => by cases h) paramParsesUpto_row_tie rfl ⟨rfl, rfl⟩ (by kernel_rfl) rfl plain (by kernel_rfl)
end Go.Proofs.YtjlpfijbnflknaaDoor.paramParses
