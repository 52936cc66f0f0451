/- The engine, part 26: walking by equations: what code comes to is unfolded by rewriting, one law for each form. There are no conditions. -/
import Derived.Test.YthmmoahdobpfoaaGreatDoorXEv99
set_option linter.unusedSectionVars false
set_option linter.unusedVariables false
set_option linter.unusedSimpArgs false
namespace Go.Ev
variable {T : FuncId → Option EFunc} {G : Globs}

abbrev Dl := List (FuncId × List EV)
abbrev Po := Option (Option EV)
abbrev Post := Ex → St → Prop

/-! ### Calls as partial functions -/
theorem comes_same {f : FuncId} {as : List EV} {m : Mem} {p : Po} {r r' : CR} (h : Comes T G f as m p r) (h' : Comes T G f as m p r') : r = r' := by
  obtain ⟨k, e⟩ := h
  obtain ⟨k', e'⟩ := h'
  have a := evFun_mono (Nat.le_max_left k k') _ _ _ _ _ e
  have b := evFun_mono (Nat.le_max_right k k') _ _ _ _ _ e'
  rw [a] at b
  exact Option.some.inj b

open Classical in
/-- What a call answers. -/
noncomputable def callR (T : FuncId → Option EFunc) (G : Globs) (fv : EV) (as : List EV) (m : Mem) : Option (Res × Mem) :=
  match fv with
  | .func f cap => if h : ∃ r : CR, Comes T G f (as ++ cap) m none r then some (h.choose.res, h.choose.m) else none
  | _ => none
theorem callR_of {f : FuncId} {cap as : List EV} {m : Mem} {r : CR} (h : Comes T G f (as ++ cap) m none r) : callR T G (.func f cap) as m = some (r.res, r.m) := by
  have hx : ∃ r : CR, Comes T G f (as ++ cap) m none r := ⟨r, h⟩
  simp only [callR, dif_pos hx]
  rw [comes_same hx.choose_spec h]
theorem callR_val {f : FuncId} {as : List EV} {m m' : Mem} {v : EV} {p' : Po} (h : Comes T G f as m none ⟨.val v, m', p'⟩) : callR T G (.func f []) as m = some (.val v, m') :=
  callR_of (r := ⟨.val v, m', p'⟩) (by rw [List.append_nil]; exact h)
theorem callR_cap {f : FuncId} {cap as : List EV} {m m' : Mem} {v : EV} {p' : Po} (h : Comes T G f (as ++ cap) m none ⟨.val v, m', p'⟩) : callR T G (.func f cap) as m = some (.val v, m') :=
  callR_of h
theorem callR_pan {f : FuncId} {as : List EV} {m m' : Mem} {v : EV} {p' : Po} (h : Comes T G f as m none ⟨.pan v, m', p'⟩) : callR T G (.func f []) as m = some (.pan v, m') :=
  callR_of (r := ⟨.pan v, m', p'⟩) (by rw [List.append_nil]; exact h)
theorem callR_inv {fv : EV} {as : List EV} {m : Mem} {r : Res × Mem} (h : callR T G fv as m = some r) : ∃ f cap p', fv = .func f cap ∧ Comes T G f (as ++ cap) m none ⟨r.1, r.2, p'⟩ := by
  unfold callR at h
  split at h
  · rename_i f cap
    by_cases hx : ∃ r : CR, Comes T G f (as ++ cap) m none r
    · rw [dif_pos hx] at h
      cases h
      exact ⟨f, cap, hx.choose.p, rfl, hx.choose_spec⟩
    · rw [dif_neg hx] at h
      cases h
  · cases h

/-! ### What goes on behind an operation -/
def kO (T : FuncId → Option EFunc) (G : Globs) (dst : Option Nat) (os : List EOper) (Q : Post) (A : Fr) (d : Dl) (p : Po) (v : EV) (m : Mem) : Prop := wpOps T G os Q ⟨setO A dst v, m, d, p⟩
def kP (Q : Post) (A : Fr) (d : Dl) (p : Po) (v : EV) (m : Mem) : Prop := Q (.pan v) ⟨A, m, d, p⟩
def kD (T : FuncId → Option EFunc) (G : Globs) (n0 : Nat) (dst : Option Nat) (os : List EOper) (fl : List Bool) (Q : St → Prop) (A : Fr) (d : Dl) (p : Po) (v : EV) (m : Mem) : Prop := wpD T G n0 os fl Q ⟨setO A dst v, m, d, p⟩
def kF (v : EV) (m : Mem) : Prop := False

def bindE (K : EV → Mem → Prop) (r : Option (EV × Mem)) : Prop := match r with
  | some (v, m) => K v m
  | none => False
def bindR (K KP : EV → Mem → Prop) (r : Option (Res × Mem)) : Prop := match r with
  | some (.val v, m) => K v m
  | some (.pan v, m) => KP v m
  | none => False
/-- Under a guard. -/
def gmE (K : EV → Mem → Prop) (c : Bool) (m : Mem) (r : Option (EV × Mem)) : Prop := (c = true → bindE K r) ∧ (c = false → K undefE m)
def gmR (K KP : EV → Mem → Prop) (c : Bool) (m : Mem) (r : Option (Res × Mem)) : Prop := (c = true → bindR K KP r) ∧ (c = false → K undefE m)
@[congr] theorem gmE_congr {K : EV → Mem → Prop} {c c' : Bool} {m : Mem} {r r' : Option (EV × Mem)} (hc : c = c') (hr : c' = true → r = r') : gmE K c m r = gmE K c' m r' := by
  subst hc
  unfold gmE
  cases c with
  | true => rw [hr rfl]
  | false => simp
@[congr] theorem gmR_congr {K KP : EV → Mem → Prop} {c c' : Bool} {m : Mem} {r r' : Option (Res × Mem)} (hc : c = c') (hr : c' = true → r = r') : gmR K KP c m r = gmR K KP c' m r' := by
  subst hc
  unfold gmR
  cases c with
  | true => rw [hr rfl]
  | false => simp
theorem gmE_merge {K : EV → Mem → Prop} {c : Bool} {m : Mem} {v : EV} : gmE K c m (some (v, m)) = K (if c = true then v else undefE) m := by
  cases c <;> simp [gmE, bindE]
theorem gmR_merge {K KP : EV → Mem → Prop} {c : Bool} {m : Mem} {v : EV} : gmR K KP c m (some (.val v, m)) = K (if c = true then v else undefE) m := by
  cases c <;> simp [gmR, bindR]
theorem gmE_true {K : EV → Mem → Prop} {m : Mem} {r : Option (EV × Mem)} : gmE K true m r = bindE K r := by simp [gmE]
theorem gmE_false {K : EV → Mem → Prop} {m : Mem} {r : Option (EV × Mem)} : gmE K false m r = K undefE m := by simp [gmE]
theorem gmR_true {K KP : EV → Mem → Prop} {m : Mem} {r : Option (Res × Mem)} : gmR K KP true m r = bindR K KP r := by simp [gmR]
theorem gmR_false {K KP : EV → Mem → Prop} {m : Mem} {r : Option (Res × Mem)} : gmR K KP false m r = K undefE m := by simp [gmR]

/-! ### Regions in the text's order -/
theorem ops_nil {Q : Post} {s : St} : wpOps T G [] Q s = Q .normal s := by
  refine propext ⟨fun h => ?_, wpOps_nil⟩
  unfold wpOps at h
  obtain ⟨k, ex, s', he, hQ⟩ := h
  simp only [evOps, Option.some.injEq, Prod.mk.injEq] at he
  obtain ⟨rfl, rfl⟩ := he
  exact hQ
theorem ops_quiet {o : EOp} (hq : o.quiet = true) {dst : Option Nat} {os : List EOper} {Q : Post} {A : Fr} {m : Mem} {d : Dl} {p : Po} :
    wpOps T G (⟨dst, o, none⟩ :: os) Q ⟨A, m, d, p⟩ = bindE (kO T G dst os Q A d p) (evVal G o A m) := by
  refine propext ⟨fun h => ?_, fun h => ?_⟩
  · unfold wpOps at h
    obtain ⟨k, ex, s', he, hQ⟩ := h
    simp only [evOps, wantedE, if_true, evOp_quiet hq] at he
    cases hv : evVal G o A m with
    | none => rw [hv] at he; cases he
    | some r =>
      rw [hv] at he
      simp only [bindE, kO]
      unfold wpOps
      refine ⟨k, ex, s', ?_, hQ⟩
      cases dst <;> exact he
  · cases hv : evVal G o A m with
    | none => rw [hv] at h; exact h.elim
    | some r =>
      rw [hv] at h
      refine wpOps_step hq ?_
      simp only [stepE, hv]
      cases dst <;> exact h
theorem ops_call {f : Opd} {args : List Opd} {dst : Option Nat} {os : List EOper} {Q : Post} {A : Fr} {m : Mem} {d : Dl} {p : Po} :
    wpOps T G (⟨dst, .call f args, none⟩ :: os) Q ⟨A, m, d, p⟩ = bindR (kO T G dst os Q A d p) (kP Q A d p) (callR T G (opd A f) (args.map (opd A)) m) := by
  refine propext ⟨fun h => ?_, fun h => ?_⟩
  · unfold wpOps at h
    obtain ⟨k, ex, s', he, hQ⟩ := h
    simp only [evOps, wantedE, if_true, evOp] at he
    cases hf : opd A f with
    | func fid cap =>
      rw [hf] at he
      simp only at he
      cases hc : evFun T G k fid (args.map (opd A) ++ cap) m none with
      | none => rw [hc] at he; cases he
      | some r =>
        rw [hc] at he
        rw [callR_of ⟨k, hc⟩]
        obtain ⟨res, m', p'⟩ := r
        cases res with
        | val v =>
          simp only [bindR, kO]
          unfold wpOps
          refine ⟨k, ex, s', ?_, hQ⟩
          cases dst <;> exact he
        | pan v =>
          simp only [Option.some.injEq, Prod.mk.injEq] at he
          obtain ⟨rfl, rfl⟩ := he
          exact hQ
    | _ => rw [hf] at he; cases he
  · cases hc : callR T G (opd A f) (args.map (opd A)) m with
    | none => rw [hc] at h; exact h.elim
    | some r =>
      rw [hc] at h
      obtain ⟨fid, cap, p', hf, hr⟩ := callR_inv hc
      obtain ⟨res, m'⟩ := r
      cases res with
      | val v =>
        refine wpOps_call hf hr ?_
        cases dst <;> exact h
      | pan v =>
        obtain ⟨k, e⟩ := hr
        unfold wpOps
        refine ⟨k, .pan v, ⟨A, m', d, p⟩, ?_, h⟩
        simp only [evOps, wantedE, if_true, evOp, hf, e]
theorem ops_guard {o : EOp} {dst : Option Nat} {g : Nat × Bool} {os : List EOper} {Q : Post} {A : Fr} {m : Mem} {d : Dl} {p : Po} :
    wpOps T G (⟨dst, o, some g⟩ :: os) Q ⟨A, m, d, p⟩ = ((wantedE A (some g) = true → wpOps T G (⟨dst, o, none⟩ :: os) Q ⟨A, m, d, p⟩) ∧ (wantedE A (some g) = false → kO T G dst os Q A d p undefE m)) := by
  refine propext ⟨fun h => ⟨fun hg => ?_, fun hg => ?_⟩, fun h => ?_⟩
  · unfold wpOps at h ⊢
    obtain ⟨k, ex, s', he, hQ⟩ := h
    refine ⟨k, ex, s', ?_, hQ⟩
    rw [evOps, if_pos hg] at he
    rw [evOps, if_pos (show wantedE A none = true from rfl)]
    exact he
  · unfold kO
    unfold wpOps at h ⊢
    simp only [evOps, hg, Bool.false_eq_true, if_false] at h
    cases dst <;> exact h
  · cases hg : wantedE A (some g) with
    | true => exact wpOps_on hg (h.1 hg)
    | false =>
      refine wpOps_off hg ?_
      have := h.2 hg
      cases dst <;> exact this
theorem ops_gquiet {o : EOp} (hq : o.quiet = true) {dst : Option Nat} {g : Nat × Bool} {os : List EOper} {Q : Post} {A : Fr} {m : Mem} {d : Dl} {p : Po} :
    wpOps T G (⟨dst, o, some g⟩ :: os) Q ⟨A, m, d, p⟩ = gmE (kO T G dst os Q A d p) (wantedE A (some g)) m (evVal G o A m) := by
  rw [ops_guard, ops_quiet hq]; rfl
theorem ops_gcall {f : Opd} {args : List Opd} {dst : Option Nat} {g : Nat × Bool} {os : List EOper} {Q : Post} {A : Fr} {m : Mem} {d : Dl} {p : Po} :
    wpOps T G (⟨dst, .call f args, some g⟩ :: os) Q ⟨A, m, d, p⟩ = gmR (kO T G dst os Q A d p) (kP Q A d p) (wantedE A (some g)) m (callR T G (opd A f) (args.map (opd A)) m) := by
  rw [ops_guard, ops_call]; rfl
/-- A panic's value. -/
def panE (Q : Post) (A : Fr) (m : Mem) (d : Dl) (p : Po) (v : EV) : Prop := match v with
  | .iface t v => Q (.pan (.iface t v)) ⟨A, m, d, p⟩
  | _ => False
theorem ops_panic {x : Opd} {dst : Option Nat} {os : List EOper} {Q : Post} {A : Fr} {m : Mem} {d : Dl} {p : Po} :
    wpOps T G (⟨dst, .panic x, none⟩ :: os) Q ⟨A, m, d, p⟩ = panE Q A m d p (opd A x) := by
  refine propext ⟨fun h => ?_, fun h => ?_⟩
  · unfold wpOps at h
    obtain ⟨k, ex, s', he, hQ⟩ := h
    simp only [evOps, wantedE, if_true, evOp] at he
    cases hx : opd A x with
    | iface t v =>
      rw [hx] at he
      simp only [Option.some.injEq, Prod.mk.injEq] at he
      obtain ⟨rfl, rfl⟩ := he
      exact hQ
    | _ => rw [hx] at he; cases he
  · cases hx : opd A x with
    | iface t v =>
      rw [hx] at h
      unfold wpOps
      exact ⟨0, .pan (.iface t v), ⟨A, m, d, p⟩, by simp only [evOps, wantedE, if_true, evOp, hx], h⟩
    | _ => rw [hx] at h; exact h.elim
/-- A deferred call. -/
def defE (T : FuncId → Option EFunc) (G : Globs) (dst : Option Nat) (os : List EOper) (Q : Post) (A : Fr) (m : Mem) (d : Dl) (p : Po) (as : List EV) (v : EV) : Prop := match v with
  | .func f cap => wpOps T G os Q ⟨setO A dst undefE, m, (f, as ++ cap) :: d, p⟩
  | _ => False
theorem ops_defer {f : Opd} {args : List Opd} {dst : Option Nat} {os : List EOper} {Q : Post} {A : Fr} {m : Mem} {d : Dl} {p : Po} :
    wpOps T G (⟨dst, .defer f args, none⟩ :: os) Q ⟨A, m, d, p⟩ = defE T G dst os Q A m d p (args.map (opd A)) (opd A f) := by
  refine propext ⟨fun h => ?_, fun h => ?_⟩
  · unfold wpOps at h
    obtain ⟨k, ex, s', he, hQ⟩ := h
    simp only [evOps, wantedE, if_true, evOp] at he
    cases hx : opd A f with
    | func fid cap =>
      rw [hx] at he
      simp only [defE]
      unfold wpOps
      refine ⟨k, ex, s', ?_, hQ⟩
      cases dst <;> exact he
    | _ => rw [hx] at he; cases he
  · cases hx : opd A f with
    | func fid cap =>
      rw [hx] at h
      simp only [defE] at h
      unfold wpOps at h ⊢
      obtain ⟨k, ex, s', he, hQ⟩ := h
      refine ⟨k, ex, s', ?_, hQ⟩
      simp only [evOps, wantedE, if_true, evOp, hx]
      cases dst <;> exact he
    | _ => rw [hx] at h; exact h.elim
def recE (T : FuncId → Option EFunc) (G : Globs) (dst : Option Nat) (os : List EOper) (Q : Post) (A : Fr) (m : Mem) (d : Dl) (p : Po) : Prop := match p with
  | some (some v) => wpOps T G os Q ⟨setO A dst v, m, d, some none⟩
  | some none => wpOps T G os Q ⟨setO A dst .nilIface, m, d, p⟩
  | none => False
theorem ops_recover {dst : Option Nat} {os : List EOper} {Q : Post} {A : Fr} {m : Mem} {d : Dl} {p : Po} :
    wpOps T G (⟨dst, .recover, none⟩ :: os) Q ⟨A, m, d, p⟩ = recE T G dst os Q A m d p := by
  refine propext ⟨fun h => ?_, fun h => ?_⟩
  · unfold wpOps at h
    obtain ⟨k, ex, s', he, hQ⟩ := h
    simp only [evOps, wantedE, if_true, evOp] at he
    match p, he with
    | some (some v), he =>
      simp only [recE]
      unfold wpOps
      exact ⟨k, ex, s', by cases dst <;> exact he, hQ⟩
    | some none, he =>
      simp only [recE]
      unfold wpOps
      exact ⟨k, ex, s', by cases dst <;> exact he, hQ⟩
    | none, he => cases he
  · match p, h with
    | some (some v), h =>
      simp only [recE] at h
      unfold wpOps at h ⊢
      obtain ⟨k, ex, s', he, hQ⟩ := h
      exact ⟨k, ex, s', by simp only [evOps, wantedE, if_true, evOp]; cases dst <;> exact he, hQ⟩
    | some none, h =>
      simp only [recE] at h
      unfold wpOps at h ⊢
      obtain ⟨k, ex, s', he, hQ⟩ := h
      exact ⟨k, ex, s', by simp only [evOps, wantedE, if_true, evOp]; cases dst <;> exact he, hQ⟩
    | none, h => exact h.elim

/-! ### Regions whose order is drawn -/
/-- What floats reads old memory alone. -/
def floatV (n0 : Nat) (G : Globs) (o : EOp) (A : Fr) (m : Mem) : Option (EV × Mem) := if floatOk n0 A o = true then (evVal G o A m).map (fun r => (r.1, m)) else none
theorem wpD_eqnil {n0 : Nat} {fl : List Bool} {Q : St → Prop} {s : St} : wpD T G n0 [] fl Q s = Q s := by
  refine propext ⟨fun h => ?_, wpD_nil⟩
  unfold wpD at h
  obtain ⟨k, s', he, hQ⟩ := h
  simp only [evD, Option.some.injEq] at he
  subst he
  exact hQ
theorem wpD_eqfloat {n0 : Nat} {o : EOp} {dst : Option Nat} {os : List EOper} {fl : List Bool} {Q : St → Prop} {A : Fr} {m : Mem} {d : Dl} {p : Po} :
    wpD T G n0 (⟨dst, o, none⟩ :: os) (true :: fl) Q ⟨A, m, d, p⟩ = bindE (kD T G n0 dst os fl Q A d p) (floatV n0 G o A m) := by
  refine propext ⟨fun h => ?_, fun h => ?_⟩
  · unfold wpD at h
    obtain ⟨k, s', he, hQ⟩ := h
    simp only [evD, stepD, wantedE, if_true] at he
    unfold floatV
    by_cases hf : floatOk n0 A o = true
    · rw [if_pos hf] at he ⊢
      cases hv : evVal G o A m with
      | none => rw [hv] at he; cases he
      | some r =>
        rw [hv] at he
        simp only [Option.map_some, bindE, kD]
        unfold wpD
        refine ⟨k, s', ?_, hQ⟩
        cases dst <;> exact he
    · rw [if_neg hf] at he
      cases he
  · unfold floatV at h
    by_cases hf : floatOk n0 A o = true
    · rw [if_pos hf] at h
      refine wpD_float hf ?_
      unfold stepE
      cases hv : evVal G o A m with
      | none => rw [hv] at h; exact h.elim
      | some r => rw [hv] at h; cases dst <;> exact h
    · rw [if_neg hf] at h
      exact h.elim
theorem wpD_eqquiet {n0 : Nat} {o : EOp} (hq : o.quiet = true) {dst : Option Nat} {os : List EOper} {fl : List Bool} {Q : St → Prop} {A : Fr} {m : Mem} {d : Dl} {p : Po} :
    wpD T G n0 (⟨dst, o, none⟩ :: os) (false :: fl) Q ⟨A, m, d, p⟩ = bindE (kD T G n0 dst os fl Q A d p) (evVal G o A m) := by
  refine propext ⟨fun h => ?_, fun h => ?_⟩
  · unfold wpD at h
    obtain ⟨k, s', he, hQ⟩ := h
    simp only [evD, stepD, wantedE, if_true, Bool.false_eq_true, if_false, evOp_quiet hq] at he
    cases hv : evVal G o A m with
    | none => rw [hv] at he; cases he
    | some r =>
      rw [hv] at he
      simp only [bindE, kD]
      unfold wpD
      refine ⟨k, s', ?_, hQ⟩
      cases dst <;> exact he
  · refine wpD_step hq ?_
    unfold stepE
    cases hv : evVal G o A m with
    | none => rw [hv] at h; exact h.elim
    | some r => rw [hv] at h; cases dst <;> exact h
theorem wpD_eqcall {n0 : Nat} {f : Opd} {args : List Opd} {dst : Option Nat} {os : List EOper} {fl : List Bool} {Q : St → Prop} {A : Fr} {m : Mem} {d : Dl} {p : Po} :
    wpD T G n0 (⟨dst, .call f args, none⟩ :: os) (false :: fl) Q ⟨A, m, d, p⟩ = bindR (kD T G n0 dst os fl Q A d p) kF (callR T G (opd A f) (args.map (opd A)) m) := by
  refine propext ⟨fun h => ?_, fun h => ?_⟩
  · unfold wpD at h
    obtain ⟨k, s', he, hQ⟩ := h
    simp only [evD, stepD, wantedE, if_true, Bool.false_eq_true, if_false, evOp] at he
    cases hf : opd A f with
    | func fid cap =>
      rw [hf] at he
      simp only at he
      cases hc : evFun T G k fid (args.map (opd A) ++ cap) m none with
      | none => rw [hc] at he; cases he
      | some r =>
        rw [hc] at he
        rw [callR_of ⟨k, hc⟩]
        obtain ⟨res, m', p'⟩ := r
        cases res with
        | val v =>
          simp only [bindR, kD]
          unfold wpD
          refine ⟨k, s', ?_, hQ⟩
          cases dst <;> exact he
        | pan v => cases he
    | _ => rw [hf] at he; cases he
  · cases hc : callR T G (opd A f) (args.map (opd A)) m with
    | none => rw [hc] at h; exact h.elim
    | some r =>
      rw [hc] at h
      obtain ⟨fid, cap, p', hf, hr⟩ := callR_inv hc
      obtain ⟨res, m'⟩ := r
      cases res with
      | val v =>
        refine wpD_call hf hr ?_
        cases dst <;> exact h
      | pan v => exact h.elim
theorem wpD_eqguard {n0 : Nat} {o : EOp} {dst : Option Nat} {g : Nat × Bool} {os : List EOper} {f : Bool} {fl : List Bool} {Q : St → Prop} {A : Fr} {m : Mem} {d : Dl} {p : Po} :
    wpD T G n0 (⟨dst, o, some g⟩ :: os) (f :: fl) Q ⟨A, m, d, p⟩ = ((wantedE A (some g) = true → wpD T G n0 (⟨dst, o, none⟩ :: os) (f :: fl) Q ⟨A, m, d, p⟩) ∧ (wantedE A (some g) = false → kD T G n0 dst os fl Q A d p undefE m)) := by
  refine propext ⟨fun h => ⟨fun hg => ?_, fun hg => ?_⟩, fun h => ?_⟩
  · unfold wpD at h ⊢
    obtain ⟨k, s', he, hQ⟩ := h
    refine ⟨k, s', ?_, hQ⟩
    rw [evD, stepD, if_pos hg] at he
    rw [evD, stepD, if_pos (show wantedE A none = true from rfl)]
    exact he
  · unfold kD
    unfold wpD at h ⊢
    simp only [evD, stepD, hg, Bool.false_eq_true, if_false] at h
    cases dst <;> exact h
  · cases hg : wantedE A (some g) with
    | true => exact wpD_on hg (h.1 hg)
    | false =>
      refine wpD_off hg ?_
      have := h.2 hg
      cases dst <;> exact this
theorem wpD_eqgfloat {n0 : Nat} {o : EOp} {dst : Option Nat} {g : Nat × Bool} {os : List EOper} {fl : List Bool} {Q : St → Prop} {A : Fr} {m : Mem} {d : Dl} {p : Po} :
    wpD T G n0 (⟨dst, o, some g⟩ :: os) (true :: fl) Q ⟨A, m, d, p⟩ = gmE (kD T G n0 dst os fl Q A d p) (wantedE A (some g)) m (floatV n0 G o A m) := by
  rw [wpD_eqguard, wpD_eqfloat]; rfl
theorem wpD_eqgquiet {n0 : Nat} {o : EOp} (hq : o.quiet = true) {dst : Option Nat} {g : Nat × Bool} {os : List EOper} {fl : List Bool} {Q : St → Prop} {A : Fr} {m : Mem} {d : Dl} {p : Po} :
    wpD T G n0 (⟨dst, o, some g⟩ :: os) (false :: fl) Q ⟨A, m, d, p⟩ = gmE (kD T G n0 dst os fl Q A d p) (wantedE A (some g)) m (evVal G o A m) := by
  rw [wpD_eqguard, wpD_eqquiet hq]; rfl
theorem wpD_eqgcall {n0 : Nat} {f : Opd} {args : List Opd} {dst : Option Nat} {g : Nat × Bool} {os : List EOper} {fl : List Bool} {Q : St → Prop} {A : Fr} {m : Mem} {d : Dl} {p : Po} :
    wpD T G n0 (⟨dst, .call f args, some g⟩ :: os) (false :: fl) Q ⟨A, m, d, p⟩ = gmR (kD T G n0 dst os fl Q A d p) kF (wantedE A (some g)) m (callR T G (opd A f) (args.map (opd A)) m) := by
  rw [wpD_eqguard, wpD_eqcall]; rfl

/-- A drawn region's end, and its cut. -/
def endD (Q : Post) (m : Mem) (s : St) : Prop := Q .normal { s with m := ⟨s.m.bl, lowD m s.m⟩ }
def cutD (T : FuncId → Option EFunc) (G : Globs) (m : Mem) (os : List EOper) (fl : List Bool) (Q : Post) (s : St) : Prop := m.bl.length ≤ s.m.low ∧ wpD T G m.bl.length os fl (endD Q m) s
theorem endD_same {Q : Post} {A : Fr} {m : Mem} {d : Dl} {p : Po} : endD Q m ⟨A, ⟨m.bl, m.bl.length⟩, d, p⟩ = Q .normal ⟨A, m, d, p⟩ := by
  have e : lowD m ⟨m.bl, m.bl.length⟩ = m.low := if_pos (Nat.le_refl _)
  simp only [endD, e]
theorem endD_wrote {Q : Post} {A : Fr} {m M : Mem} {d : Dl} {p : Po} (h : M.low < m.bl.length) : endD Q m ⟨A, M, d, p⟩ = Q .normal ⟨A, ⟨M.bl, min m.low M.low⟩, d, p⟩ := by
  have e : lowD m M = min m.low M.low := if_neg (by omega)
  simp only [endD, e]
theorem endD_new {Q : Post} {A : Fr} {m M : Mem} {d : Dl} {p : Po} (h : m.bl.length ≤ M.low) : endD Q m ⟨A, M, d, p⟩ = Q .normal ⟨A, ⟨M.bl, m.low⟩, d, p⟩ := by
  have e : lowD m M = m.low := if_pos h
  simp only [endD, e]
theorem cutD_new {Q : Post} {A : Fr} {m M : Mem} {os : List EOper} {fl : List Bool} {d : Dl} {p : Po} (h : m.bl.length ≤ M.low) : cutD T G m os fl Q ⟨A, M, d, p⟩ = wpD T G m.bl.length os fl (endD Q m) ⟨A, M, d, p⟩ := by
  simp only [cutD, h, true_and]
theorem cutD_same {Q : Post} {A : Fr} {m : Mem} {os : List EOper} {fl : List Bool} {d : Dl} {p : Po} : cutD T G m os fl Q ⟨A, ⟨m.bl, m.bl.length⟩, d, p⟩ = wpD T G m.bl.length os fl (endD Q m) ⟨A, ⟨m.bl, m.bl.length⟩, d, p⟩ := by
  simp only [cutD, Nat.le_refl, true_and]

/-! ### Late blocks -/
def cutL (T : FuncId → Option EFunc) (G : Globs) (m : Mem) (bs : List Blk) (os : List EOper) (fl : List Bool) (Q : Post) (s : St) : Prop := cutLQ T G m bs os fl (endD Q m) s
def wpL (T : FuncId → Option EFunc) (G : Globs) (bs : Option (List Blk)) (os : List EOper) (fl : List Bool) (cut : Nat) (Q : Post) (A : Fr) (m : Mem) (d : Dl) : Prop :=
  ∃ b, bs = some b ∧ wpD T G m.bl.length (os.take cut) (fl.take cut) (cutL T G m b (os.drop cut) (fl.drop cut) Q) ⟨A, deadM m b.length, d, none⟩
theorem late_mk {bs : List Blk} {os : List EOper} {fl : List Bool} {cut : Nat} {Q : Post} {A : Fr} {m : Mem} {d : Dl} (h : ∀ M, M = deadM m bs.length → wpD T G m.bl.length (os.take cut) (fl.take cut) (cutL T G m bs (os.drop cut) (fl.drop cut) Q) ⟨A, M, d, none⟩) : wpL T G (some bs) os fl cut Q A m d :=
  ⟨bs, rfl, h _ rfl⟩
theorem cutL_mk {m M : Mem} {bs : List Blk} {os : List EOper} {fl : List Bool} {Q : Post} {A : Fr} {d : Dl} {p : Po} (hM : M = deadM m bs.length) (h : ∀ M1, M1 = ⟨m.bl ++ bs, m.bl.length⟩ → wpD T G m.bl.length os fl (endD Q m) ⟨A, M1, d, p⟩) : cutL T G m bs os fl Q ⟨A, M, d, p⟩ := cutLQ_mk hM h
theorem cutL_any {m M : Mem} {bs post : List Blk} {os : List EOper} {fl : List Bool} {Q : Post} {A : Fr} {d : Dl} {p : Po} (hM : M.bl = m.bl ++ List.replicate bs.length (.dead 0) ++ post) (hl : m.bl.length + bs.length ≤ M.low) (h : ∀ M1 : Mem, M1.bl = m.bl ++ bs ++ post → m.bl.length ≤ M1.low → wpD T G m.bl.length os fl (endD Q m) ⟨A, M1, d, p⟩) : cutL T G m bs os fl Q ⟨A, M, d, p⟩ := cutLQ_any hM hl h

/-! ### Code -/
def condE (P R : Prop) (v : EV) : Prop := ∃ t, v = .bool t ∧ (t = true → P) ∧ (t = false → R)
theorem condE_true {P R : Prop} : condE P R (.bool true) = P := by simp [condE]
theorem condE_false {P R : Prop} : condE P R (.bool false) = R := by simp [condE]

/-- What suffices for code to come to something. -/
def wp2 (T : FuncId → Option EFunc) (G : Globs) : ECode → Post → St → Prop
  | .skip, Q, s => Q .normal s
  | .reg ops, Q, s => wpOps T G ops Q s
  | .regD ops fl cut, Q, s => s.p = none ∧ wpD T G s.m.bl.length (ops.take cut) (fl.take cut) (cutD T G s.m (ops.drop cut) (fl.drop cut) Q) { s with m := ⟨s.m.bl, s.m.bl.length⟩ }
  | .regL js ops fl cut, Q, s => s.p = none ∧ wpL T G (latesR 0 js ops) (subR s.m.bl.length 0 0 js ops) fl cut Q s.A s.m s.d
  | .seq a b, Q, s => wp2 T G a (fun ex s => match ex with
    | .normal => wp2 T G b Q s
    | e => Q e s) s
  | .cond c a b, Q, s => ∃ t, opd s.A c = .bool t ∧ (t = true → wp2 T G a Q s) ∧ (t = false → wp2 T G b Q s)
  | .block id c, Q, s => wp2 T G c (blockE id Q) s
  | .loop c, Q, s => wpC T G (.loop c) Q s
  | .exit id, Q, s => Q (.exit id) s
  | .ret, Q, s => Q .ret s
def then2 (T : FuncId → Option EFunc) (G : Globs) (b : ECode) (Q : Post) (ex : Ex) (s : St) : Prop := match ex with
  | .normal => wp2 T G b Q s
  | e => Q e s
/-- The branches of a choice. -/
def br2 (T : FuncId → Option EFunc) (G : Globs) (a b : ECode) (Q : Post) (A : Fr) (m : Mem) (d : Dl) (p : Po) (v : EV) : Prop := ∃ t, v = .bool t ∧ (t = true → wp2 T G a Q ⟨A, m, d, p⟩) ∧ (t = false → wp2 T G b Q ⟨A, m, d, p⟩)
theorem wp2_sound : ∀ {c : ECode} {Q : Post} {s : St}, wp2 T G c Q s → wpC T G c Q s := by
  intro c
  induction c with
  | skip => intro Q s h; exact wpC_skip h
  | reg ops => intro Q s h; exact wpC_reg h
  | regD ops fl cut =>
    intro Q s h
    obtain ⟨A, m, d, p⟩ := s
    obtain ⟨hp, h⟩ := h
    cases hp
    exact wpC_regD2 h
  | regL js ops fl cut =>
    intro Q s h
    obtain ⟨A, m, d, p⟩ := s
    obtain ⟨hp, bs, hb, h⟩ := h
    cases hp
    exact wpC_regL hb h
  | seq a b iha ihb =>
    intro Q s h
    refine wpC_seq (wpC_mono (iha h) fun ex s hQ => ?_)
    cases ex with
    | normal => exact ihb hQ
    | exit i => exact hQ
    | ret => exact hQ
    | pan v => exact hQ
  | cond c a b iha ihb =>
    intro Q s h
    obtain ⟨t, hc, ha, hb⟩ := h
    exact wpC_cond hc (fun ht => iha (ha ht)) (fun ht => ihb (hb ht))
  | block id a iha => intro Q s h; exact wpC_block (iha h)
  | loop a iha => intro Q s h; exact h
  | exit id => intro Q s h; exact wpC_exit h
  | ret => intro Q s h; exact wpC_ret h
theorem br2_true {a b : ECode} {Q : Post} {A : Fr} {m : Mem} {d : Dl} {p : Po} : br2 T G a b Q A m d p (.bool true) = wp2 T G a Q ⟨A, m, d, p⟩ := by simp [br2]
theorem br2_false {a b : ECode} {Q : Post} {A : Fr} {m : Mem} {d : Dl} {p : Po} : br2 T G a b Q A m d p (.bool false) = wp2 T G b Q ⟨A, m, d, p⟩ := by simp [br2]
theorem br2_mk {a b : ECode} {Q : Post} {A : Fr} {m : Mem} {d : Dl} {p : Po} {t : Bool} (ha : t = true → wp2 T G a Q ⟨A, m, d, p⟩) (hb : t = false → wp2 T G b Q ⟨A, m, d, p⟩) : br2 T G a b Q A m d p (.bool t) := ⟨t, rfl, ha, hb⟩
theorem br2_dec {a b : ECode} {Q : Post} {A : Fr} {m : Mem} {d : Dl} {p : Po} {P : Prop} [Decidable P] (ha : P → wp2 T G a Q ⟨A, m, d, p⟩) (hb : ¬ P → wp2 T G b Q ⟨A, m, d, p⟩) : br2 T G a b Q A m d p (.bool (decide P)) :=
  ⟨_, rfl, fun h => ha (of_decide_eq_true h), fun h => hb (of_decide_eq_false h)⟩
/-- A loop, by what holds ahead of each round; J is its name. -/
theorem loop2 {c : ECode} {Q : Post} {s : St} (I : Nat → St → Prop) (n : Nat) (h0 : I n s) (h : ∀ J : Nat → St → Prop, (∀ n s, I n s → J n s) → ∀ n s, I n s → wp2 T G c (againE J n Q) s) : wp2 T G (.loop c) Q s :=
  wpC_loop I (fun n s hI => wp2_sound (h I (fun _ _ h => h) n s hI)) n s h0
/-- The next round. -/
theorem again2 {J I : Nat → St → Prop} (hJ : ∀ n s, I n s → J n s) {n : Nat} {Q : Post} {s : St} (n' : Nat) (hn : n' < n) (h : I n' s) : againE J n Q .normal s := ⟨n', hn, hJ _ _ h⟩

/-! ### A function's end -/
def doneE (G : Globs) (res : List ERes) (v : EV) (n0 : Nat) : Post
  | .normal, s | .ret, s => s.d = [] ∧ s.p = none ∧ (resultsE G s.A s.m res).map oneE = some v ∧ n0 ≤ s.m.low ∧ noref n0 v = true
  | _, _ => False
theorem comes2 {f : FuncId} {args : List EV} {m : Mem} {v : EV} {ef : EFunc} (hT : T f = some ef) (hp : ef.prim = none)
    (h : ∀ M, Grown m M → M.bl.length = m.bl.length → M.low = m.bl.length → wp2 T G ef.body (doneE G ef.res v m.bl.length) ⟨argsE args, M, [], none⟩) : Comes T G f args m none ⟨.val v, m, none⟩ := by
  refine comes_ofM hT hp fun M hg hl hw => wpC_mono (wp2_sound (h M hg hl hw)) fun ex s hQ => ?_
  have fin : s.d = [] ∧ s.p = none ∧ (resultsE G s.A s.m ef.res).map oneE = some v ∧ m.bl.length ≤ s.m.low ∧ noref m.bl.length v = true → s.d = [] ∧ ∃ vs, resultsE G s.A s.m ef.res = some vs ∧ (⟨.val v, m, none⟩ : CR) = ⟨.val (oneE vs), leaveE m (oneE vs) s.m, s.p⟩ := by
    rintro ⟨h1, h2, h3, h4, h5⟩
    cases hr : resultsE G s.A s.m ef.res with
    | none => rw [hr] at h3; cases h3
    | some vs =>
      rw [hr] at h3
      simp only [Option.map_some, Option.some.injEq] at h3
      refine ⟨h1, vs, rfl, ?_⟩
      rw [h3, h2, leave_keep h4 h5]
  cases ex with
  | normal => exact fin hQ
  | ret => exact fin hQ
  | exit i => exact hQ.elim
  | pan v => exact hQ.elim
/-- As postE, where what it comes to is found on the way. -/
def postX (G : Globs) (res : List ERes) (m : Mem) (Φ : CR → Prop) (ex : Ex) (s : St) : Prop := ∃ r, postE G res m r ex s ∧ Φ r
theorem comes2P {f : FuncId} {args : List EV} {m : Mem} {p : Po} {Φ : CR → Prop} {ef : EFunc} (hT : T f = some ef) (hp : ef.prim = none)
    (h : ∀ M, Grown m M → M.bl.length = m.bl.length → M.low = m.bl.length → wp2 T G ef.body (postX G ef.res m Φ) ⟨argsE args, M, [], p⟩) : ∃ r, Comes T G f args m p r ∧ Φ r :=
  comes_ofP hT hp fun M hg hl hw => wp2_sound (h M hg hl hw)
theorem comes2R {f : FuncId} {args : List EV} {m : Mem} {p : Po} {r : CR} {ef : EFunc} (hT : T f = some ef) (hp : ef.prim = none)
    (h : ∀ M, Grown m M → M.bl.length = m.bl.length → M.low = m.bl.length → wp2 T G ef.body (postE G ef.res m r) ⟨argsE args, M, [], p⟩) : Comes T G f args m p r :=
  comes_ofM hT hp fun M hg hl hw => wp2_sound (h M hg hl hw)

/-! ### Values -/
def okE (m : Mem) (r : Option EV) : Option (EV × Mem) := r.map (fun v => (v, m))
def pickE (c a b : EV) : Option EV := match c with
  | .bool t => some (if t = true then a else b)
  | _ => none
def ldE (G : Globs) (m : Mem) (n : Option Nat) (x : EV) : Option EV := match x with
  | .ptr (some a) => match n with
    | none => m.get G a
    | some n => (m.getN G a n).map .agg
  | _ => none
def ldF (n0 : Nat) (G : Globs) (m : Mem) (n : Option Nat) (x : EV) : Option EV := match x with
  | .ptr (some a) => if oldAd n0 a = true then ldE G m n x else none
  | _ => none
def stE (m : Mem) (n : Nat) (a x : EV) : Option (EV × Mem) := match a with
  | .ptr (some a) => match x with
    | .agg cs => if cs.length = n then (m.putN a cs).map fun m => (undefE, m) else none
    | .tuple _ => none
    | .iter _ => none
    | v => if n = 1 then (m.put1 a v).map fun m => (undefE, m) else none
  | _ => none
def nchE (x : EV) : Option EV := match x with
  | .ptr (some a) => some (.ptr (some a))
  | .func f c => some (.func f c)
  | _ => none
def isnE (neg : Bool) (r : Option Bool) : Option EV := r.map fun b => .bool (if neg then !b else b)
def toIntE (k : IntKind) (x : EV) : Option EV := match x with
  | .int _ n => some (.int k (k.wrap n))
  | _ => none
def sameE (x : EV) : Option EV := match x with
  | .str t => some (.str t)
  | _ => none
def tosE (G : Globs) (m : Mem) (x : EV) : Option EV := match x with
  | .slice none _ _ _ => some (.str [])
  | .slice (some a) n _ _ => ((m.getN G a n).bind strE).map fun t => .str t
  | _ => none
def tosF (n0 : Nat) (G : Globs) (m : Mem) (x : EV) : Option EV := match x with
  | .slice none _ _ _ => some (.str [])
  | .slice (some a) n _ _ => if oldAd n0 a = true then ((m.getN G a n).bind strE).map fun t => .str t else none
  | _ => none
def optV (A : Fr) (x : Option Opd) : Option EV := x.map (opd A)
def bndE (d : Nat) (x : Option EV) : Option Nat := match x with
  | none => some d
  | some (.int _ n) => if 0 ≤ n then some n.toNat else none
  | some _ => none
theorem bnd_eq {A : Fr} {d : Nat} {x : Option Opd} : bound A d x = bndE d (optV A x) := by
  cases x with
  | none => rfl
  | some x =>
    simp only [bound, optV, Option.map_some]
    cases opd A x <;> rfl
def slsE (x : EV) (lo hi : Option EV) : Option EV := match x with
  | .str t => match bndE t.length hi with
    | some h => match bndE 0 lo with
      | some l => if l ≤ h ∧ h ≤ t.length then some (.str ((t.drop l).take (h - l))) else none
      | none => none
    | none => none
  | _ => none
def slE (esz : Nat) (x : EV) (lo hi : Option EV) : Option EV := match x with
  | .slice a len cap e => match bndE len hi with
    | some h => match bndE 0 lo with
      | some l => if l ≤ h ∧ h ≤ cap ∧ (e = esz ∨ a.isNone) then some (.slice (a.map (·.plus (l * esz))) (h - l) (cap - l) e) else none
      | none => none
    | none => none
  | _ => none
def faE (off : Nat) (x : EV) : Option EV := match x with
  | .ptr (some a) => some (.ptr (some (a.plus off)))
  | _ => none
def fldE (off : Nat) (n : Option Nat) (x : EV) : Option EV := match x with
  | .agg cs => partE cs off n
  | _ => none
def ixaE (len esz : Nat) (x i : EV) : Option EV := match x, i with
  | .ptr (some a), .int _ i => if 0 ≤ i ∧ i < len then some (.ptr (some (a.plus (i.toNat * esz)))) else none
  | _, _ => none
def ixbE (esz : Nat) (x i : EV) : Option EV := match x, i with
  | .slice (some a) len _ _, .int _ i => if 0 ≤ i ∧ i < len then some (.ptr (some (a.plus (i.toNat * esz)))) else none
  | _, _ => none
def ixcE (len esz : Nat) (n : Option Nat) (x i : EV) : Option EV := match x, i with
  | .agg cs, .int _ i => if 0 ≤ i ∧ i < len then partE cs (i.toNat * esz) n else none
  | _, _ => none
def ixsE (x i : EV) : Option EV := match x, i with
  | .str t, .int _ i => if 0 ≤ i then (t[i.toNat]?).map byteE else none
  | _, _ => none
def extE (i : Nat) (x : EV) : Option EV := match x with
  | .tuple vs => vs[i]?
  | _ => none
def lnsE (x : EV) : Option EV := match x with
  | .str t => some (.int .i64 t.length)
  | _ => none
def capE (x : EV) : Option EV := match x with
  | .slice none _ _ _ => some (.int .i64 0)
  | _ => none
def lnbE (x : EV) : Option EV := match x with
  | .slice _ n _ _ => some (.int .i64 n)
  | _ => none
def mmE (mx : Bool) (x y : EV) : Option EV := match x, y with
  | .int k a, .int k' b => if k = k' then some (.int k (if mx then (if b > a then b else a) else (if b < a then b else a))) else none
  | _, _ => none
def asrE (t : TypeId) (z : EV) (ok : Bool) (x : EV) : Option EV := match x with
  | .iface u v => if u = t then some (if ok then .tuple [v, .bool true] else v) else if ok then some (.tuple [z, .bool false]) else none
  | .nilIface => if ok then some (.tuple [z, .bool false]) else none
  | _ => none
def tofE (k : FloatKind) (x : EV) : Option EV := match x with
  | .int _ n => some (.flt k (k.nearest n))
  | _ => none
def frfE (k : IntKind) (x : EV) : Option EV := match x with
  | .flt s b => match (s.decode b).toInt .zero with
    | some n => if k.min ≤ n ∧ n ≤ k.max then some (.int k n) else none
    | none => none
  | _ => none
def blE (z : List EV) (ps : List (Nat × Nat × EV)) : Option EV := (fillE z ps).map .agg

variable {A : Fr} {m : Mem}
theorem ev_mov {x : Opd} : evVal G (.mov x) A m = okE m (some (opd A x)) := rfl
theorem ev_pick {c a b : Opd} : evVal G (.pick c a b) A m = okE m (pickE (opd A c) (opd A a) (opd A b)) := by
  simp only [evVal, pickE]; cases opd A c <;> rfl
theorem ev_build {z : List EV} {ps : List (Nat × Nat × Opd)} : evVal G (.build z ps) A m = okE m (blE z (parts A ps)) := by
  simp only [evVal, blE]; cases fillE z (parts A ps) <;> rfl
theorem ev_load {n : Option Nat} {a : Opd} : evVal G (.load n a) A m = okE m (ldE G m n (opd A a)) := by
  simp only [evVal]
  generalize opd A a = v
  unfold ldE
  cases v <;> first | rfl | skip
  rename_i a
  cases a <;> first | rfl | skip
  rename_i a
  cases n with
  | none => rfl
  | some n => simp only; cases m.getN G a n <;> rfl
theorem ev_store {n : Nat} {a x : Opd} : evVal G (.store n a x) A m = stE m n (opd A a) (opd A x) := rfl
theorem ev_nilchk {x : Opd} : evVal G (.nilchk x) A m = okE m (nchE (opd A x)) := by
  simp only [evVal]
  generalize opd A x = v
  unfold nchE
  cases v <;> first | rfl | skip
  rename_i a
  cases a <;> rfl
theorem ev_bin {op : BinOp} {q : List Nat} {x y : Opd} : evVal G (.bin op q x y) A m = okE m (binE op q (opd A x) (opd A y)) := rfl
theorem ev_isnil {k : Nat} {neg : Bool} {x : Opd} : evVal G (.isnil k neg x) A m = okE m (isnE neg (isNil k (opd A x))) := by
  simp only [evVal, isnE]; cases isNil k (opd A x) <;> rfl
theorem ev_un {op : UnOp} {x : Opd} : evVal G (.un op x) A m = okE m (unE op (opd A x)) := rfl
theorem ev_toInt {k : IntKind} {x : Opd} : evVal G (.toInt k x) A m = okE m (toIntE k (opd A x)) := by
  simp only [evVal, toIntE]; cases opd A x <;> rfl
theorem ev_same {x : Opd} : evVal G (.same x) A m = okE m (sameE (opd A x)) := by
  simp only [evVal, sameE]; cases opd A x <;> rfl
theorem ev_toStr {x : Opd} : evVal G (.toStr x) A m = okE m (tosE G m (opd A x)) := by
  simp only [evVal, tosE]
  cases opd A x with
  | slice a n c e =>
    cases a with
    | none => rfl
    | some a => simp only; cases (m.getN G a n).bind strE <;> rfl
  | _ => rfl
theorem ev_mkIface {t : TypeId} {x : Opd} : evVal G (.mkIface t x) A m = okE m (some (.iface t (opd A x))) := rfl
theorem ev_mkFunc {f : FuncId} {cap : List Opd} : evVal G (.mkFunc f cap) A m = okE m (some (.func f (cap.map (opd A)))) := rfl
theorem ev_slStr {x : Opd} {lo hi : Option Opd} : evVal G (.slStr x lo hi) A m = okE m (slsE (opd A x) (optV A lo) (optV A hi)) := by
  simp only [evVal, slsE, bnd_eq]
  cases opd A x <;> first | rfl | skip
  rename_i t
  simp only
  cases bndE t.length (optV A hi) <;> first | rfl | skip
  simp only
  cases bndE 0 (optV A lo) <;> first | rfl | skip
  simp only
  split <;> rfl
theorem ev_sl {esz : Nat} {x : Opd} {lo hi : Option Opd} : evVal G (.sl esz x lo hi) A m = okE m (slE esz (opd A x) (optV A lo) (optV A hi)) := by
  simp only [evVal, slE, bnd_eq]
  cases opd A x <;> first | rfl | skip
  rename_i a len cap e
  simp only
  cases bndE len (optV A hi) <;> first | rfl | skip
  simp only
  cases bndE 0 (optV A lo) <;> first | rfl | skip
  simp only
  split <;> rfl
theorem ev_fldAddr {off : Nat} {x : Opd} : evVal G (.fldAddr off x) A m = okE m (faE off (opd A x)) := by
  simp only [evVal]
  generalize opd A x = v
  unfold faE
  cases v <;> first | rfl | skip
  rename_i a
  cases a <;> rfl
theorem ev_fld {off : Nat} {n : Option Nat} {x : Opd} : evVal G (.fld off n x) A m = okE m (fldE off n (opd A x)) := by
  simp only [evVal, fldE]
  cases opd A x <;> first | rfl | skip
theorem ev_ixAddrArr {len esz : Nat} {x i : Opd} : evVal G (.ixAddrArr len esz x i) A m = okE m (ixaE len esz (opd A x) (opd A i)) := by
  simp only [evVal]
  generalize opd A x = v
  generalize opd A i = w
  unfold ixaE
  cases v <;> first | rfl | skip
  rename_i a
  cases a <;> cases w <;> first | rfl | skip
  simp only
  split <;> rfl
theorem ev_ixAddr {esz : Nat} {x i : Opd} : evVal G (.ixAddr esz x i) A m = okE m (ixbE esz (opd A x) (opd A i)) := by
  simp only [evVal]
  generalize opd A x = v
  generalize opd A i = w
  unfold ixbE
  cases v <;> first | rfl | skip
  rename_i a l c e
  cases a <;> cases w <;> first | rfl | skip
  simp only
  split <;> rfl
theorem ev_ixArr {len esz : Nat} {n : Option Nat} {x i : Opd} : evVal G (.ixArr len esz n x i) A m = okE m (ixcE len esz n (opd A x) (opd A i)) := by
  simp only [evVal]
  generalize opd A x = v
  generalize opd A i = w
  unfold ixcE
  cases v <;> first | rfl | skip
  rename_i cs
  cases w <;> first | rfl | skip
  simp only
  split <;> rfl
theorem ev_ixStr {x i : Opd} : evVal G (.ixStr x i) A m = okE m (ixsE (opd A x) (opd A i)) := by
  simp only [evVal]
  generalize opd A x = v
  generalize opd A i = w
  unfold ixsE
  cases v <;> first | rfl | skip
  rename_i t
  cases w <;> first | rfl | skip
  rename_i k i
  simp only
  split
  · cases t[i.toNat]? <;> rfl
  · rfl
theorem ev_ext {x : Opd} {i : Nat} : evVal G (.ext x i) A m = okE m (extE i (opd A x)) := by
  simp only [evVal, extE]
  cases opd A x <;> first | rfl | skip
theorem ev_lenStr {x : Opd} : evVal G (.lenStr x) A m = okE m (lnsE (opd A x)) := by
  simp only [evVal, lnsE]; cases opd A x <;> rfl
theorem ev_capSl {x : Opd} : evVal G (.capSl x) A m = okE m (capE (opd A x)) := by
  simp only [evVal, capE]
  cases opd A x with
  | slice a n c z => cases a <;> rfl
  | _ => rfl
theorem ev_lenSl {x : Opd} : evVal G (.lenSl x) A m = okE m (lnbE (opd A x)) := by
  simp only [evVal, lnbE]; cases opd A x <;> rfl
theorem ev_minmax {mx : Bool} {x y : Opd} : evVal G (.minmax mx x y) A m = okE m (mmE mx (opd A x) (opd A y)) := by
  simp only [evVal]
  generalize opd A x = v
  generalize opd A y = w
  unfold mmE
  cases v <;> cases w <;> first | rfl | skip
  simp only
  split <;> rfl
theorem ev_assert {t : TypeId} {z : EV} {x : Opd} {ok : Bool} : evVal G (.assert t z x ok) A m = okE m (asrE t z ok (opd A x)) := by
  simp only [evVal, asrE]
  cases opd A x <;> first | rfl | skip
  · simp only; split
    · rfl
    · split <;> rfl
  · simp only; split <;> rfl
theorem ev_toFlt {k : FloatKind} {x : Opd} : evVal G (.toFlt k x) A m = okE m (tofE k (opd A x)) := by
  simp only [evVal, tofE]; cases opd A x <;> rfl
theorem ev_fltInt {k : IntKind} {x : Opd} : evVal G (.fltInt k x) A m = okE m (frfE k (opd A x)) := by
  simp only [evVal, frfE]
  cases opd A x <;> first | rfl | skip
  rename_i s b
  simp only
  cases (s.decode b).toInt .zero <;> first | rfl | skip
  simp only
  split <;> rfl

theorem floatV_calm {n0 : Nat} {o : EOp} {r : Option EV} (hc : floatOk n0 A o = true) (he : evVal G o A m = okE m r) : floatV n0 G o A m = okE m r := by
  unfold floatV
  rw [if_pos hc, he]
  cases r <;> rfl
theorem fv_load {n0 : Nat} {n : Option Nat} {a : Opd} : floatV n0 G (.load n a) A m = okE m (ldF n0 G m n (opd A a)) := by
  unfold floatV
  simp only [floatOk, ev_load, ldF]
  cases opd A a with
  | ptr a =>
    cases a with
    | none => rfl
    | some a =>
      simp only
      split
      · cases ldE G m n (.ptr (some a)) <;> rfl
      · rfl
  | _ => rfl
theorem fv_toStr {n0 : Nat} {x : Opd} : floatV n0 G (.toStr x) A m = okE m (tosF n0 G m (opd A x)) := by
  unfold floatV
  simp only [floatOk, ev_toStr, tosF]
  cases opd A x with
  | slice a n c e =>
    cases a with
    | none => rfl
    | some a =>
      simp only
      split
      · simp only [tosE]
        cases ((m.getN G a n).bind strE) <;> rfl
      · rfl
  | _ => rfl

/-! ### New blocks -/
def newB (m : Mem) (b : Blk) (v : EV) : Option (EV × Mem) := some (v, m.push b)
theorem new_mk {K : EV → Mem → Prop} {m : Mem} {b : Blk} {v : EV} (h : ∀ M, M = m.push b → K v M) : bindE K (newB m b v) := h _ rfl
def boxE (m : Mem) (n : Nat) (x : EV) : Option (EV × Mem) := if x.cells.length = n ∧ single x = true then newB m (.cells x.cells 0 true) (.ptr (some ⟨.mem m.bl.length 0, 0⟩)) else none
def litE (m : Mem) (len esz : Nat) (r : Option (List EV)) : Option (EV × Mem) := match r with
  | some cs => newB m (.cells cs 0 true) (.slice (some ⟨.mem m.bl.length 0, 0⟩) len len esz)
  | none => none
def mksE (m : Mem) (esz bytes : Nat) (z : List EV) (l c : EV) : Option (EV × Mem) := match l, c with
  | .int .i64 l, .int .i64 c => if 0 ≤ l ∧ l ≤ c ∧ bytes * c ≤ 281474976710656 then newB m (.cells (repE c.toNat z) 0 true) (.slice (some ⟨.mem m.bl.length 0, 0⟩) l.toNat c.toNat esz) else none
  | _, _ => none
def tobE (m : Mem) (x : EV) : Option (EV × Mem) := match x with
  | .str t => newB m (.cells (bytesE t) 0 true) (.slice (some ⟨.mem m.bl.length 0, 0⟩) t.length t.length 1)
  | _ => none
def appE (G : Globs) (m : Mem) (esz bytes tag : Nat) (x : EV) (r : Option (List EV × Nat)) : Option (EV × Mem) := match r with
  | some (new, n) => appendE G m esz bytes tag x new n
  | none => none
theorem ev_new {z : List EV} : evVal G (.new z) A m = newB m (.cells z 0 true) (.ptr (some ⟨.mem m.bl.length 0, 0⟩)) := rfl
theorem ev_newT {gen : Nat} {z : List EV} : evVal G (.newT gen z) A m = newB m (.cells z gen true) (.ptr (some ⟨.mem m.bl.length gen, 0⟩)) := rfl
theorem ev_box {n : Nat} {x : Opd} : evVal G (.box n x) A m = boxE m n (opd A x) := rfl
theorem ev_mklit {len esz : Nat} {z : List EV} {ps : List (Nat × Nat × Opd)} : evVal G (.mklit len esz z ps) A m = litE m len esz (fillE z (parts A ps)) := by
  simp only [evVal]
  cases fillE z (parts A ps) <;> rfl
theorem ev_mkSlice {esz bytes : Nat} {z : List EV} {l c : Opd} : evVal G (.mkSlice esz bytes z l c) A m = mksE m esz bytes z (opd A l) (opd A c) := rfl
theorem ev_toBytes {x : Opd} : evVal G (.toBytes x) A m = tobE m (opd A x) := rfl
theorem ev_mkMap : evVal G .mkMap A m = newB m (.map [] 0) (.map (some m.bl.length)) := rfl
theorem ev_append {esz bytes tag : Nat} {x y : Opd} : evVal G (.append esz bytes tag x y) A m = appE G m esz bytes tag (opd A x) (srcCells G m esz (opd A y)) := by
  simp only [evVal]
  cases srcCells G m esz (opd A y) <;> rfl

/-! ### Pointers, arrays, copies -/
def sldE (x : EV) : Option EV := match x with
  | .slice none _ _ _ => some (.ptr none)
  | .slice (some a) _ c _ => if c ≠ 0 then some (.ptr (some a)) else none
  | _ => none
theorem sld_some {a : Ad} {n c e : Nat} : sldE (.slice (some a) n c e) = if c = 0 then none else some (.ptr (some a)) := by
  simp only [sldE]
  by_cases h : c = 0 <;> simp [h]
theorem ev_sliceData {x : Opd} : evVal G (.sliceData x) A m = okE m (sldE (opd A x)) := by
  simp only [evVal]
  generalize opd A x = v
  unfold sldE
  cases v <;> first | rfl | skip
  rename_i a l c e
  cases a <;> first | rfl | skip
  simp only
  split <;> rfl
def ustE (m : Mem) (x : EV) : Option (EV × Mem) := match x with
  | .ptr none => some (.ptr none, m)
  | .ptr (some ⟨.mem b gen, 0⟩) => match m.bl[b]? with
    | some (.cells cs gen' rw) => if gen' = gen ∧ cs ≠ [] then some (.ptr (some ⟨.mem b gen, 0⟩), m) else none
    | _ => none
  | _ => none
theorem ev_unsafeTo {x : Opd} : evVal G (.unsafeTo x) A m = ustE m (opd A x) := rfl
theorem ust_row {b g : Nat} {cs : List EV} {rw : Bool} (h : m.bl[b]? = some (.cells cs g rw)) (hc : cs ≠ []) : ustE m (.ptr (some ⟨.mem b g, 0⟩)) = some (.ptr (some ⟨.mem b g, 0⟩), m) := by
  simp only [ustE, h, true_and]
  rw [if_pos hc]
def usfE (m : Mem) (gt n : Nat) (x : EV) : Option (EV × Mem) := match x with
  | .ptr none => some (.ptr none, m)
  | .ptr (some ⟨.mem b gen, 0⟩) => match m.bl[b]? with
    | some (.cells cs gen' rw) => if gen' = gen ∧ gen = gt ∧ cs.length = n then some (.ptr (some ⟨.mem b gen, 0⟩), m) else none
    | _ => none
  | _ => none
theorem ev_unsafeFrom {gt n : Nat} {x : Opd} : evVal G (.unsafeFrom gt n x) A m = usfE m gt n (opd A x) := rfl
theorem usf_row {b g : Nat} {cs : List EV} {rw : Bool} (h : m.bl[b]? = some (.cells cs g rw)) : usfE m g cs.length (.ptr (some ⟨.mem b g, 0⟩)) = some (.ptr (some ⟨.mem b g, 0⟩), m) := by
  simp only [usfE, h, true_and, if_true]
def ptqE (m : Mem) (neg : Bool) (x y : EV) : Option (EV × Mem) := match x, y with
  | .ptr none, .ptr b => some (.bool (if neg then !b.isNone else b.isNone), m)
  | .ptr (some _), .ptr none => some (.bool neg, m)
  | .ptr (some ⟨.mem b gen, o⟩), .ptr (some ⟨.mem b' gen', o'⟩) => match m.bl[b]? with
    | some (.cells cs g rw) => if b = b' ∧ gen = gen' ∧ g = gen ∧ o = o' then some (.bool !neg, m) else none
    | _ => none
  | _, _ => none
theorem ev_ptrEq {neg : Bool} {x y : Opd} : evVal G (.ptrEq neg x y) A m = ptqE m neg (opd A x) (opd A y) := rfl
theorem ptq_same {neg : Bool} {b g o : Nat} {cs : List EV} {rw : Bool} (h : m.bl[b]? = some (.cells cs g rw)) : ptqE m neg (.ptr (some ⟨.mem b g, o⟩)) (.ptr (some ⟨.mem b g, o⟩)) = some (.bool !neg, m) := by
  simp only [ptqE, h, and_self, if_true]
def unsE (G : Globs) (m : Mem) (gt : Nat) (x n : EV) : Option (EV × Mem) := match x, n with
  | .ptr none, .int .i64 n => if n = 0 then some (.str [], m) else none
  | .ptr (some a), .int .i64 n => if n = 0 then some (.str [], m) else if n < 0 ∨ 9223372036854775807 < n then none else
    match a.base with
    | .mem b gen => match m.bl[b]? with
      | some (.cells cs gen' true) => if gen' = gen ∧ gen / typeK = gt / typeK ∧ typeK ≤ gen ∧ a.off = 0 then
          ((m.getN G a n.toNat).bind strE).map fun t => (.str t, ⟨m.bl.set b (.cells cs gen false), min m.low b⟩) else none
      | _ => none
    | _ => none
  | _, _ => none
theorem ev_unsafeStr {gt : Nat} {x n : Opd} : evVal G (.unsafeStr gt x n) A m = unsE G m gt (opd A x) (opd A n) := rfl
def saE (G : Globs) (m : Mem) (n esz : Nat) (x : EV) (lo hi : Option EV) : Option EV := match x with
  | .ptr (some a) => match bndE n hi with
    | some h => match bndE 0 lo with
      | some l => match m.row G a.base with
        | some cs => if l ≤ h ∧ h ≤ n ∧ a.off + n * esz ≤ cs.length then some (.slice (some (a.plus (l * esz))) (h - l) (n - l) esz) else none
        | none => none
      | none => none
    | none => none
  | _ => none
theorem ev_slArr {n esz : Nat} {x : Opd} {lo hi : Option Opd} : evVal G (.slArr n esz x lo hi) A m = okE m (saE G m n esz (opd A x) (optV A lo) (optV A hi)) := by
  simp only [evVal, bnd_eq]
  generalize opd A x = v
  unfold saE
  cases v <;> first | rfl | skip
  rename_i a
  cases a <;> first | rfl | skip
  rename_i a
  simp only
  cases bndE n (optV A hi) <;> first | rfl | skip
  simp only
  cases bndE 0 (optV A lo) <;> first | rfl | skip
  simp only
  cases m.row G a.base <;> first | rfl | skip
  simp only
  split <;> rfl
def cpE (m : Mem) (esz : Nat) (x : EV) (r : Option (List EV × Nat)) : Option (EV × Mem) := match x with
  | .slice a len _ _ => match r with
    | some (new, n) => match a with
      | none => some (.int .i64 0, m)
      | some a => if min n len = 0 then some (.int .i64 0, m) else (m.putN a (new.take (min n len * esz))).map fun m => (.int .i64 (min n len : Nat), m)
    | none => none
  | _ => none
def saF (n0 : Nat) (G : Globs) (m : Mem) (n esz : Nat) (x : EV) (lo hi : Option EV) : Option EV := match x with
  | .ptr (some a) => if oldAd n0 a = true then saE G m n esz (.ptr (some a)) lo hi else none
  | _ => none
theorem fv_slArr {n0 n esz : Nat} {x : Opd} {lo hi : Option Opd} : floatV n0 G (.slArr n esz x lo hi) A m = okE m (saF n0 G m n esz (opd A x) (optV A lo) (optV A hi)) := by
  unfold floatV
  simp only [floatOk, ev_slArr, saF]
  cases opd A x with
  | ptr a =>
    cases a with
    | none => rfl
    | some a =>
      simp only
      split
      · cases saE G m n esz (.ptr (some a)) (optV A lo) (optV A hi) <;> rfl
      · rfl
  | _ => rfl
def clrE (m : Mem) (z : List EV) (x : EV) : Option (EV × Mem) := match x with
  | .slice none _ _ _ => some (.tuple [], m)
  | .slice (some a) n _ _ => if n = 0 then some (.tuple [], m) else (m.putN a (repE n z)).map fun m => (.tuple [], m)
  | _ => none
theorem ev_clear {z : List EV} {x : Opd} : evVal G (.clear z x) A m = clrE m z (opd A x) := rfl
theorem ev_copy {esz : Nat} {x y : Opd} : evVal G (.copy esz x y) A m = cpE m esz (opd A x) (srcCells G m esz (opd A y)) := rfl

def lkE (m : Mem) (q : List Nat) (z : EV) (ok : Bool) (x k : EV) : Option (EV × Mem) := match x with
  | .map none => (lookE q k []).map fun f => (lookR z ok f, m)
  | .map (some r) => match m.bl[r]? with
    | some (.map es _) => (lookE q k es).map fun f => (lookR z ok f, m)
    | _ => none
  | _ => none
theorem ev_lookup {q : List Nat} {z : EV} {x k : Opd} {ok : Bool} : evVal G (.lookup q z x k ok) A m = lkE m q z ok (opd A x) (opd A k) := rfl
def msE (m : Mem) (q : List Nat) (x k v : EV) : Option (EV × Mem) := match x with
  | .map (some r) => match m.bl[r]? with
    | some (.map es ck) => if single v = true then (lookE q k es).map fun f => (undefE, ⟨m.bl.set r (entPut k v es ck f), min m.low r⟩) else none
    | _ => none
  | _ => none
theorem ev_mapSet {q : List Nat} {x k v : Opd} : evVal G (.mapSet q x k v) A m = msE m q (opd A x) (opd A k) (opd A v) := rfl
def mkE (m : Mem) (x : EV) : Option (EV × Mem) := match x with
  | .slice (some ⟨.mem b gen, o⟩) n c z => match m.bl[b]? with
    | some (.cells _ gen' true) => if gen' = gen ∧ c ≠ 0 then some (.slice (some ⟨.mem b gen, o⟩) n c z, m) else none
    | _ => none
  | _ => none
theorem ev_mark {x : Opd} : evVal G (.mark x) A m = mkE m (opd A x) := rfl
theorem mk_row {b o n c z : Nat} {cs : List EV} (h : RowIs m b cs) (hc : c ≠ 0) : mkE m (.slice (some ⟨.mem b 0, o⟩) n c z) = some (.slice (some ⟨.mem b 0, o⟩) n c z, m) := by
  have h : m.bl[b]? = some (.cells cs 0 true) := h
  simp only [mkE, h, true_and]
  rw [if_pos hc]

def wantV (w : Bool) (v : EV) : Bool := match v with
  | .bool b => b == w
  | _ => false
theorem want_eq {A : Fr} {j : Nat} {w : Bool} : wantedE A (some (j, w)) = wantV w (A j) := rfl
theorem fill_leaf {cs : List EV} {off : Nat} {v : EV} {r : List (Nat × Nat × EV)} (h : v.cells = [v]) (hs : single v = true) : fillE cs ((off, 1, v) :: r) = if off + 1 ≤ cs.length then fillE (cs.set off v) r else none := by
  simp only [fillE, h, hs, List.length_singleton, true_and, and_true]
  split
  · rename_i hl
    congr 1
    simp only [splice, List.length_singleton]
    rw [List.set_eq_take_append_cons_drop, if_pos (by omega), List.append_assoc]
    rfl
  · rfl
theorem fill_agg {cs ds : List EV} {off n : Nat} {r : List (Nat × Nat × EV)} : fillE cs ((off, n, .agg ds) :: r) = if ds.length = n ∧ off + n ≤ cs.length then fillE (splice cs off ds) r else none := by
  simp only [fillE, EV.cells, single, and_true]
theorem bin_int {op : BinOp} {q : List Nat} {k : IntKind} {a b : Int} {r : Option EV} (h : binInt op k a b = r) (hs : (match op with | .shl | .shr => true | _ => false) = false) : binE op q (.int k a) (.int k b) = r := by
  subst h
  cases op <;> simp only [binE, if_true] <;> cases hs
theorem eqc {k : Nat} {ks : List Nat} {a b : EV} {x y : List EV} {c : Bool} (h : eqCell k a b = some c) : eqCells (k :: ks) (a :: x) (b :: y) = (eqCells ks x y).map (fun r => c && r) := by
  simp only [eqCells, h]
  cases eqCells ks x y <;> rfl
theorem strE_of : ∀ {s : List UInt8}, strE (bytesE s) = some s
  | [] => rfl
  | b :: s => by
    have := strE_of (s := s)
    simp only [bytesE, List.map_cons] at this ⊢
    simp only [strE, byteE, byteOfE, this, Int.toNat_natCast, UInt8.ofNat_toNat]
theorem bnd_pos {d : Nat} {k : IntKind} {n : Int} (h : 0 ≤ n) : bndE d (some (.int k n)) = some n.toNat := if_pos h
theorem bnd_neg {d : Nat} {k : IntKind} {n : Int} (h : ¬ 0 ≤ n) : bndE d (some (.int k n)) = none := if_neg h
theorem sls_of {t : List UInt8} {lo hi : Option EV} {l h : Nat} (hh : bndE t.length hi = some h) (hl : bndE 0 lo = some l) : slsE (.str t) lo hi = if l ≤ h ∧ h ≤ t.length then some (.str ((t.drop l).take (h - l))) else none := by
  simp only [slsE, hh, hl]
theorem sls_hi {t : List UInt8} {lo hi : Option EV} (hh : bndE t.length hi = none) : slsE (.str t) lo hi = none := by
  simp only [slsE, hh]
theorem sls_lo {t : List UInt8} {lo hi : Option EV} (hl : bndE 0 lo = none) : slsE (.str t) lo hi = none := by
  simp only [slsE, hl]
  cases bndE t.length hi <;> rfl
theorem sl_of {e n c : Nat} {a : Ad} {lo hi : Option EV} {l h : Nat} (hh : bndE n hi = some h) (hl : bndE 0 lo = some l) : slE e (.slice (some a) n c e) lo hi = if l ≤ h ∧ h ≤ c then some (.slice (some (a.plus (l * e))) (h - l) (c - l) e) else none := by
  simp only [slE, hh, hl, true_or, and_true, Option.map_some]
theorem sl_hi {e n c : Nat} {a : Ad} {lo hi : Option EV} (hh : bndE n hi = none) : slE e (.slice (some a) n c e) lo hi = none := by
  simp only [slE, hh]
theorem sl_lo {e n c : Nat} {a : Ad} {lo hi : Option EV} (hl : bndE 0 lo = none) : slE e (.slice (some a) n c e) lo hi = none := by
  simp only [slE, hl]
  cases bndE n hi <;> rfl
theorem sls0 {t : List UInt8} : slsE (.str t) none none = some (.str t) := by
  rw [sls_of (l := 0) (h := t.length) rfl rfl]
  simp
theorem sls1 {t : List UInt8} {k : IntKind} {l : Int} : slsE (.str t) (some (.int k l)) none = if 0 ≤ l ∧ l ≤ t.length then some (.str (t.drop l.toNat)) else none := by
  by_cases h : 0 ≤ l
  · rw [sls_of (h := t.length) rfl (bnd_pos h)]
    by_cases h2 : l ≤ t.length
    · rw [if_pos (by omega), if_pos ⟨h, h2⟩, List.take_of_length_le (by simp)]
    · rw [if_neg (by omega), if_neg (by omega)]
  · rw [sls_lo (bnd_neg h), if_neg (by omega)]
theorem sls2 {t : List UInt8} {k : IntKind} {h : Int} : slsE (.str t) none (some (.int k h)) = if 0 ≤ h ∧ h ≤ t.length then some (.str (t.take h.toNat)) else none := by
  by_cases h0 : 0 ≤ h
  · rw [sls_of (l := 0) (bnd_pos h0) rfl]
    by_cases h2 : h ≤ t.length
    · rw [if_pos (by omega), if_pos ⟨h0, h2⟩]
      rfl
    · rw [if_neg (by omega), if_neg (by omega)]
  · rw [sls_hi (bnd_neg h0), if_neg (by omega)]
theorem sls3 {t : List UInt8} {k k2 : IntKind} {l h : Int} : slsE (.str t) (some (.int k l)) (some (.int k2 h)) = if 0 ≤ l ∧ l ≤ h ∧ h ≤ t.length then some (.str ((t.drop l.toNat).take (h.toNat - l.toNat))) else none := by
  by_cases h0 : 0 ≤ l
  · by_cases h1 : 0 ≤ h
    · rw [sls_of (bnd_pos h1) (bnd_pos h0)]
      by_cases h2 : l ≤ h ∧ h ≤ t.length
      · rw [if_pos (by omega), if_pos ⟨h0, h2⟩]
      · rw [if_neg (by omega), if_neg (by omega)]
    · rw [sls_hi (bnd_neg h1), if_neg (by omega)]
  · rw [sls_lo (bnd_neg h0), if_neg (by omega)]
theorem sl0 {e : Nat} {a : Ad} {n c : Nat} : slE e (.slice (some a) n c e) none none = if n ≤ c then some (.slice (some a) n c e) else none := by
  rw [sl_of (l := 0) (h := n) rfl rfl]
  simp only [Nat.zero_le, true_and, Nat.zero_mul, Nat.sub_zero]
  rfl
theorem sl1 {e : Nat} {a : Ad} {n c : Nat} {k : IntKind} {l : Int} : slE e (.slice (some a) n c e) (some (.int k l)) none = if 0 ≤ l ∧ l ≤ n ∧ n ≤ c then some (.slice (some (a.plus (l.toNat * e))) (n - l.toNat) (c - l.toNat) e) else none := by
  by_cases h : 0 ≤ l
  · rw [sl_of (h := n) rfl (bnd_pos h)]
    by_cases h2 : l ≤ n ∧ n ≤ c
    · rw [if_pos (by omega), if_pos ⟨h, h2⟩]
    · rw [if_neg (by omega), if_neg (by omega)]
  · rw [sl_lo (bnd_neg h), if_neg (by omega)]
theorem sl2 {e : Nat} {a : Ad} {n c : Nat} {k : IntKind} {h : Int} : slE e (.slice (some a) n c e) none (some (.int k h)) = if 0 ≤ h ∧ h ≤ c then some (.slice (some a) h.toNat c e) else none := by
  by_cases h0 : 0 ≤ h
  · rw [sl_of (l := 0) (bnd_pos h0) rfl]
    by_cases h2 : h ≤ c
    · rw [if_pos (by omega), if_pos ⟨h0, h2⟩]
      simp only [Nat.zero_mul, Nat.sub_zero]
      rfl
    · rw [if_neg (by omega), if_neg (by omega)]
  · rw [sl_hi (bnd_neg h0), if_neg (by omega)]
theorem sl3 {e : Nat} {a : Ad} {n c : Nat} {k k2 : IntKind} {l h : Int} : slE e (.slice (some a) n c e) (some (.int k l)) (some (.int k2 h)) = if 0 ≤ l ∧ l ≤ h ∧ h ≤ c then some (.slice (some (a.plus (l.toNat * e))) (h.toNat - l.toNat) (c - l.toNat) e) else none := by
  by_cases h0 : 0 ≤ l
  · by_cases h1 : 0 ≤ h
    · rw [sl_of (bnd_pos h1) (bnd_pos h0)]
      by_cases h2 : l ≤ h ∧ h ≤ c
      · rw [if_pos (by omega), if_pos ⟨h0, h2⟩]
      · rw [if_neg (by omega), if_neg (by omega)]
    · rw [sl_hi (bnd_neg h1), if_neg (by omega)]
  · rw [sl_lo (bnd_neg h0), if_neg (by omega)]
theorem mm_eq {mx : Bool} {k : IntKind} {a b : Int} : mmE mx (.int k a) (.int k b) = some (.int k (if mx = true then (if a < b then b else a) else (if b < a then b else a))) := by
  simp only [mmE, if_true, gt_iff_lt]
theorem res_tmp {A : Fr} {m : Mem} {t : Nat} {rs : List ERes} : resultsE G A m (.tmp t :: rs) = (resultsE G A m rs).map (fun l => A t :: l) := by
  simp only [resultsE, resE]
  cases resultsE G A m rs <;> rfl
theorem res_cell {A : Fr} {m : Mem} {a : Nat} {n : Option Nat} {rs : List ERes} : resultsE G A m (.cell a n :: rs) = (ldE G m n (A a)).bind (fun v => (resultsE G A m rs).map (fun l => v :: l)) := by
  have e : resE G A m (.cell a n) = ldE G m n (A a) := by
    unfold resE ldE
    rfl
  simp only [resultsE, e]
  cases ldE G m n (A a) <;> cases resultsE G A m rs <;> rfl
theorem nrf_ptr {n : Nat} {a : Ad} : noref n (.ptr (some a)) = oldAd n a := by
  obtain ⟨b, o⟩ := a
  cases b <;> simp [noref, oldAd]
theorem nrf_sl {n : Nat} {a : Ad} {l c e : Nat} : noref n (.slice (some a) l c e) = oldAd n a := by
  obtain ⟨b, o⟩ := a
  cases b <;> simp [noref, oldAd]
theorem int_beq (a b : Nat) : ((a : Int) == (b : Int)) = (a == b) := by
  rw [Bool.eq_iff_iff, beq_iff_eq, beq_iff_eq]; omega
theorem int_bne (a b : Nat) : ((a : Int) != (b : Int)) = (a != b) := by
  rw [Bool.eq_iff_iff, bne_iff_ne, bne_iff_ne]; omega

theorem vq :
    (∀ x0, (EOp.mov x0).quiet = true) ∧
    (∀ x0 x1 x2, (EOp.pick x0 x1 x2).quiet = true) ∧
    (∀ x0, (EOp.new x0).quiet = true) ∧
    (∀ x0 x1, (EOp.box x0 x1).quiet = true) ∧
    (∀ x0 x1, (EOp.build x0 x1).quiet = true) ∧
    (∀ x0 x1 x2 x3, (EOp.mklit x0 x1 x2 x3).quiet = true) ∧
    (∀ x0 x1, (EOp.load x0 x1).quiet = true) ∧
    (∀ x0 x1 x2, (EOp.store x0 x1 x2).quiet = true) ∧
    (∀ x0, (EOp.nilchk x0).quiet = true) ∧
    (∀ x0 x1 x2 x3, (EOp.bin x0 x1 x2 x3).quiet = true) ∧
    (∀ x0 x1 x2, (EOp.isnil x0 x1 x2).quiet = true) ∧
    (∀ x0 x1, (EOp.un x0 x1).quiet = true) ∧
    (∀ x0 x1, (EOp.toInt x0 x1).quiet = true) ∧
    (∀ x0, (EOp.same x0).quiet = true) ∧
    (∀ x0, (EOp.toBytes x0).quiet = true) ∧
    (∀ x0, (EOp.toStr x0).quiet = true) ∧
    (∀ x0 x1, (EOp.mkIface x0 x1).quiet = true) ∧
    (∀ x0 x1, (EOp.mkFunc x0 x1).quiet = true) ∧
    ((EOp.mkMap).quiet = true) ∧
    (∀ x0, (EOp.mkMapN x0).quiet = true) ∧
    (∀ x0 x1 x2 x3 x4, (EOp.mkSlice x0 x1 x2 x3 x4).quiet = true) ∧
    (∀ x0 x1 x2, (EOp.slStr x0 x1 x2).quiet = true) ∧
    (∀ x0 x1 x2 x3, (EOp.sl x0 x1 x2 x3).quiet = true) ∧
    (∀ x0 x1 x2 x3 x4, (EOp.slArr x0 x1 x2 x3 x4).quiet = true) ∧
    (∀ x0 x1, (EOp.fldAddr x0 x1).quiet = true) ∧
    (∀ x0 x1 x2, (EOp.fld x0 x1 x2).quiet = true) ∧
    (∀ x0 x1 x2 x3, (EOp.ixAddrArr x0 x1 x2 x3).quiet = true) ∧
    (∀ x0 x1 x2, (EOp.ixAddr x0 x1 x2).quiet = true) ∧
    (∀ x0 x1 x2 x3 x4, (EOp.ixArr x0 x1 x2 x3 x4).quiet = true) ∧
    (∀ x0 x1, (EOp.ixStr x0 x1).quiet = true) ∧
    (∀ x0 x1, (EOp.ext x0 x1).quiet = true) ∧
    (∀ x0, (EOp.lenStr x0).quiet = true) ∧
    (∀ x0, (EOp.lenSl x0).quiet = true) ∧
    (∀ x0, (EOp.capSl x0).quiet = true) ∧
    (∀ x0, (EOp.lenMap x0).quiet = true) ∧
    (∀ x0 x1 x2 x3 x4, (EOp.append x0 x1 x2 x3 x4).quiet = true) ∧
    (∀ x0 x1, (EOp.newT x0 x1).quiet = true) ∧
    (∀ x0, (EOp.unsafeTo x0).quiet = true) ∧
    (∀ x0 x1 x2, (EOp.unsafeFrom x0 x1 x2).quiet = true) ∧
    (∀ x0 x1 x2, (EOp.ptrEq x0 x1 x2).quiet = true) ∧
    (∀ x0, (EOp.sliceData x0).quiet = true) ∧
    (∀ x0 x1 x2, (EOp.unsafeStr x0 x1 x2).quiet = true) ∧
    (∀ x0 x1 x2, (EOp.copy x0 x1 x2).quiet = true) ∧
    (∀ x0 x1, (EOp.clear x0 x1).quiet = true) ∧
    (∀ x0 x1 x2, (EOp.minmax x0 x1 x2).quiet = true) ∧
    (∀ x0 x1 x2 x3 x4, (EOp.lookup x0 x1 x2 x3 x4).quiet = true) ∧
    (∀ x0 x1 x2 x3, (EOp.mapSet x0 x1 x2 x3).quiet = true) ∧
    (∀ x0 x1 x2, (EOp.mapEntry x0 x1 x2).quiet = true) ∧
    (∀ x0 x1 x2, (EOp.entrySet x0 x1 x2).quiet = true) ∧
    (∀ x0 x1 x2, (EOp.delete x0 x1 x2).quiet = true) ∧
    (∀ x0, (EOp.range x0).quiet = true) ∧
    (∀ x0, (EOp.next x0).quiet = true) ∧
    (∀ x0, (EOp.mark x0).quiet = true) ∧
    (∀ x0 x1, (EOp.toFlt x0 x1).quiet = true) ∧
    (∀ x0 x1, (EOp.fltInt x0 x1).quiet = true) ∧
    ((EOp.stuck).quiet = true) ∧
    (∀ x0 x1 x2 x3, (EOp.assert x0 x1 x2 x3).quiet = true) :=
  ⟨fun _ => rfl,
   fun _ _ _ => rfl,
   fun _ => rfl,
   fun _ _ => rfl,
   fun _ _ => rfl,
   fun _ _ _ _ => rfl,
   fun _ _ => rfl,
   fun _ _ _ => rfl,
   fun _ => rfl,
   fun _ _ _ _ => rfl,
   fun _ _ _ => rfl,
   fun _ _ => rfl,
   fun _ _ => rfl,
   fun _ => rfl,
   fun _ => rfl,
   fun _ => rfl,
   fun _ _ => rfl,
   fun _ _ => rfl,
   rfl,
   fun _ => rfl,
   fun _ _ _ _ _ => rfl,
   fun _ _ _ => rfl,
   fun _ _ _ _ => rfl,
   fun _ _ _ _ _ => rfl,
   fun _ _ => rfl,
   fun _ _ _ => rfl,
   fun _ _ _ _ => rfl,
   fun _ _ _ => rfl,
   fun _ _ _ _ _ => rfl,
   fun _ _ => rfl,
   fun _ _ => rfl,
   fun _ => rfl,
   fun _ => rfl,
   fun _ => rfl,
   fun _ => rfl,
   fun _ _ _ _ _ => rfl,
   fun _ _ => rfl,
   fun _ => rfl,
   fun _ _ _ => rfl,
   fun _ _ _ => rfl,
   fun _ => rfl,
   fun _ _ _ => rfl,
   fun _ _ _ => rfl,
   fun _ _ => rfl,
   fun _ _ _ => rfl,
   fun _ _ _ _ _ => rfl,
   fun _ _ _ _ => rfl,
   fun _ _ _ => rfl,
   fun _ _ _ => rfl,
   fun _ _ _ => rfl,
   fun _ => rfl,
   fun _ => rfl,
   fun _ => rfl,
   fun _ _ => rfl,
   fun _ _ => rfl,
   rfl,
   fun _ _ _ _ => rfl⟩

theorem vc :
    (∀ {T : FuncId → Option EFunc} {G : Globs} {Q : Post} {s : St}, wpOps T G [] Q s = Q .normal s) ∧
    (∀ {T : FuncId → Option EFunc} {G : Globs} {o : EOp} (hq : o.quiet = true) {dst : Option Nat} {os : List EOper} {Q : Post} {A : Fr} {m : Mem} {d : Dl} {p : Po} , wpOps T G (⟨dst, o, none⟩ :: os) Q ⟨A, m, d, p⟩ = bindE (kO T G dst os Q A d p) (evVal G o A m)) ∧
    (∀ {T : FuncId → Option EFunc} {G : Globs} {f : Opd} {args : List Opd} {dst : Option Nat} {os : List EOper} {Q : Post} {A : Fr} {m : Mem} {d : Dl} {p : Po} , wpOps T G (⟨dst, .call f args, none⟩ :: os) Q ⟨A, m, d, p⟩ = bindR (kO T G dst os Q A d p) (kP Q A d p) (callR T G (opd A f) (args.map (opd A)) m)) ∧
    (∀ {T : FuncId → Option EFunc} {G : Globs} {o : EOp} (hq : o.quiet = true) {g : Nat × Bool} {dst : Option Nat} {os : List EOper} {Q : Post} {A : Fr} {m : Mem} {d : Dl} {p : Po} , wpOps T G (⟨dst, o, some g⟩ :: os) Q ⟨A, m, d, p⟩ = gmE (kO T G dst os Q A d p) (wantedE A (some g)) m (evVal G o A m)) ∧
    (∀ {T : FuncId → Option EFunc} {G : Globs} {f : Opd} {args : List Opd} {g : Nat × Bool} {dst : Option Nat} {os : List EOper} {Q : Post} {A : Fr} {m : Mem} {d : Dl} {p : Po} , wpOps T G (⟨dst, .call f args, some g⟩ :: os) Q ⟨A, m, d, p⟩ = gmR (kO T G dst os Q A d p) (kP Q A d p) (wantedE A (some g)) m (callR T G (opd A f) (args.map (opd A)) m)) ∧
    (∀ {T : FuncId → Option EFunc} {G : Globs} {x : Opd} {dst : Option Nat} {os : List EOper} {Q : Post} {A : Fr} {m : Mem} {d : Dl} {p : Po} , wpOps T G (⟨dst, .panic x, none⟩ :: os) Q ⟨A, m, d, p⟩ = panE Q A m d p (opd A x)) ∧
    (∀ {T : FuncId → Option EFunc} {G : Globs} {f : Opd} {args : List Opd} {dst : Option Nat} {os : List EOper} {Q : Post} {A : Fr} {m : Mem} {d : Dl} {p : Po} , wpOps T G (⟨dst, .defer f args, none⟩ :: os) Q ⟨A, m, d, p⟩ = defE T G dst os Q A m d p (args.map (opd A)) (opd A f)) ∧
    (∀ {T : FuncId → Option EFunc} {G : Globs} {dst : Option Nat} {os : List EOper} {Q : Post} {A : Fr} {m : Mem} {d : Dl} {p : Po} , wpOps T G (⟨dst, .recover, none⟩ :: os) Q ⟨A, m, d, p⟩ = recE T G dst os Q A m d p) ∧
    (∀ {T : FuncId → Option EFunc} {G : Globs} {n0 : Nat} {fl : List Bool} {Q : St → Prop} {s : St}, wpD T G n0 [] fl Q s = Q s) ∧
    (∀ {T : FuncId → Option EFunc} {G : Globs} {o : EOp} {n0 : Nat} {dst : Option Nat} {os : List EOper} {fl : List Bool} {Q : St → Prop} {A : Fr} {m : Mem} {d : Dl} {p : Po} , wpD T G n0 (⟨dst, o, none⟩ :: os) (true :: fl) Q ⟨A, m, d, p⟩ = bindE (kD T G n0 dst os fl Q A d p) (floatV n0 G o A m)) ∧
    (∀ {T : FuncId → Option EFunc} {G : Globs} {o : EOp} (hq : o.quiet = true) {n0 : Nat} {dst : Option Nat} {os : List EOper} {fl : List Bool} {Q : St → Prop} {A : Fr} {m : Mem} {d : Dl} {p : Po} , wpD T G n0 (⟨dst, o, none⟩ :: os) (false :: fl) Q ⟨A, m, d, p⟩ = bindE (kD T G n0 dst os fl Q A d p) (evVal G o A m)) ∧
    (∀ {T : FuncId → Option EFunc} {G : Globs} {f : Opd} {args : List Opd} {n0 : Nat} {dst : Option Nat} {os : List EOper} {fl : List Bool} {Q : St → Prop} {A : Fr} {m : Mem} {d : Dl} {p : Po} , wpD T G n0 (⟨dst, .call f args, none⟩ :: os) (false :: fl) Q ⟨A, m, d, p⟩ = bindR (kD T G n0 dst os fl Q A d p) kF (callR T G (opd A f) (args.map (opd A)) m)) ∧
    (∀ {T : FuncId → Option EFunc} {G : Globs} {o : EOp} {g : Nat × Bool} {n0 : Nat} {dst : Option Nat} {os : List EOper} {fl : List Bool} {Q : St → Prop} {A : Fr} {m : Mem} {d : Dl} {p : Po} , wpD T G n0 (⟨dst, o, some g⟩ :: os) (true :: fl) Q ⟨A, m, d, p⟩ = gmE (kD T G n0 dst os fl Q A d p) (wantedE A (some g)) m (floatV n0 G o A m)) ∧
    (∀ {T : FuncId → Option EFunc} {G : Globs} {o : EOp} (hq : o.quiet = true) {n0 : Nat} {dst : Option Nat} {g : Nat × Bool} {os : List EOper} {fl : List Bool} {Q : St → Prop} {A : Fr} {m : Mem} {d : Dl} {p : Po} , wpD T G n0 (⟨dst, o, some g⟩ :: os) (false :: fl) Q ⟨A, m, d, p⟩ = gmE (kD T G n0 dst os fl Q A d p) (wantedE A (some g)) m (evVal G o A m)) ∧
    (∀ {T : FuncId → Option EFunc} {G : Globs} {f : Opd} {args : List Opd} {g : Nat × Bool} {n0 : Nat} {dst : Option Nat} {os : List EOper} {fl : List Bool} {Q : St → Prop} {A : Fr} {m : Mem} {d : Dl} {p : Po} , wpD T G n0 (⟨dst, .call f args, some g⟩ :: os) (false :: fl) Q ⟨A, m, d, p⟩ = gmR (kD T G n0 dst os fl Q A d p) kF (wantedE A (some g)) m (callR T G (opd A f) (args.map (opd A)) m)) ∧
    (∀ {Q : Post} {A : Fr} {m : Mem} {d : Dl} {p : Po} , endD Q m ⟨A, ⟨m.bl, m.bl.length⟩, d, p⟩ = Q .normal ⟨A, m, d, p⟩) ∧
    (∀ {T : FuncId → Option EFunc} {G : Globs} {os : List EOper} {fl : List Bool} {Q : Post} {A : Fr} {m : Mem} {d : Dl} {p : Po} , cutD T G m os fl Q ⟨A, ⟨m.bl, m.bl.length⟩, d, p⟩ = wpD T G m.bl.length os fl (endD Q m) ⟨A, ⟨m.bl, m.bl.length⟩, d, p⟩) ∧
    (∀ {T : FuncId → Option EFunc} {G : Globs} {dst : Option Nat} {os : List EOper} {Q : Post} {A : Fr} {d : Dl} {p : Po} {v : EV} {m : Mem}, kO T G dst os Q A d p v m = wpOps T G os Q ⟨setO A dst v, m, d, p⟩) ∧
    (∀ {Q : Post} {A : Fr} {d : Dl} {p : Po} {v : EV} {m : Mem}, kP Q A d p v m = Q (.pan v) ⟨A, m, d, p⟩) ∧
    (∀ {T : FuncId → Option EFunc} {G : Globs} {n0 : Nat} {dst : Option Nat} {os : List EOper} {fl : List Bool} {Q : St → Prop} {A : Fr} {d : Dl} {p : Po} {v : EV} {m : Mem}, kD T G n0 dst os fl Q A d p v m = wpD T G n0 os fl Q ⟨setO A dst v, m, d, p⟩) ∧
    (∀ {A : Fr} {t : Nat} {v : EV}, setO A (some t) v = upd A t v) ∧
    (∀ {A : Fr} {v : EV}, setO A none v = A) ∧
    (∀ {K : EV → Mem → Prop} {m : Mem} {v : EV}, bindE K (some (v, m)) = K v m) ∧
    (∀ {K KP : EV → Mem → Prop} {v : EV} {m : Mem}, bindR K KP (some (.val v, m)) = K v m) ∧
    (∀ {K KP : EV → Mem → Prop} {v : EV} {m : Mem}, bindR K KP (some (.pan v, m)) = KP v m) ∧
    (∀ {K : EV → Mem → Prop} {m : Mem} {c : Bool} {v : EV}, gmE K c m (some (v, m)) = K (if c = true then v else undefE) m) ∧
    (∀ {K KP : EV → Mem → Prop} {c : Bool} {m : Mem} {v : EV}, gmR K KP c m (some (.val v, m)) = K (if c = true then v else undefE) m) ∧
    (∀ {K : EV → Mem → Prop} {m : Mem} {r : Option (EV × Mem)}, gmE K true m r = bindE K r) ∧
    (∀ {K : EV → Mem → Prop} {m : Mem} {r : Option (EV × Mem)}, gmE K false m r = K undefE m) ∧
    (∀ {K KP : EV → Mem → Prop} {m : Mem} {r : Option (Res × Mem)}, gmR K KP true m r = bindR K KP r) ∧
    (∀ {K KP : EV → Mem → Prop} {m : Mem} {r : Option (Res × Mem)}, gmR K KP false m r = K undefE m) ∧
    (∀ {m : Mem} {v : EV}, okE m (some v) = some (v, m)) ∧
    (∀ {T : FuncId → Option EFunc} {G : Globs} {Q : Post} {s : St}, wp2 T G .skip Q s = Q .normal s) ∧
    (∀ {T : FuncId → Option EFunc} {G : Globs} {Q : Post} {s : St} {os : List EOper}, wp2 T G (.reg os) Q s = wpOps T G os Q s) ∧
    (∀ {T : FuncId → Option EFunc} {G : Globs} {Q : Post} {os : List EOper} {fl : List Bool} {cut : Nat} {A : Fr} {m : Mem} {d : Dl}, wp2 T G (.regD os fl cut) Q ⟨A, m, d, none⟩ = wpD T G m.bl.length (os.take cut) (fl.take cut) (cutD T G m (os.drop cut) (fl.drop cut) Q) ⟨A, ⟨m.bl, m.bl.length⟩, d, none⟩) ∧
    (∀ {T : FuncId → Option EFunc} {G : Globs} {Q : Post} {js : List Nat} {os : List EOper} {fl : List Bool} {cut : Nat} {A : Fr} {m : Mem} {d : Dl}, wp2 T G (.regL js os fl cut) Q ⟨A, m, d, none⟩ = wpL T G (latesR 0 js os) (subR m.bl.length 0 0 js os) fl cut Q A m d) ∧
    (∀ {k : Nat} {os : List EOper}, latesR k [] os = some []) ∧
    (∀ {k j : Nat} {js : List Nat} {o : EOper} {os : List EOper}, latesR k (j :: js) (o :: os) = if j = k then consB (lateB o.op) (latesR (k + 1) js os) else latesR (k + 1) (j :: js) os) ∧
    (∀ {z : List EV}, lateB (.new z) = some (.cells z 1 true)) ∧
    (∀ {b : Blk} {bs : List Blk}, consB (some b) (some bs) = some (b :: bs)) ∧
    (∀ {rb i k : Nat} {os : List EOper}, subR rb i k [] os = os) ∧
    (∀ {rb i k j : Nat} {js : List Nat} {o : EOper} {os : List EOper}, subR rb i k (j :: js) (o :: os) = if j = k then ⟨o.dst, .mov (.con (lateV o.op (rb + i))), o.guard⟩ :: subR rb (i + 1) (k + 1) js os else o :: subR rb i (k + 1) (j :: js) os) ∧
    (∀ {z : List EV} {r : Nat}, lateV (.new z) r = .ptr (some ⟨.mem r 1, 0⟩)) ∧
    (∀ {r : Nat}, lateV .mkMap r = .map (some r)) ∧
    (lateB .mkMap = some (.map [] 0)) ∧
    (∀ {T : FuncId → Option EFunc} {G : Globs} {Q : Post} {s : St} {a b : ECode}, wp2 T G (.seq a b) Q s = wp2 T G a (then2 T G b Q) s) ∧
    (∀ {T : FuncId → Option EFunc} {G : Globs} {Q : Post} {c : Opd} {a b : ECode} {A : Fr} {m : Mem} {d : Dl} {p : Po} , wp2 T G (.cond c a b) Q ⟨A, m, d, p⟩ = br2 T G a b Q A m d p (opd A c)) ∧
    (∀ {T : FuncId → Option EFunc} {G : Globs} {Q : Post} {s : St} {id : Nat} {a : ECode}, wp2 T G (.block id a) Q s = wp2 T G a (blockE id Q) s) ∧
    (∀ {T : FuncId → Option EFunc} {G : Globs} {Q : Post} {s : St} {id : Nat}, wp2 T G (.exit id) Q s = Q (.exit id) s) ∧
    (∀ {T : FuncId → Option EFunc} {G : Globs} {Q : Post} {s : St}, wp2 T G .ret Q s = Q .ret s) ∧
    (∀ {T : FuncId → Option EFunc} {G : Globs} {Q : Post} {s : St} {b : ECode}, then2 T G b Q .normal s = wp2 T G b Q s) ∧
    (∀ {T : FuncId → Option EFunc} {G : Globs} {Q : Post} {s : St} {b : ECode} {i : Nat}, then2 T G b Q (.exit i) s = Q (.exit i) s) ∧
    (∀ {T : FuncId → Option EFunc} {G : Globs} {Q : Post} {s : St} {b : ECode}, then2 T G b Q .ret s = Q .ret s) ∧
    (∀ {T : FuncId → Option EFunc} {G : Globs} {Q : Post} {s : St} {b : ECode} {v : EV}, then2 T G b Q (.pan v) s = Q (.pan v) s) ∧
    (∀ {Q : Post} {s : St} {id i : Nat}, blockE id Q (.exit i) s = if i = id then Q .normal s else Q (.exit i) s) ∧
    (∀ {Q : Post} {s : St} {id : Nat}, blockE id Q .normal s = Q .normal s) ∧
    (∀ {Q : Post} {s : St} {id : Nat}, blockE id Q .ret s = Q .ret s) ∧
    (∀ {Q : Post} {s : St} {id : Nat} {v : EV}, blockE id Q (.pan v) s = Q (.pan v) s) ∧
    (∀ {I : Nat → St → Prop} {n : Nat} {Q : Post} {s : St} {i : Nat}, againE I n Q (.exit i) s = Q (.exit i) s) ∧
    (∀ {I : Nat → St → Prop} {n : Nat} {Q : Post} {s : St}, againE I n Q .ret s = Q .ret s) ∧
    (∀ {I : Nat → St → Prop} {n : Nat} {Q : Post} {s : St} {v : EV}, againE I n Q (.pan v) s = Q (.pan v) s) ∧
    (∀ {T : FuncId → Option EFunc} {G : Globs} {a b : ECode} {Q : Post} {A : Fr} {m : Mem} {d : Dl} {p : Po} , br2 T G a b Q A m d p (.bool true) = wp2 T G a Q ⟨A, m, d, p⟩) ∧
    (∀ {T : FuncId → Option EFunc} {G : Globs} {a b : ECode} {Q : Post} {A : Fr} {m : Mem} {d : Dl} {p : Po} , br2 T G a b Q A m d p (.bool false) = wp2 T G b Q ⟨A, m, d, p⟩) ∧
    (∀ {G : Globs} {res : List ERes} {v : EV} {n0 : Nat} {A : Fr} {m : Mem}, doneE G res v n0 .ret ⟨A, m, [], none⟩ = ((resultsE G A m res).map oneE = some v ∧ n0 ≤ m.low ∧ noref n0 v = true)) ∧
    (∀ {G : Globs} {res : List ERes} {v : EV} {n0 : Nat} {A : Fr} {m : Mem}, doneE G res v n0 .normal ⟨A, m, [], none⟩ = ((resultsE G A m res).map oneE = some v ∧ n0 ≤ m.low ∧ noref n0 v = true)) :=
  ⟨ops_nil,
   fun hq => ops_quiet hq,
   ops_call,
   fun hq => ops_gquiet hq,
   ops_gcall,
   ops_panic,
   ops_defer,
   ops_recover,
   wpD_eqnil,
   wpD_eqfloat,
   fun hq => wpD_eqquiet hq,
   wpD_eqcall,
   wpD_eqgfloat,
   fun hq => wpD_eqgquiet hq,
   wpD_eqgcall,
   endD_same,
   cutD_same,
   rfl,
   rfl,
   rfl,
   rfl,
   rfl,
   rfl,
   rfl,
   rfl,
   gmE_merge,
   gmR_merge,
   gmE_true,
   gmE_false,
   gmR_true,
   gmR_false,
   rfl,
   rfl,
   rfl,
   propext ⟨fun h => h.2, fun h => ⟨rfl, h⟩⟩,
   propext ⟨fun h => h.2, fun h => ⟨rfl, h⟩⟩,
   latesR_nil,
   rfl,
   rfl,
   rfl,
   subR_nil,
   rfl,
   rfl,
   rfl,
   rfl,
   rfl,
   rfl,
   rfl,
   rfl,
   rfl,
   rfl,
   rfl,
   rfl,
   rfl,
   rfl,
   rfl,
   rfl,
   rfl,
   rfl,
   rfl,
   rfl,
   br2_true,
   br2_false,
   propext ⟨fun h => ⟨h.2.2.1, h.2.2.2.1, h.2.2.2.2⟩, fun h => ⟨rfl, rfl, h.1, h.2.1, h.2.2⟩⟩,
   propext ⟨fun h => ⟨h.2.2.1, h.2.2.2.1, h.2.2.2.2⟩, fun h => ⟨rfl, rfl, h.1, h.2.1, h.2.2⟩⟩⟩

theorem ve :
    (∀ {G : Globs} {A : Fr} {m : Mem} {x : Opd}, evVal G (.mov x) A m = okE m (some (opd A x))) ∧
    (∀ {G : Globs} {A : Fr} {m : Mem} {n0 : Nat} {x : Opd}, floatV n0 G (.mov x) A m = okE m (some (opd A x))) ∧
    (∀ {G : Globs} {A : Fr} {m : Mem} {c a b : Opd}, evVal G (.pick c a b) A m = okE m (pickE (opd A c) (opd A a) (opd A b))) ∧
    (∀ {G : Globs} {A : Fr} {m : Mem} {n0 : Nat} {c a b : Opd}, floatV n0 G (.pick c a b) A m = okE m (pickE (opd A c) (opd A a) (opd A b))) ∧
    (∀ {G : Globs} {A : Fr} {m : Mem} {x : Opd}, evVal G (.nilchk x) A m = okE m (nchE (opd A x))) ∧
    (∀ {G : Globs} {A : Fr} {m : Mem} {n0 : Nat} {x : Opd}, floatV n0 G (.nilchk x) A m = okE m (nchE (opd A x))) ∧
    (∀ {G : Globs} {A : Fr} {m : Mem} {op : BinOp} {q : List Nat} {x y : Opd}, evVal G (.bin op q x y) A m = okE m (binE op q (opd A x) (opd A y))) ∧
    (∀ {G : Globs} {A : Fr} {m : Mem} {n0 : Nat} {op : BinOp} {q : List Nat} {x y : Opd}, floatV n0 G (.bin op q x y) A m = okE m (binE op q (opd A x) (opd A y))) ∧
    (∀ {G : Globs} {A : Fr} {m : Mem} {k : Nat} {neg : Bool} {x : Opd}, evVal G (.isnil k neg x) A m = okE m (isnE neg (isNil k (opd A x)))) ∧
    (∀ {G : Globs} {A : Fr} {m : Mem} {n0 : Nat} {k : Nat} {neg : Bool} {x : Opd}, floatV n0 G (.isnil k neg x) A m = okE m (isnE neg (isNil k (opd A x)))) ∧
    (∀ {G : Globs} {A : Fr} {m : Mem} {op : UnOp} {x : Opd}, evVal G (.un op x) A m = okE m (unE op (opd A x))) ∧
    (∀ {G : Globs} {A : Fr} {m : Mem} {n0 : Nat} {op : UnOp} {x : Opd}, floatV n0 G (.un op x) A m = okE m (unE op (opd A x))) ∧
    (∀ {G : Globs} {A : Fr} {m : Mem} {k : IntKind} {x : Opd}, evVal G (.toInt k x) A m = okE m (toIntE k (opd A x))) ∧
    (∀ {G : Globs} {A : Fr} {m : Mem} {n0 : Nat} {k : IntKind} {x : Opd}, floatV n0 G (.toInt k x) A m = okE m (toIntE k (opd A x))) ∧
    (∀ {G : Globs} {A : Fr} {m : Mem} {x : Opd}, evVal G (.same x) A m = okE m (sameE (opd A x))) ∧
    (∀ {G : Globs} {A : Fr} {m : Mem} {n0 : Nat} {x : Opd}, floatV n0 G (.same x) A m = okE m (sameE (opd A x))) ∧
    (∀ {G : Globs} {A : Fr} {m : Mem} {t : TypeId} {x : Opd}, evVal G (.mkIface t x) A m = okE m (some (.iface t (opd A x)))) ∧
    (∀ {G : Globs} {A : Fr} {m : Mem} {n0 : Nat} {t : TypeId} {x : Opd}, floatV n0 G (.mkIface t x) A m = okE m (some (.iface t (opd A x)))) ∧
    (∀ {G : Globs} {A : Fr} {m : Mem} {f : FuncId} {cap : List Opd}, evVal G (.mkFunc f cap) A m = okE m (some (.func f (cap.map (opd A))))) ∧
    (∀ {G : Globs} {A : Fr} {m : Mem} {n0 : Nat} {f : FuncId} {cap : List Opd}, floatV n0 G (.mkFunc f cap) A m = okE m (some (.func f (cap.map (opd A))))) ∧
    (∀ {G : Globs} {A : Fr} {m : Mem} {z : List EV} {ps : List (Nat × Nat × Opd)}, evVal G (.build z ps) A m = okE m (blE z (parts A ps))) ∧
    (∀ {G : Globs} {A : Fr} {m : Mem} {n0 : Nat} {z : List EV} {ps : List (Nat × Nat × Opd)}, floatV n0 G (.build z ps) A m = okE m (blE z (parts A ps))) ∧
    (∀ {G : Globs} {A : Fr} {m : Mem} {x : Opd} {lo hi : Option Opd}, evVal G (.slStr x lo hi) A m = okE m (slsE (opd A x) (optV A lo) (optV A hi))) ∧
    (∀ {G : Globs} {A : Fr} {m : Mem} {n0 : Nat} {x : Opd} {lo hi : Option Opd}, floatV n0 G (.slStr x lo hi) A m = okE m (slsE (opd A x) (optV A lo) (optV A hi))) ∧
    (∀ {G : Globs} {A : Fr} {m : Mem} {esz : Nat} {x : Opd} {lo hi : Option Opd}, evVal G (.sl esz x lo hi) A m = okE m (slE esz (opd A x) (optV A lo) (optV A hi))) ∧
    (∀ {G : Globs} {A : Fr} {m : Mem} {n0 : Nat} {esz : Nat} {x : Opd} {lo hi : Option Opd}, floatV n0 G (.sl esz x lo hi) A m = okE m (slE esz (opd A x) (optV A lo) (optV A hi))) ∧
    (∀ {G : Globs} {A : Fr} {m : Mem} {off : Nat} {x : Opd}, evVal G (.fldAddr off x) A m = okE m (faE off (opd A x))) ∧
    (∀ {G : Globs} {A : Fr} {m : Mem} {n0 : Nat} {off : Nat} {x : Opd}, floatV n0 G (.fldAddr off x) A m = okE m (faE off (opd A x))) ∧
    (∀ {G : Globs} {A : Fr} {m : Mem} {off : Nat} {n : Option Nat} {x : Opd}, evVal G (.fld off n x) A m = okE m (fldE off n (opd A x))) ∧
    (∀ {G : Globs} {A : Fr} {m : Mem} {n0 : Nat} {off : Nat} {n : Option Nat} {x : Opd}, floatV n0 G (.fld off n x) A m = okE m (fldE off n (opd A x))) ∧
    (∀ {G : Globs} {A : Fr} {m : Mem} {len esz : Nat} {x i : Opd}, evVal G (.ixAddrArr len esz x i) A m = okE m (ixaE len esz (opd A x) (opd A i))) ∧
    (∀ {G : Globs} {A : Fr} {m : Mem} {n0 : Nat} {len esz : Nat} {x i : Opd}, floatV n0 G (.ixAddrArr len esz x i) A m = okE m (ixaE len esz (opd A x) (opd A i))) ∧
    (∀ {G : Globs} {A : Fr} {m : Mem} {esz : Nat} {x i : Opd}, evVal G (.ixAddr esz x i) A m = okE m (ixbE esz (opd A x) (opd A i))) ∧
    (∀ {G : Globs} {A : Fr} {m : Mem} {n0 : Nat} {esz : Nat} {x i : Opd}, floatV n0 G (.ixAddr esz x i) A m = okE m (ixbE esz (opd A x) (opd A i))) ∧
    (∀ {G : Globs} {A : Fr} {m : Mem} {len esz : Nat} {n : Option Nat} {x i : Opd}, evVal G (.ixArr len esz n x i) A m = okE m (ixcE len esz n (opd A x) (opd A i))) ∧
    (∀ {G : Globs} {A : Fr} {m : Mem} {n0 : Nat} {len esz : Nat} {n : Option Nat} {x i : Opd}, floatV n0 G (.ixArr len esz n x i) A m = okE m (ixcE len esz n (opd A x) (opd A i))) ∧
    (∀ {G : Globs} {A : Fr} {m : Mem} {x i : Opd}, evVal G (.ixStr x i) A m = okE m (ixsE (opd A x) (opd A i))) ∧
    (∀ {G : Globs} {A : Fr} {m : Mem} {n0 : Nat} {x i : Opd}, floatV n0 G (.ixStr x i) A m = okE m (ixsE (opd A x) (opd A i))) ∧
    (∀ {G : Globs} {A : Fr} {m : Mem} {x : Opd} {i : Nat}, evVal G (.ext x i) A m = okE m (extE i (opd A x))) ∧
    (∀ {G : Globs} {A : Fr} {m : Mem} {n0 : Nat} {x : Opd} {i : Nat}, floatV n0 G (.ext x i) A m = okE m (extE i (opd A x))) ∧
    (∀ {G : Globs} {A : Fr} {m : Mem} {x : Opd}, evVal G (.lenStr x) A m = okE m (lnsE (opd A x))) ∧
    (∀ {G : Globs} {A : Fr} {m : Mem} {n0 : Nat} {x : Opd}, floatV n0 G (.lenStr x) A m = okE m (lnsE (opd A x))) ∧
    (∀ {G : Globs} {A : Fr} {m : Mem} {x : Opd}, evVal G (.lenSl x) A m = okE m (lnbE (opd A x))) ∧
    (∀ {G : Globs} {A : Fr} {m : Mem} {n0 : Nat} {x : Opd}, floatV n0 G (.lenSl x) A m = okE m (lnbE (opd A x))) ∧
    (∀ {G : Globs} {A : Fr} {m : Mem} {x : Opd}, evVal G (.capSl x) A m = okE m (capE (opd A x))) ∧
    (∀ {G : Globs} {A : Fr} {m : Mem} {n0 : Nat} {x : Opd}, floatV n0 G (.capSl x) A m = okE m (capE (opd A x))) ∧
    (∀ {G : Globs} {A : Fr} {m : Mem} {mx : Bool} {x y : Opd}, evVal G (.minmax mx x y) A m = okE m (mmE mx (opd A x) (opd A y))) ∧
    (∀ {G : Globs} {A : Fr} {m : Mem} {n0 : Nat} {mx : Bool} {x y : Opd}, floatV n0 G (.minmax mx x y) A m = okE m (mmE mx (opd A x) (opd A y))) ∧
    (∀ {G : Globs} {A : Fr} {m : Mem} {t : TypeId} {z : EV} {x : Opd} {ok : Bool}, evVal G (.assert t z x ok) A m = okE m (asrE t z ok (opd A x))) ∧
    (∀ {G : Globs} {A : Fr} {m : Mem} {n0 : Nat} {t : TypeId} {z : EV} {x : Opd} {ok : Bool}, floatV n0 G (.assert t z x ok) A m = okE m (asrE t z ok (opd A x))) ∧
    (∀ {G : Globs} {A : Fr} {m : Mem} {k : FloatKind} {x : Opd}, evVal G (.toFlt k x) A m = okE m (tofE k (opd A x))) ∧
    (∀ {G : Globs} {A : Fr} {m : Mem} {n0 : Nat} {k : FloatKind} {x : Opd}, floatV n0 G (.toFlt k x) A m = okE m (tofE k (opd A x))) ∧
    (∀ {G : Globs} {A : Fr} {m : Mem} {k : IntKind} {x : Opd}, evVal G (.fltInt k x) A m = okE m (frfE k (opd A x))) ∧
    (∀ {G : Globs} {A : Fr} {m : Mem} {n0 : Nat} {k : IntKind} {x : Opd}, floatV n0 G (.fltInt k x) A m = okE m (frfE k (opd A x))) ∧
    (∀ {G : Globs} {A : Fr} {m : Mem} {n : Option Nat} {a : Opd}, evVal G (.load n a) A m = okE m (ldE G m n (opd A a))) ∧
    (∀ {G : Globs} {A : Fr} {m : Mem} {n : Nat} {a x : Opd}, evVal G (.store n a x) A m = stE m n (opd A a) (opd A x)) ∧
    (∀ {G : Globs} {A : Fr} {m : Mem} {x : Opd}, evVal G (.toStr x) A m = okE m (tosE G m (opd A x))) ∧
    (∀ {G : Globs} {A : Fr} {m : Mem} {n0 : Nat} {n : Option Nat} {a : Opd}, floatV n0 G (.load n a) A m = okE m (ldF n0 G m n (opd A a))) ∧
    (∀ {G : Globs} {A : Fr} {m : Mem} {n0 : Nat} {x : Opd}, floatV n0 G (.toStr x) A m = okE m (tosF n0 G m (opd A x))) ∧
    (∀ {G : Globs} {A : Fr} {m : Mem} {z : List EV}, evVal G (.new z) A m = newB m (.cells z 0 true) (.ptr (some ⟨.mem m.bl.length 0, 0⟩))) ∧
    (∀ {G : Globs} {A : Fr} {m : Mem} {gen : Nat} {z : List EV}, evVal G (.newT gen z) A m = newB m (.cells z gen true) (.ptr (some ⟨.mem m.bl.length gen, 0⟩))) ∧
    (∀ {G : Globs} {A : Fr} {m : Mem} {n : Nat} {x : Opd}, evVal G (.box n x) A m = boxE m n (opd A x)) ∧
    (∀ {G : Globs} {A : Fr} {m : Mem} {len esz : Nat} {z : List EV} {ps : List (Nat × Nat × Opd)}, evVal G (.mklit len esz z ps) A m = litE m len esz (fillE z (parts A ps))) ∧
    (∀ {G : Globs} {A : Fr} {m : Mem} {esz bytes : Nat} {z : List EV} {l c : Opd}, evVal G (.mkSlice esz bytes z l c) A m = mksE m esz bytes z (opd A l) (opd A c)) ∧
    (∀ {G : Globs} {A : Fr} {m : Mem} {x : Opd}, evVal G (.toBytes x) A m = tobE m (opd A x)) ∧
    (∀ {G : Globs} {A : Fr} {m : Mem} , evVal G .mkMap A m = newB m (.map [] 0) (.map (some m.bl.length))) ∧
    (∀ {G : Globs} {A : Fr} {m : Mem} {esz bytes tag : Nat} {x y : Opd}, evVal G (.append esz bytes tag x y) A m = appE G m esz bytes tag (opd A x) (srcCells G m esz (opd A y))) ∧
    (∀ {G : Globs} {A : Fr} {m : Mem} {x : Opd}, evVal G (.sliceData x) A m = okE m (sldE (opd A x))) ∧
    (∀ {G : Globs} {A : Fr} {m : Mem} {n0 : Nat} {x : Opd}, floatV n0 G (.sliceData x) A m = okE m (sldE (opd A x))) ∧
    (∀ {G : Globs} {A : Fr} {m : Mem} {x : Opd}, evVal G (.unsafeTo x) A m = ustE m (opd A x)) ∧
    (∀ {G : Globs} {A : Fr} {m : Mem} {gt n : Nat} {x : Opd}, evVal G (.unsafeFrom gt n x) A m = usfE m gt n (opd A x)) ∧
    (∀ {G : Globs} {A : Fr} {m : Mem} {neg : Bool} {x y : Opd}, evVal G (.ptrEq neg x y) A m = ptqE m neg (opd A x) (opd A y)) ∧
    (∀ {G : Globs} {A : Fr} {m : Mem} {gt : Nat} {x n : Opd}, evVal G (.unsafeStr gt x n) A m = unsE G m gt (opd A x) (opd A n)) ∧
    (∀ {G : Globs} {A : Fr} {m : Mem} {n esz : Nat} {x : Opd} {lo hi : Option Opd}, evVal G (.slArr n esz x lo hi) A m = okE m (saE G m n esz (opd A x) (optV A lo) (optV A hi))) ∧
    (∀ {G : Globs} {A : Fr} {m : Mem} {n0 n esz : Nat} {x : Opd} {lo hi : Option Opd}, floatV n0 G (.slArr n esz x lo hi) A m = okE m (saF n0 G m n esz (opd A x) (optV A lo) (optV A hi))) ∧
    (∀ {G : Globs} {A : Fr} {m : Mem} {esz : Nat} {x y : Opd}, evVal G (.copy esz x y) A m = cpE m esz (opd A x) (srcCells G m esz (opd A y))) ∧
    (∀ {G : Globs} {A : Fr} {m : Mem} {z : List EV} {x : Opd}, evVal G (.clear z x) A m = clrE m z (opd A x)) ∧
    (∀ {G : Globs} {A : Fr} {m : Mem} {q : List Nat} {z : EV} {x k : Opd} {ok : Bool}, evVal G (.lookup q z x k ok) A m = lkE m q z ok (opd A x) (opd A k)) ∧
    (∀ {G : Globs} {A : Fr} {m : Mem} {q : List Nat} {x k v : Opd}, evVal G (.mapSet q x k v) A m = msE m q (opd A x) (opd A k) (opd A v)) ∧
    (∀ {G : Globs} {A : Fr} {m : Mem} {x : Opd}, evVal G (.mark x) A m = mkE m (opd A x)) ∧
    (∀ {n c e : Nat}, sldE (.slice none n c e) = some (.ptr none)) ∧
    (∀ {a : Ad} {n c e : Nat}, sldE (.slice (some a) n c e) = if c = 0 then none else some (.ptr (some a))) ∧
    (∀ {m : Mem}, ustE m (.ptr none) = some (.ptr none, m)) ∧
    (∀ {m : Mem} {neg : Bool} {b : Option Ad}, ptqE m neg (.ptr none) (.ptr b) = some (.bool (if neg = true then !b.isNone else b.isNone), m)) ∧
    (∀ {m : Mem} {neg : Bool} {a : Ad}, ptqE m neg (.ptr (some a)) (.ptr none) = some (.bool neg, m)) ∧
    (∀ {m : Mem} {n : Nat} {cs : List EV}, boxE m n (.agg cs) = if cs.length = n then newB m (.cells cs 0 true) (.ptr (some ⟨.mem m.bl.length 0, 0⟩)) else none) ∧
    (∀ {m : Mem} {b : Bool}, boxE m 1 (.bool b) = newB m (.cells [.bool b] 0 true) (.ptr (some ⟨.mem m.bl.length 0, 0⟩))) ∧
    (∀ {m : Mem} {k : IntKind} {z : Int}, boxE m 1 (.int k z) = newB m (.cells [.int k z] 0 true) (.ptr (some ⟨.mem m.bl.length 0, 0⟩))) ∧
    (∀ {m : Mem} {t : List UInt8}, boxE m 1 (.str t) = newB m (.cells [.str t] 0 true) (.ptr (some ⟨.mem m.bl.length 0, 0⟩))) ∧
    (∀ {m : Mem} {b : Option Ad}, boxE m 1 (.ptr b) = newB m (.cells [.ptr b] 0 true) (.ptr (some ⟨.mem m.bl.length 0, 0⟩))) ∧
    (∀ {m : Mem} {b : Option Ad} {l c e : Nat}, boxE m 1 (.slice b l c e) = newB m (.cells [.slice b l c e] 0 true) (.ptr (some ⟨.mem m.bl.length 0, 0⟩))) ∧
    (∀ {m : Mem} {f : FuncId} {cap : List EV}, boxE m 1 (.func f cap) = newB m (.cells [.func f cap] 0 true) (.ptr (some ⟨.mem m.bl.length 0, 0⟩))) ∧
    (∀ {m : Mem} , boxE m 1 (.nilFunc) = newB m (.cells [.nilFunc] 0 true) (.ptr (some ⟨.mem m.bl.length 0, 0⟩))) ∧
    (∀ {m : Mem} {t : TypeId} {v : EV}, boxE m 1 (.iface t v) = newB m (.cells [.iface t v] 0 true) (.ptr (some ⟨.mem m.bl.length 0, 0⟩))) ∧
    (∀ {m : Mem} , boxE m 1 (.nilIface) = newB m (.cells [.nilIface] 0 true) (.ptr (some ⟨.mem m.bl.length 0, 0⟩))) ∧
    (∀ {m : Mem} {len esz : Nat} {cs : List EV}, litE m len esz (some cs) = newB m (.cells cs 0 true) (.slice (some ⟨.mem m.bl.length 0, 0⟩) len len esz)) ∧
    (∀ {m : Mem} {esz bytes : Nat} {z : List EV} {l c : Int}, mksE m esz bytes z (.int .i64 l) (.int .i64 c) = if 0 ≤ l ∧ l ≤ c ∧ bytes * c ≤ 281474976710656 then newB m (.cells (repE c.toNat z) 0 true) (.slice (some ⟨.mem m.bl.length 0, 0⟩) l.toNat c.toNat esz) else none) ∧
    (∀ {m : Mem} {t : List UInt8}, tobE m (.str t) = newB m (.cells (bytesE t) 0 true) (.slice (some ⟨.mem m.bl.length 0, 0⟩) t.length t.length 1)) ∧
    (∀ {G : Globs} {m : Mem} {esz bytes tag n : Nat} {x : EV} {new : List EV}, appE G m esz bytes tag x (some (new, n)) = appendE G m esz bytes tag x new n) ∧
    (∀ {G : Globs} {m : Mem} {s : List UInt8}, srcCells G m 1 (.str s) = some (bytesE s, s.length)) ∧
    (∀ {G : Globs} {m : Mem} {e n c z : Nat}, srcCells G m e (.slice none n c z) = some ([], 0)) ∧
    (∀ {G : Globs} {m : Mem} {a : Ad} {e n c z : Nat}, srcCells G m e (.slice (some a) n c z) = (m.getN G a (n * e)).map (fun cs => (cs, n))) :=
  ⟨ev_mov,
   floatV_calm rfl ev_mov,
   ev_pick,
   floatV_calm rfl ev_pick,
   ev_nilchk,
   floatV_calm rfl ev_nilchk,
   ev_bin,
   floatV_calm rfl ev_bin,
   ev_isnil,
   floatV_calm rfl ev_isnil,
   ev_un,
   floatV_calm rfl ev_un,
   ev_toInt,
   floatV_calm rfl ev_toInt,
   ev_same,
   floatV_calm rfl ev_same,
   ev_mkIface,
   floatV_calm rfl ev_mkIface,
   ev_mkFunc,
   floatV_calm rfl ev_mkFunc,
   ev_build,
   floatV_calm rfl ev_build,
   ev_slStr,
   floatV_calm rfl ev_slStr,
   ev_sl,
   floatV_calm rfl ev_sl,
   ev_fldAddr,
   floatV_calm rfl ev_fldAddr,
   ev_fld,
   floatV_calm rfl ev_fld,
   ev_ixAddrArr,
   floatV_calm rfl ev_ixAddrArr,
   ev_ixAddr,
   floatV_calm rfl ev_ixAddr,
   ev_ixArr,
   floatV_calm rfl ev_ixArr,
   ev_ixStr,
   floatV_calm rfl ev_ixStr,
   ev_ext,
   floatV_calm rfl ev_ext,
   ev_lenStr,
   floatV_calm rfl ev_lenStr,
   ev_lenSl,
   floatV_calm rfl ev_lenSl,
   ev_capSl,
   floatV_calm rfl ev_capSl,
   ev_minmax,
   floatV_calm rfl ev_minmax,
   ev_assert,
   floatV_calm rfl ev_assert,
   ev_toFlt,
   floatV_calm rfl ev_toFlt,
   ev_fltInt,
   floatV_calm rfl ev_fltInt,
   ev_load,
   ev_store,
   ev_toStr,
   fv_load,
   fv_toStr,
   ev_new,
   ev_newT,
   ev_box,
   ev_mklit,
   ev_mkSlice,
   ev_toBytes,
   ev_mkMap,
   ev_append,
   ev_sliceData,
   floatV_calm rfl ev_sliceData,
   ev_unsafeTo,
   ev_unsafeFrom,
   ev_ptrEq,
   ev_unsafeStr,
   ev_slArr,
   fv_slArr,
   ev_copy,
   ev_clear,
   ev_lookup,
   ev_mapSet,
   ev_mark,
   rfl,
   sld_some,
   rfl,
   rfl,
   rfl,
   by intro m n cs; simp only [boxE, EV.cells, single, and_true],
   rfl,
   rfl,
   rfl,
   rfl,
   rfl,
   rfl,
   rfl,
   rfl,
   rfl,
   rfl,
   rfl,
   rfl,
   rfl,
   rfl,
   rfl,
   rfl⟩

theorem vv :
    (∀ {A : Fr} {t : Nat}, opd A (.tmp t) = A t) ∧
    (∀ {A : Fr} {v : EV}, opd A (.con v) = v) ∧
    (∀ {A : Fr} {g : Nat}, opd A (.glob g) = .ptr (some ⟨.glob g, 0⟩)) ∧
    (∀ {A : Fr} {f : FuncId}, opd A (.fn f) = .func f []) ∧
    (∀ {A : Fr} {t : Nat} {v : EV} {i : Nat}, upd A t v i = if i = t then v else A i) ∧
    (∀ {a : EV} {l : List EV}, argsE (a :: l) 0 = a) ∧
    (∀ {a : EV} {l : List EV} {n : Nat}, argsE (a :: l) (n + 1) = argsE l n) ∧
    (∀ {A : Fr}, wantedE A none = true) ∧
    (∀ {A : Fr} {j : Nat} {w : Bool}, wantedE A (some (j, w)) = wantV w (A j)) ∧
    (∀ {w b : Bool}, wantV w (.bool b) = (b == w)) ∧
    (∀ {w : Bool}, wantV w undefE = false) ∧
    (∀ {w c u : Bool}, wantV w (if c = true then EV.bool u else undefE) = (c && (u == w))) ∧
    (∀ {A : Fr}, optV A none = none) ∧
    (∀ {A : Fr} {x : Opd}, optV A (some x) = some (opd A x)) ∧
    (∀ {A : Fr}, parts A [] = []) ∧
    (∀ {A : Fr} {o n : Nat} {x : Opd} {l : List (Nat × Nat × Opd)}, parts A ((o, n, x) :: l) = (o, n, opd A x) :: parts A l) ∧
    (∀ {t : Bool} {a b : EV}, pickE (.bool t) a b = some (if t = true then a else b)) ∧
    (∀ {G : Globs} {m : Mem} {a : Ad}, ldE G m none (.ptr (some a)) = m.get G a) ∧
    (∀ {G : Globs} {m : Mem} {n : Nat} {a : Ad}, ldE G m (some n) (.ptr (some a)) = (m.getN G a n).map .agg) ∧
    (∀ {n0 : Nat} {G : Globs} {m : Mem} {n : Option Nat} {a : Ad}, ldF n0 G m n (.ptr (some a)) = if oldAd n0 a = true then ldE G m n (.ptr (some a)) else none) ∧
    (∀ {n0 : Nat} {G : Globs} {m : Mem} {n esz : Nat} {a : Ad} {lo hi : Option EV}, saF n0 G m n esz (.ptr (some a)) lo hi = if oldAd n0 a = true then saE G m n esz (.ptr (some a)) lo hi else none) ∧
    (∀ {m : Mem} {n : Nat} {a : Ad} {cs : List EV}, stE m n (.ptr (some a)) (.agg cs) = if cs.length = n then (m.putN a cs).map (fun m => (undefE, m)) else none) ∧
    (∀ {m : Mem} {a : Ad} {b : Bool}, stE m 1 (.ptr (some a)) (.bool b) = (m.put1 a (.bool b)).map (fun m => (undefE, m))) ∧
    (∀ {cs : List EV} {off : Nat} {r : List (Nat × Nat × EV)} {b : Bool}, fillE cs ((off, 1, .bool b) :: r) = if off + 1 ≤ cs.length then fillE (cs.set off (.bool b)) r else none) ∧
    (∀ {m : Mem} {a : Ad} {k : IntKind} {z : Int}, stE m 1 (.ptr (some a)) (.int k z) = (m.put1 a (.int k z)).map (fun m => (undefE, m))) ∧
    (∀ {cs : List EV} {off : Nat} {r : List (Nat × Nat × EV)} {k : IntKind} {z : Int}, fillE cs ((off, 1, .int k z) :: r) = if off + 1 ≤ cs.length then fillE (cs.set off (.int k z)) r else none) ∧
    (∀ {m : Mem} {a : Ad} {k : FloatKind} {z : Nat}, stE m 1 (.ptr (some a)) (.flt k z) = (m.put1 a (.flt k z)).map (fun m => (undefE, m))) ∧
    (∀ {cs : List EV} {off : Nat} {r : List (Nat × Nat × EV)} {k : FloatKind} {z : Nat}, fillE cs ((off, 1, .flt k z) :: r) = if off + 1 ≤ cs.length then fillE (cs.set off (.flt k z)) r else none) ∧
    (∀ {m : Mem} {a : Ad} {t : List UInt8}, stE m 1 (.ptr (some a)) (.str t) = (m.put1 a (.str t)).map (fun m => (undefE, m))) ∧
    (∀ {cs : List EV} {off : Nat} {r : List (Nat × Nat × EV)} {t : List UInt8}, fillE cs ((off, 1, .str t) :: r) = if off + 1 ≤ cs.length then fillE (cs.set off (.str t)) r else none) ∧
    (∀ {m : Mem} {a : Ad} {b : Option Ad}, stE m 1 (.ptr (some a)) (.ptr b) = (m.put1 a (.ptr b)).map (fun m => (undefE, m))) ∧
    (∀ {cs : List EV} {off : Nat} {r : List (Nat × Nat × EV)} {b : Option Ad}, fillE cs ((off, 1, .ptr b) :: r) = if off + 1 ≤ cs.length then fillE (cs.set off (.ptr b)) r else none) ∧
    (∀ {m : Mem} {a : Ad} {b : Option Ad} {l c e : Nat}, stE m 1 (.ptr (some a)) (.slice b l c e) = (m.put1 a (.slice b l c e)).map (fun m => (undefE, m))) ∧
    (∀ {cs : List EV} {off : Nat} {r : List (Nat × Nat × EV)} {b : Option Ad} {l c e : Nat}, fillE cs ((off, 1, .slice b l c e) :: r) = if off + 1 ≤ cs.length then fillE (cs.set off (.slice b l c e)) r else none) ∧
    (∀ {m : Mem} {a : Ad} {b : Option Nat}, stE m 1 (.ptr (some a)) (.map b) = (m.put1 a (.map b)).map (fun m => (undefE, m))) ∧
    (∀ {cs : List EV} {off : Nat} {r : List (Nat × Nat × EV)} {b : Option Nat}, fillE cs ((off, 1, .map b) :: r) = if off + 1 ≤ cs.length then fillE (cs.set off (.map b)) r else none) ∧
    (∀ {m : Mem} {a : Ad} {f : FuncId} {cap : List EV}, stE m 1 (.ptr (some a)) (.func f cap) = (m.put1 a (.func f cap)).map (fun m => (undefE, m))) ∧
    (∀ {cs : List EV} {off : Nat} {r : List (Nat × Nat × EV)} {f : FuncId} {cap : List EV}, fillE cs ((off, 1, .func f cap) :: r) = if off + 1 ≤ cs.length then fillE (cs.set off (.func f cap)) r else none) ∧
    (∀ {m : Mem} {a : Ad} , stE m 1 (.ptr (some a)) (.nilFunc) = (m.put1 a (.nilFunc)).map (fun m => (undefE, m))) ∧
    (∀ {cs : List EV} {off : Nat} {r : List (Nat × Nat × EV)} , fillE cs ((off, 1, .nilFunc) :: r) = if off + 1 ≤ cs.length then fillE (cs.set off (.nilFunc)) r else none) ∧
    (∀ {m : Mem} {a : Ad} {t : TypeId} {v : EV}, stE m 1 (.ptr (some a)) (.iface t v) = (m.put1 a (.iface t v)).map (fun m => (undefE, m))) ∧
    (∀ {cs : List EV} {off : Nat} {r : List (Nat × Nat × EV)} {t : TypeId} {v : EV}, fillE cs ((off, 1, .iface t v) :: r) = if off + 1 ≤ cs.length then fillE (cs.set off (.iface t v)) r else none) ∧
    (∀ {m : Mem} {a : Ad} , stE m 1 (.ptr (some a)) (.nilIface) = (m.put1 a (.nilIface)).map (fun m => (undefE, m))) ∧
    (∀ {cs : List EV} {off : Nat} {r : List (Nat × Nat × EV)} , fillE cs ((off, 1, .nilIface) :: r) = if off + 1 ≤ cs.length then fillE (cs.set off (.nilIface)) r else none) ∧
    (∀ {cs : List EV}, fillE cs [] = some cs) ∧
    (∀ {cs ds : List EV} {off n : Nat} {r : List (Nat × Nat × EV)}, fillE cs ((off, n, .agg ds) :: r) = if ds.length = n ∧ off + n ≤ cs.length then fillE (splice cs off ds) r else none) ∧
    (∀ {z : List EV} {l : List (Nat × Nat × EV)}, blE z l = (fillE z l).map .agg) ∧
    (∀ {cs : List EV} {off : Nat} {vs : List EV}, splice cs off vs = cs.take off ++ vs ++ cs.drop (off + vs.length)) ∧
    (∀ {a : Ad}, nchE (.ptr (some a)) = some (.ptr (some a))) ∧
    (∀ {f : FuncId} {c : List EV}, nchE (.func f c) = some (.func f c)) ∧
    (∀ {q : List Nat} {k : IntKind} {a b : Int}, binE .add q (.int k a) (.int k b) = some (.int k (k.wrap (a + b)))) ∧
    (∀ {q : List Nat} {k : IntKind} {a b : Int}, binE .sub q (.int k a) (.int k b) = some (.int k (k.wrap (a - b)))) ∧
    (∀ {q : List Nat} {k : IntKind} {a b : Int}, binE .mul q (.int k a) (.int k b) = some (.int k (k.wrap (a * b)))) ∧
    (∀ {q : List Nat} {k : IntKind} {a b : Int}, binE .quo q (.int k a) (.int k b) = if b = 0 then none else some (.int k (k.wrap (a.tdiv b)))) ∧
    (∀ {q : List Nat} {k : IntKind} {a b : Int}, binE .rem q (.int k a) (.int k b) = if b = 0 then none else some (.int k (a.tmod b))) ∧
    (∀ {q : List Nat} {k : IntKind} {a b : Int}, binE .and q (.int k a) (.int k b) = some (.int k (bitsE .and k a b))) ∧
    (∀ {q : List Nat} {k : IntKind} {a b : Int}, binE .or q (.int k a) (.int k b) = some (.int k (bitsE .or k a b))) ∧
    (∀ {q : List Nat} {k : IntKind} {a b : Int}, binE .xor q (.int k a) (.int k b) = some (.int k (bitsE .xor k a b))) ∧
    (∀ {q : List Nat} {k : IntKind} {a b : Int}, binE .andNot q (.int k a) (.int k b) = some (.int k (bitsE .andNot k a b))) ∧
    (∀ {q : List Nat} {k : IntKind} {a b : Int}, binE .eql q (.int k a) (.int k b) = some (.bool (a == b))) ∧
    (∀ {q : List Nat} {k : IntKind} {a b : Int}, binE .neq q (.int k a) (.int k b) = some (.bool (a != b))) ∧
    (∀ {q : List Nat} {k : IntKind} {a b : Int}, binE .lss q (.int k a) (.int k b) = some (.bool (decide (a < b)))) ∧
    (∀ {q : List Nat} {k : IntKind} {a b : Int}, binE .leq q (.int k a) (.int k b) = some (.bool (decide (a ≤ b)))) ∧
    (∀ {q : List Nat} {k : IntKind} {a b : Int}, binE .gtr q (.int k a) (.int k b) = some (.bool (decide (b < a)))) ∧
    (∀ {q : List Nat} {k : IntKind} {a b : Int}, binE .geq q (.int k a) (.int k b) = some (.bool (decide (b ≤ a)))) ∧
    (∀ {q : List Nat} {k k2 : IntKind} {a b : Int}, binE .shl q (.int k a) (.int k2 b) = shiftE .shl k a b) ∧
    (∀ {q : List Nat} {k k2 : IntKind} {a b : Int}, binE .shr q (.int k a) (.int k2 b) = shiftE .shr k a b) ∧
    (∀ {q : List Nat} {a b : List UInt8}, binE .add q (.str a) (.str b) = if a.length + b.length ≤ 9223372036854775807 then some (.str (a ++ b)) else none) ∧
    (∀ {q : List Nat} {a b : List UInt8}, binE .eql q (.str a) (.str b) = some (.bool (a == b))) ∧
    (∀ {q : List Nat} {a b : List UInt8}, binE .neq q (.str a) (.str b) = some (.bool !(a == b))) ∧
    (∀ {q : List Nat} {a b : List UInt8}, binE .lss q (.str a) (.str b) = some (.bool (Op.bytesLess a b))) ∧
    (∀ {q : List Nat} {a b : List UInt8}, binE .leq q (.str a) (.str b) = some (.bool (Op.bytesLess a b || a == b))) ∧
    (∀ {q : List Nat} {a b : List UInt8}, binE .gtr q (.str a) (.str b) = some (.bool !(Op.bytesLess a b || a == b))) ∧
    (∀ {q : List Nat} {a b : List UInt8}, binE .geq q (.str a) (.str b) = some (.bool !(Op.bytesLess a b))) ∧
    (∀ {a b : Bool}, binE .eql [9] (.bool a) (.bool b) = some (.bool (a == b))) ∧
    (∀ {a b : Bool}, binE .neq [9] (.bool a) (.bool b) = some (.bool !(a == b))) ∧
    (∀ {q : List Nat} {a b : List EV}, binE .eql q (.agg a) (.agg b) = (eqCells q a b).map .bool) ∧
    (∀ {q : List Nat} {a b : List EV}, binE .neq q (.agg a) (.agg b) = (eqCells q a b).map (fun b => .bool !b)) ∧
    (∀ {op : BinOp} {q : List Nat} {k : FloatKind} {a b : Nat}, binE op q (.flt k a) (.flt k b) = binFlt op k a b) ∧
    (eqCells [] [] [] = some true) ∧
    (∀ {ks : List Nat} {a b : Bool} {x y : List EV}, eqCells (1 :: ks) (.bool a :: x) (.bool b :: y) = (eqCells ks x y).map (fun r => (a == b) && r)) ∧
    (∀ {ks : List Nat} {k : IntKind} {a b : Int} {x y : List EV}, eqCells (2 :: ks) (.int k a :: x) (.int k b :: y) = (eqCells ks x y).map (fun r => (a == b) && r)) ∧
    (∀ {ks : List Nat} {a b : List UInt8} {x y : List EV}, eqCells (3 :: ks) (.str a :: x) (.str b :: y) = (eqCells ks x y).map (fun r => (a == b) && r)) ∧
    (∀ {b : Bool}, isnE true (some b) = some (.bool !b)) ∧
    (∀ {b : Bool}, isnE false (some b) = some (.bool b)) ∧
    (∀ {a : Option Ad}, isNil 1 (.ptr a) = some a.isNone) ∧
    (∀ {a : Option Ad} {l c e : Nat}, isNil 2 (.slice a l c e) = some a.isNone) ∧
    (∀ {r : Option Nat}, isNil 3 (.map r) = some r.isNone) ∧
    (∀ {f : FuncId} {c : List EV}, isNil 4 (.func f c) = some false) ∧
    (isNil 4 .nilFunc = some true) ∧
    (∀ {t : TypeId} {v : EV}, isNil 5 (.iface t v) = some false) ∧
    (isNil 5 .nilIface = some true) ∧
    (∀ {k : IntKind} {n : Int}, unE .neg (.int k n) = some (.int k (k.wrap (0 - n)))) ∧
    (∀ {b : Bool}, unE .not (.bool b) = some (.bool !b)) ∧
    (∀ {k k2 : IntKind} {n : Int}, toIntE k (.int k2 n) = some (.int k (k.wrap n))) ∧
    (∀ {t : List UInt8}, sameE (.str t) = some (.str t)) ∧
    (∀ {G : Globs} {m : Mem} {n c e : Nat}, tosE G m (.slice none n c e) = some (.str [])) ∧
    (∀ {G : Globs} {m : Mem} {a : Ad} {n c e : Nat}, tosE G m (.slice (some a) n c e) = ((m.getN G a n).bind strE).map (fun t => .str t)) ∧
    (∀ {n0 : Nat} {G : Globs} {m : Mem} {n c e : Nat}, tosF n0 G m (.slice none n c e) = some (.str [])) ∧
    (∀ {n0 : Nat} {G : Globs} {m : Mem} {a : Ad} {n c e : Nat}, tosF n0 G m (.slice (some a) n c e) = if oldAd n0 a = true then ((m.getN G a n).bind strE).map (fun t => .str t) else none) ∧
    (∀ {s : List UInt8}, strE (bytesE s) = some s) ∧
    (∀ {t : List UInt8}, slsE (.str t) none none = some (.str t)) ∧
    (∀ {t : List UInt8} {k : IntKind} {l : Int}, slsE (.str t) (some (.int k l)) none = if 0 ≤ l ∧ l ≤ t.length then some (.str (t.drop l.toNat)) else none) ∧
    (∀ {t : List UInt8} {k : IntKind} {h : Int}, slsE (.str t) none (some (.int k h)) = if 0 ≤ h ∧ h ≤ t.length then some (.str (t.take h.toNat)) else none) ∧
    (∀ {t : List UInt8} {k k2 : IntKind} {l h : Int}, slsE (.str t) (some (.int k l)) (some (.int k2 h)) = if 0 ≤ l ∧ l ≤ h ∧ h ≤ t.length then some (.str ((t.drop l.toNat).take (h.toNat - l.toNat))) else none) ∧
    (∀ {e : Nat} {a : Ad} {n c : Nat}, slE e (.slice (some a) n c e) none none = if n ≤ c then some (.slice (some a) n c e) else none) ∧
    (∀ {e : Nat} {a : Ad} {n c : Nat} {k : IntKind} {l : Int}, slE e (.slice (some a) n c e) (some (.int k l)) none = if 0 ≤ l ∧ l ≤ n ∧ n ≤ c then some (.slice (some (a.plus (l.toNat * e))) (n - l.toNat) (c - l.toNat) e) else none) ∧
    (∀ {e : Nat} {a : Ad} {n c : Nat} {k : IntKind} {h : Int}, slE e (.slice (some a) n c e) none (some (.int k h)) = if 0 ≤ h ∧ h ≤ c then some (.slice (some a) h.toNat c e) else none) ∧
    (∀ {e : Nat} {a : Ad} {n c : Nat} {k k2 : IntKind} {l h : Int}, slE e (.slice (some a) n c e) (some (.int k l)) (some (.int k2 h)) = if 0 ≤ l ∧ l ≤ h ∧ h ≤ c then some (.slice (some (a.plus (l.toNat * e))) (h.toNat - l.toNat) (c - l.toNat) e) else none) ∧
    (∀ {off : Nat} {a : Ad}, faE off (.ptr (some a)) = some (.ptr (some (a.plus off)))) ∧
    (∀ {off : Nat} {n : Option Nat} {cs : List EV}, fldE off n (.agg cs) = partE cs off n) ∧
    (∀ {cs : List EV} {off : Nat}, partE cs off none = cs[off]?) ∧
    (∀ {cs : List EV} {off n : Nat}, partE cs off (some n) = if off + n ≤ cs.length then some (.agg ((cs.drop off).take n)) else none) ∧
    (∀ {len esz : Nat} {a : Ad} {k : IntKind} {i : Int}, ixaE len esz (.ptr (some a)) (.int k i) = if 0 ≤ i ∧ i < len then some (.ptr (some (a.plus (i.toNat * esz)))) else none) ∧
    (∀ {esz : Nat} {a : Ad} {len c e : Nat} {k : IntKind} {i : Int}, ixbE esz (.slice (some a) len c e) (.int k i) = if 0 ≤ i ∧ i < len then some (.ptr (some (a.plus (i.toNat * esz)))) else none) ∧
    (∀ {len esz : Nat} {n : Option Nat} {cs : List EV} {k : IntKind} {i : Int}, ixcE len esz n (.agg cs) (.int k i) = if 0 ≤ i ∧ i < len then partE cs (i.toNat * esz) n else none) ∧
    (∀ {t : List UInt8} {k : IntKind} {i : Int}, ixsE (.str t) (.int k i) = if 0 ≤ i then (t[i.toNat]?).map byteE else none) ∧
    (∀ {b : UInt8}, byteE b = .int .u8 b.toNat) ∧
    (∀ {i : Nat} {vs : List EV}, extE i (.tuple vs) = vs[i]?) ∧
    (∀ {t : List UInt8}, lnsE (.str t) = some (.int .i64 t.length)) ∧
    (∀ {a : Option Ad} {n c e : Nat}, lnbE (.slice a n c e) = some (.int .i64 n)) ∧
    (∀ {n c e : Nat}, capE (.slice none n c e) = some (.int .i64 0)) ∧
    (∀ {mx : Bool} {k : IntKind} {a b : Int}, mmE mx (.int k a) (.int k b) = some (.int k (if mx = true then (if a < b then b else a) else (if b < a then b else a)))) ∧
    (∀ {t : TypeId} {z v : EV}, asrE t z true (.iface t v) = some (.tuple [v, .bool true])) ∧
    (∀ {t : TypeId} {z v : EV}, asrE t z false (.iface t v) = some v) ∧
    (∀ {t : TypeId} {z : EV}, asrE t z true .nilIface = some (.tuple [z, .bool false])) ∧
    (∀ {k : FloatKind} {i : IntKind} {n : Int}, tofE k (.int i n) = some (.flt k (k.nearest n))) ∧
    (∀ {G : Globs} {A : Fr} {m : Mem}, resultsE G A m [] = some []) ∧
    (∀ {G : Globs} {A : Fr} {m : Mem} {t : Nat} {rs : List ERes}, resultsE G A m (.tmp t :: rs) = (resultsE G A m rs).map (fun l => A t :: l)) ∧
    (∀ {G : Globs} {A : Fr} {m : Mem} {a : Nat} {n : Option Nat} {rs : List ERes}, resultsE G A m (.cell a n :: rs) = (ldE G m n (A a)).bind (fun v => (resultsE G A m rs).map (fun l => v :: l))) ∧
    (∀ {v : EV}, oneE [v] = v) ∧
    (oneE [] = .tuple []) ∧
    (∀ {v w : EV} {l : List EV}, oneE (v :: w :: l) = .tuple (v :: w :: l)) ∧
    (∀ {n : Nat} {b : Bool}, noref n (.bool b) = true) ∧
    (∀ {n : Nat} {k : IntKind} {z : Int}, noref n (.int k z) = true) ∧
    (∀ {n : Nat} {k : FloatKind} {z : Nat}, noref n (.flt k z) = true) ∧
    (∀ {n : Nat} {t : List UInt8}, noref n (.str t) = true) ∧
    (∀ {n : Nat} , noref n (.ptr none) = true) ∧
    (∀ {n : Nat} {l c e : Nat}, noref n (.slice none l c e) = true) ∧
    (∀ {n : Nat} , noref n (.map none) = true) ∧
    (∀ {n : Nat} , noref n (.nilFunc) = true) ∧
    (∀ {n : Nat} , noref n (.nilIface) = true) ∧
    (∀ {n : Nat} {cs : List EV}, noref n (.agg cs) = norefs n cs) ∧
    (∀ {n : Nat} {cs : List EV}, noref n (.tuple cs) = norefs n cs) ∧
    (∀ {n : Nat} {t : TypeId} {v : EV}, noref n (.iface t v) = noref n v) ∧
    (∀ {n : Nat} {f : FuncId} {cs : List EV}, noref n (.func f cs) = norefs n cs) ∧
    (∀ {n : Nat}, norefs n [] = true) ∧
    (∀ {n : Nat} {v : EV} {cs : List EV}, norefs n (v :: cs) = (noref n v && norefs n cs)) ∧
    (∀ {n : Nat} {a : Ad}, noref n (.ptr (some a)) = oldAd n a) ∧
    (∀ {n : Nat} {a : Ad} {l c e : Nat}, noref n (.slice (some a) l c e) = oldAd n a) ∧
    (∀ {a b : Bool}, (EV.bool a = EV.bool b) = (a = b)) ∧
    (∀ {k : IntKind} {a b : Int}, (EV.int k a = EV.int k b) = (a = b)) ∧
    (∀ {a b : List UInt8}, (EV.str a = EV.str b) = (a = b)) ∧
    (∀ {a b : List EV}, (EV.tuple a = EV.tuple b) = (a = b)) ∧
    (∀ {a b : List EV}, (EV.agg a = EV.agg b) = (a = b)) ∧
    (∀ {a b : EV} {l k : List EV}, (a :: l = b :: k) = (a = b ∧ l = k)) ∧
    (∀ {a b : EV}, (some a = some b) = (a = b)) :=
  ⟨rfl,
   rfl,
   rfl,
   rfl,
   rfl,
   rfl,
   rfl,
   rfl,
   want_eq,
   rfl,
   rfl,
   by intro w c u; cases c <;> rfl,
   rfl,
   rfl,
   rfl,
   rfl,
   rfl,
   rfl,
   rfl,
   rfl,
   rfl,
   rfl,
   rfl,
   fill_leaf rfl rfl,
   rfl,
   fill_leaf rfl rfl,
   rfl,
   fill_leaf rfl rfl,
   rfl,
   fill_leaf rfl rfl,
   rfl,
   fill_leaf rfl rfl,
   rfl,
   fill_leaf rfl rfl,
   rfl,
   fill_leaf rfl rfl,
   rfl,
   fill_leaf rfl rfl,
   rfl,
   fill_leaf rfl rfl,
   rfl,
   fill_leaf rfl rfl,
   rfl,
   fill_leaf rfl rfl,
   rfl,
   fill_agg,
   rfl,
   rfl,
   rfl,
   rfl,
   bin_int rfl rfl,
   bin_int rfl rfl,
   bin_int rfl rfl,
   bin_int rfl rfl,
   bin_int rfl rfl,
   bin_int rfl rfl,
   bin_int rfl rfl,
   bin_int rfl rfl,
   bin_int rfl rfl,
   bin_int rfl rfl,
   bin_int rfl rfl,
   bin_int rfl rfl,
   bin_int rfl rfl,
   bin_int rfl rfl,
   bin_int rfl rfl,
   rfl,
   rfl,
   rfl,
   rfl,
   rfl,
   rfl,
   rfl,
   rfl,
   rfl,
   rfl,
   rfl,
   rfl,
   rfl,
   by intro op q k a b; simp only [binE, if_true],
   rfl,
   eqc rfl,
   eqc (if_pos rfl),
   eqc rfl,
   rfl,
   rfl,
   rfl,
   rfl,
   rfl,
   rfl,
   rfl,
   rfl,
   rfl,
   rfl,
   rfl,
   rfl,
   rfl,
   rfl,
   rfl,
   rfl,
   rfl,
   strE_of,
   sls0,
   sls1,
   sls2,
   sls3,
   sl0,
   sl1,
   sl2,
   sl3,
   rfl,
   rfl,
   rfl,
   rfl,
   rfl,
   rfl,
   rfl,
   rfl,
   rfl,
   rfl,
   rfl,
   rfl,
   rfl,
   mm_eq,
   by intro t z v; simp [asrE],
   by intro t z v; simp [asrE],
   rfl,
   rfl,
   rfl,
   res_tmp,
   res_cell,
   rfl,
   rfl,
   rfl,
   by intros; simp [noref],
   by intros; simp [noref],
   by intros; simp [noref],
   by intros; simp [noref],
   by intros; simp [noref],
   by intros; simp [noref],
   by intros; simp [noref],
   by intros; simp [noref],
   by intros; simp [noref],
   by intros; simp [noref],
   by intros; simp [noref],
   by intros; simp [noref],
   by intros; simp [noref],
   by intros; simp [norefs],
   by intros; simp [norefs],
   nrf_ptr,
   nrf_sl,
   by intros; simp,
   by intros; simp,
   by intros; simp,
   by intros; simp,
   by intros; simp,
   by intros; simp,
   by intros; simp⟩

theorem vn :
    (∀ (b : Base) (o k : Nat), (⟨b, o⟩ : Ad).plus k = ⟨b, o + k⟩) ∧
    (∀ (a : Ad), a.plus 0 = a) ∧
    (∀ (a : Ad) (j k : Nat), (a.plus j).plus k = a.plus (j + k)) ∧
    (∀ (n k : Nat) (a : Ad), oldAd n (a.plus k) = oldAd n a) ∧
    (∀ (n g o : Nat), oldAd n ⟨.glob g, o⟩ = true) ∧
    (∀ (n b g o : Nat), oldAd n ⟨.mem b g, o⟩ = decide (b < n)) ∧
    (∀ {G : Globs} {m : Mem} {k : Nat} {a : Ad}, Mem.get G ⟨m.bl, k⟩ a = m.get G a) ∧
    (∀ {G : Globs} {m : Mem} {k n : Nat} {a : Ad}, Mem.getN G ⟨m.bl, k⟩ a n = m.getN G a n) ∧
    (∀ (n : Nat), (n : Int).toNat = n) ∧
    (∀ (a b : Nat), ((a : Int) < (b : Int)) = (a < b)) ∧
    (∀ (a b : Nat), ((a : Int) ≤ (b : Int)) = (a ≤ b)) ∧
    (∀ (a b : Nat), ((a : Int) == (b : Int)) = (a == b)) ∧
    (∀ (a b : Nat), ((a : Int) != (b : Int)) = (a != b)) ∧
    (∀ (a b : Nat), ((a : Int) = (b : Int)) = (a = b)) ∧
    (∀ (n : Nat), ((0 : Int) ≤ (n : Int)) = True) ∧
    (∀ (n : Nat), ((n : Int) < 0) = False) ∧
    (∀ (n : Nat), ((n : Int) == 0) = (n == 0)) ∧
    (∀ (n : Nat), ((n : Int) != 0) = (n != 0)) ∧
    (∀ (n : Nat), ((0 : Int) < (n : Int)) = (0 < n)) ∧
    (∀ (n : Nat), (n ≤ n) = True) ∧
    (∀ (n : Nat), (n < n) = False) ∧
    (∀ (n : Nat), (0 ≤ n) = True) ∧
    (∀ (p : Prop), (p ∧ p) = p) ∧
    (∀ (p : Prop), (True ∧ p) = p) ∧
    (∀ (p : Prop), (p ∧ True) = p) ∧
    (∀ (p : Prop), (False ∧ p) = False) ∧
    (∀ (p : Prop), (p ∧ False) = False) ∧
    (∀ (n : Nat), 0 + n = n) ∧
    (∀ (n : Nat), n + 0 = n) ∧
    (∀ (n : Nat), n * 1 = n) ∧
    (∀ (n : Nat), 0 * n = 0) ∧
    (∀ (n : Nat), n - 0 = n) ∧
    (∀ (b : Bool), (b == true) = b) ∧
    (∀ (b : Bool), (b == false) = !b) ∧
    (∀ (b : Bool), (true && b) = b) ∧
    (∀ (b : Bool), (false && b) = false) ∧
    (∀ (b : Bool), (b && true) = b) ∧
    (∀ (b : Bool), (b && false) = false) ∧
    (∀ (b : Bool), (true || b) = true) ∧
    (∀ (b : Bool), (false || b) = b) ∧
    (∀ (b : Bool), (b || false) = b) ∧
    (∀ (b : Bool), (b || true) = true) ∧
    (∀ (b : Bool), (!!b) = b) ∧
    ((!true) = false) ∧
    ((!false) = true) ∧
    ((¬ False) = True) ∧
    ((¬ True) = False) ∧
    ((true = false) = False) ∧
    ((false = true) = False) ∧
    (decide True = true) ∧
    (decide False = false) ∧
    (∀ {t u : Bool} {z : EV}, (if t = true then EV.bool true else if (!t) = true then .bool u else z) = .bool (t || u)) ∧
    (∀ {t u : Bool} {z : EV}, (if t = true then (if t = true then EV.bool u else z) else EV.bool false) = .bool (t && u)) ∧
    (∀ {t u : Bool} {z : EV}, (if t = true then EV.bool true else if t = false then .bool u else z) = .bool (t || u)) ∧
    (∀ {t u : Bool}, (if t = true then EV.bool u else EV.bool false) = .bool (t && u)) ∧
    (∀ {t u : Bool}, (if t = true then EV.bool true else EV.bool u) = .bool (t || u)) ∧
    (∀ {t u : Bool}, (if t = true then EV.bool false else EV.bool u) = .bool (!t && u)) ∧
    (∀ {t u : Bool}, (if t = true then EV.bool u else EV.bool true) = .bool (!t || u)) :=
  ⟨fun _ _ _ => rfl,
   fun _ => rfl,
   fun _ _ _ => Ad.plus_plus,
   fun _ _ _ => rfl,
   fun _ _ _ => rfl,
   fun _ _ _ _ => rfl,
   rfl,
   rfl,
   fun _ => rfl,
   fun _ _ => propext Int.ofNat_lt,
   fun _ _ => propext Int.ofNat_le,
   int_beq,
   int_bne,
   fun _ _ => propext Int.ofNat_inj,
   fun n => eq_true (Int.natCast_nonneg n),
   fun n => eq_false (by omega),
   fun n => int_beq n 0,
   fun n => int_bne n 0,
   fun n => by simp [Int.natCast_pos],
   fun n => eq_true (Nat.le_refl n),
   fun n => eq_false (Nat.lt_irrefl n),
   fun n => eq_true (Nat.zero_le n),
   fun _ => and_self _,
   fun _ => true_and _,
   fun _ => and_true _,
   fun _ => false_and _,
   fun _ => and_false _,
   fun _ => Nat.zero_add _,
   fun _ => rfl,
   fun _ => Nat.mul_one _,
   fun _ => Nat.zero_mul _,
   fun _ => rfl,
   fun b => by cases b <;> rfl,
   fun b => by cases b <;> rfl,
   fun _ => rfl,
   fun _ => rfl,
   fun b => by cases b <;> rfl,
   fun b => by cases b <;> rfl,
   fun _ => rfl,
   fun _ => rfl,
   fun b => by cases b <;> rfl,
   fun b => by cases b <;> rfl,
   fun b => by cases b <;> rfl,
   rfl,
   rfl,
   not_false_eq_true,
   not_true_eq_false,
   by simp,
   by simp,
   rfl,
   rfl,
   pick_or,
   pick_and,
   by intro t u z; cases t <;> rfl,
   by intro t u; cases t <;> rfl,
   by intro t u; cases t <;> rfl,
   by intro t u; cases t <;> rfl,
   by intro t u; cases t <;> rfl⟩

theorem vl :
    (∀ {α : Type} (a : α) (l : List α), (a :: l)[0]? = some a) ∧
    (∀ {α : Type} (a : α) (l : List α) (i : Nat), (a :: l)[i + 1]? = l[i]?) ∧
    (∀ {α : Type} (l : List α), l.take 0 = []) ∧
    (∀ {α : Type} (i : Nat), ([] : List α).take i = []) ∧
    (∀ {α : Type} (a : α) (l : List α) (i : Nat), (a :: l).take (i + 1) = a :: l.take i) ∧
    (∀ {α : Type} (l : List α), l.drop 0 = l) ∧
    (∀ {α : Type} (i : Nat), ([] : List α).drop i = []) ∧
    (∀ {α : Type} (a : α) (l : List α) (i : Nat), (a :: l).drop (i + 1) = l.drop i) ∧
    (∀ {α : Type} (a b : α) (l : List α), (a :: l).set 0 b = b :: l) ∧
    (∀ {α : Type} (a b : α) (l : List α) (i : Nat), (a :: l).set (i + 1) b = a :: l.set i b) ∧
    (∀ {α : Type}, ([] : List α).length = 0) ∧
    (∀ {α : Type} (a : α) (l : List α), (a :: l).length = l.length + 1) ∧
    (∀ {α : Type} (l : List α), [] ++ l = l) ∧
    (∀ {α : Type} (l : List α), l ++ [] = l) ∧
    (∀ {α : Type} (a : α) (l k : List α), (a :: l) ++ k = a :: (l ++ k)) ∧
    (∀ {α : Type} (a b : α), (some a).getD b = a) ∧
    (∀ {α β : Type} (a : α) (f : α → β), (some a).map f = some (f a)) ∧
    (∀ {α β : Type} (a : α) (f : α → Option β), (some a).bind f = f a) ∧
    (∀ {α β : Type} (f : α → β) (l : List α), (l.map f).length = l.length) ∧
    (∀ {α β : Type} (f : α → β) (a : α) (l : List α), (a :: l).map f = f a :: l.map f) ∧
    (∀ {α β : Type} (f : α → β), ([] : List α).map f = []) ∧
    (∀ {α : Type} (a : α), (some a).isNone = false) ∧
    (∀ {α : Type}, (none : Option α).isNone = true) ∧
    (∀ {α : Type} [BEq α] [ReflBEq α] (a : α), (a == a) = true) ∧
    (∀ {α : Type} [BEq α] [ReflBEq α] (a : α), (a != a) = false) ∧
    (∀ {α : Type} (a : α), (a = a) = True) :=
  ⟨fun _ _ => rfl,
   fun _ _ _ => rfl,
   fun _ => rfl,
   fun i => by cases i <;> rfl,
   fun _ _ _ => rfl,
   fun _ => rfl,
   fun i => by cases i <;> rfl,
   fun _ _ _ => rfl,
   fun _ _ _ => rfl,
   fun _ _ _ _ => rfl,
   rfl,
   fun _ _ => rfl,
   fun _ => rfl,
   fun _ => List.append_nil _,
   fun _ _ _ => rfl,
   fun _ _ => rfl,
   fun _ _ => rfl,
   fun _ _ => rfl,
   fun _ _ => List.length_map ..,
   fun _ _ _ => rfl,
   fun _ => rfl,
   fun _ => rfl,
   rfl,
   fun a => beq_self_eq_true a,
   fun a => by rw [bne, beq_self_eq_true]; rfl,
   fun a => eq_self a⟩

end Go.Ev
