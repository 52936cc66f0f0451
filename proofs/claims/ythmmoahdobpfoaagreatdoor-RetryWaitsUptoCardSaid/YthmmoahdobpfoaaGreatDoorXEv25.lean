/- The engine, part 25: laws without arguments; functions of which it is proved what they answer are known ones. There are no conditions. -/
import Derived.Test.YthmmoahdobpfoaaGreatDoorXEv20
import Derived.Test.YthmmoahdobpfoaaGreatDoorXEv23
set_option linter.unusedSimpArgs false
set_option linter.unusedSectionVars false
set_option linter.unusedVariables false
namespace Go.Ev
open Go.RowKit (Below)

section
variable {P : Program} {G : Globs} {base : Nat} {w0 w : World}

/-- The empty memory, in any world. -/
theorem mem_empty (hG : ∀ g cs, G g = some cs → g < w.heap.size ∧ cs.all cellOk = true ∧ ∃ c ty fr, w.heap[g]? = some (.cells c ty fr) ∧ RowIn ⟨id, id, id, fun _ => none⟩ ⟨[], 0⟩ cs c 0) : MemRel G w.heap.size w ⟨id, id, id, fun _ => none⟩ ⟨[], 0⟩ w := by
  refine ⟨Below.refl _ _, Nat.le_refl _, hG, ?_, ?_, ?_, ?_, fun b cs gen rw c ty fr hb => by simp at hb, fun R n hR => by cases hR⟩
  · intro b cs gen rw hb; simp at hb
  · intro b es ck hb; simp at hb
  · intro b b' hne h1; rcases h1 with ⟨cs, gen, h1⟩ | ⟨es, c, h1⟩ <;> simp at h1
  · intro b s p hb; simp at hb

/-- A function's contract makes it a known one. -/
theorem orc_of_comes {T : FuncId → Option EFunc} (hmix : P.follows .mixedOrders = true) (hT : Fits P T) {f : FuncId} {ef : EFunc} (hf : T f = some ef) (hp : ef.prim = none) {args : List EV} {m : Mem} {v : EV} (h : Comes T G f args m none ⟨.val v, m, none⟩)
    {j : Inj} {w : World} {vs : Array Value} (hm : MemRel G base w0 j m w) (hv : VsRel j m args vs.toList) : (callFunc f vs).run P w = .ok (.enter f vs) w ∧ Calls P f vs w (Ends G base w0 j m ⟨.val v, m, none⟩) := by
  refine ⟨?_, calls_of_ev hmix hT hf hp h hm hv⟩
  obtain ⟨fn, hfn, hfc⟩ := Option.bind_eq_some_iff.1 (hT f ef hf)
  obtain ⟨c, hb, hname, _, _⟩ := funC_body hfc (.inl hp)
  simp only [callFunc, Sem.run_bind, run_program, Result.andThen_ok, hfn, hname, hb, Bool.false_eq_true, if_false, Option.isNone_some, Sem.run_pure]

/-- A law without arguments that answers true answers true in every world. -/
theorem closed_calls {T : FuncId → Option EFunc} (hmix : P.follows .mixedOrders = true) (hT : FitsO P T) (horc : ∀ base w0, OrcOk P T G base w0) {f : FuncId} {ef : EFunc} (hf : T f = some ef) (hp : ef.prim = none)
    (hlaw : ∃ m' p', Comes T G f [] ⟨[], 0⟩ none ⟨.val (.bool true), m', p'⟩)
    (hG : ∀ g cs, G g = some cs → g < w.heap.size ∧ cs.all cellOk = true ∧ ∃ c ty fr, w.heap[g]? = some (.cells c ty fr) ∧ RowIn ⟨id, id, id, fun _ => none⟩ ⟨[], 0⟩ cs c 0) :
    Calls P f #[] w fun e w' => e = .returned (.bool true) ∧ Below w.heap.size w w' := by
  obtain ⟨m', p', hc⟩ := hlaw
  refine (calls_of_evO hmix hT (horc _ _) hf hp hc (mem_empty hG) (vs := #[]) (by simp [VsRel])).mono fun e w' he => ?_
  cases e with
  | returned v =>
    obtain ⟨x, j', hx, _, hm', hr⟩ := he
    cases hx
    cases hr
    exact ⟨rfl, hm'.below⟩
  | panicked chain =>
    obtain ⟨x, j', v, hx, _⟩ := he
    cases hx
  | outgrown => exact he.elim
/-- As law_calls, with known functions. -/
theorem law_callsO {H : Type} {enc : TypeId × Value → H} {bb : Nat} {B : DataW H → Nat} (hB : Bulky B) {N : Nat} {T : FuncId → Option EFunc} (hmix : P.follows .mixedOrders = true) (hT : FitsO P T) (horc : ∀ base w0, OrcOk P T G base w0) {f : FuncId} {ef : EFunc} (hf : T f = some ef) (hp : ef.prim = none) {shs : List Sh} {ts : List TypeId}
    (hlaw : ∀ (m : Mem) (xs : List EV), RO m → SitArgs N m shs xs → ∃ m' p', Comes T G f xs m none ⟨.val (.bool true), m', p'⟩)
    (hl : shs.length = ts.length) (hk : ∀ (i : Nat) (s : Sh) (t : TypeId), shs[i]? = some s → ts[i]? = some t → shOk P s t = true) {args : Array Value} (hok : ∀ (i : Nat) (t : TypeId) (v : Value), ts[i]? = some t → args.toList[i]? = some v → Value.okWide P w .any bb t v)
    {ds : List (DataW H)} {ps : List MemPlace} (h : DataW.TrodAll enc P w 0 (fun _ => true) true ts args.toList ds ps) (hN : ∀ d ∈ ds, B d ≤ N)
    (hG : ∀ g cs, G g = some cs → g < w.heap.size ∧ cs.all cellOk = true ∧ ∃ c ty fr, w.heap[g]? = some (.cells c ty fr) ∧ RowIn ⟨id, id, id, fun _ => none⟩ ⟨[], 0⟩ cs c 0) :
    Calls P f args w fun e w' => e = .returned (.bool true) ∧ Below w.heap.size w w' := by
  have hm0 : MemRel G w.heap.size w ⟨id, id, id, fun _ => none⟩ ⟨[], 0⟩ w := by
    refine ⟨Below.refl _ _, Nat.le_refl _, hG, ?_, ?_, ?_, ?_, fun b cs gen rw c ty fr hb => by simp at hb, fun R n hR => by cases hR⟩
    · intro b cs gen rw hb; simp at hb
    · intro b es ck hb; simp at hb
    · intro b b' hne h1; rcases h1 with ⟨cs, gen, h1⟩ | ⟨es, c, h1⟩ <;> simp at h1
    · intro b s p hb; simp at hb
  obtain ⟨j, m, xs, _, _, hro, hm, hv, hs⟩ := lay_args (bb := bb) hB hl hk hok h hN ⟨id, id, id, fun _ => none⟩ ⟨[], 0⟩ (fun b x hb => by simp at hb) ⟨hm0, fun _ => rfl⟩
  obtain ⟨m', p', hc⟩ := hlaw m xs hro hs
  refine (calls_of_evO hmix hT (horc _ _) hf hp hc hm.rel hv).mono fun e w' he => ?_
  cases e with
  | returned v =>
    obtain ⟨x, j', hx, _, hm', hr⟩ := he
    cases hx
    cases hr
    exact ⟨rfl, hm'.below⟩
  | panicked chain =>
    obtain ⟨x, j', v, hx, _⟩ := he
    cases hx
  | outgrown => exact he.elim

end
end Go.Ev
