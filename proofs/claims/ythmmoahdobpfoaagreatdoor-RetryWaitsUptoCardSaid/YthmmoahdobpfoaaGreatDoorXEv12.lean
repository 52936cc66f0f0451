/- The engine, part 12: what code of the evaluator comes to, the machine's code does. There are no conditions. -/
import Derived.Test.YthmmoahdobpfoaaGreatDoorXEv11
import Derived.Recover
import Derived.Tactics
set_option linter.unusedSectionVars false
set_option linter.unusedVariables false
set_option linter.unusedSimpArgs false
namespace Go.Ev
open Go.RowKit (Below)

/-- Deferred calls. -/
def DRel (j : Inj) (m : Mem) : List (FuncId × List EV) → List Deferred → Prop
  | [], l => l = []
  | (f, xs) :: r, l => ∃ (cap args : Array Value) (ds : List Deferred), l = { target := .fn (.func f) cap, args := args } :: ds ∧ VsRel j m xs (args ++ cap).toList ∧ DRel j m r ds

theorem DRel.ext {j j' : Inj} {m m' : Mem} (h : Ext j m j' m') : ∀ {l : List (FuncId × List EV)} {ds : List Deferred}, DRel j m l ds → DRel j' m' l ds
  | [], _, r => r
  | (f, xs) :: r, _, ⟨cap, args, ds, e, h1, h2⟩ => ⟨cap, args, ds, e, VsRel.ext h xs h1, DRel.ext h h2⟩

/-- What the caller of a deferred call is about. -/
def URel (j : Inj) (m : Mem) : Option EV → FrameMode → Prop
  | some v, u => ∃ v', u = .panicking [{ v := v', recovered := false }] ∧ VRel j m v v'
  | none, u => u = .returning ∨ ∃ v', u = .panicking [{ v := v', recovered := true }]

theorem URel.ext {j j' : Inj} {m m' : Mem} (h : Ext j m j' m') : ∀ {p : Option EV} {u : FrameMode}, URel j m p u → URel j' m' p u
  | some v, _, ⟨v', e, r⟩ => ⟨v', e, VRel.ext h v r⟩
  | none, _, r => r

/-- The frames below. -/
def PRel (j : Inj) (m : Mem) (c0 : Frame) (cs0 : List Frame) : Option (Option EV) → List Frame → Prop
  | none, cs => cs = cs0
  | some p, cs => ∃ u, URel j m p u ∧ cs = { c0 with mode := u } :: cs0

theorem PRel.ext {j j' : Inj} {m m' : Mem} (h : Ext j m j' m') {c0 : Frame} {cs0 : List Frame} : ∀ {p : Option (Option EV)} {cs : List Frame}, PRel j m c0 cs0 p cs → PRel j' m' c0 cs0 p cs
  | none, _, r => r
  | some p, _, ⟨u, r, e⟩ => ⟨u, r.ext h, e⟩

/-- What a frame begins with. -/
structure Fix where
  G : Globs
  base : Nat
  w0 : World
  nt : Nat
  c0 : Frame
  cs0 : List Frame
  j0 : Inj
  m0 : Mem

/-- A state of the evaluator and one of the machine. -/
structure SRel (X : Fix) (j : Inj) (s : St) (a : Act) (cs : List Frame) (w : World) : Prop where
  fr : FRel j s.m X.nt s.A a.tmps
  mem : MemRel X.G X.base X.w0 j s.m w
  dfr : DRel j s.m s.d a.defers
  pan : PRel j s.m X.c0 X.cs0 s.p cs
  ext : Ext X.j0 X.m0 j s.m

variable {P : Program} {X : Fix}

/-- Memory went on. -/
theorem SRel.step {j j' : Inj} {s : St} {a : Act} {cs : List Frame} {w w' : World} {m' : Mem} (h : SRel X j s a cs w) (he : Ext j s.m j' m') (hm : MemRel X.G X.base X.w0 j' m' w') :
    SRel X j' { s with m := m' } a cs w' :=
  ⟨h.fr.ext he, hm, h.dfr.ext he, h.pan.ext he, h.ext.trans he⟩

theorem SRel.put {j : Inj} {s : St} {a : Act} {cs : List Frame} {w : World} (h : SRel X j s a cs w) {d : Option Nat} (hd : dstOk X.nt d = true) {x : EV} {v : Value} (hx : VRel j s.m x v) :
    SRel X j (s.put d x) (a.put d v) cs w := by
  cases d with
  | none => exact h
  | some d =>
    simp only [dstOk, decide_eq_true_eq] at hd
    exact ⟨h.fr.put hd hx, h.mem, h.dfr, h.pan, h.ext⟩

theorem VRel.notBool {j : Inj} {m : Mem} {x : EV} {b : Bool} (h : VRel j m x (.bool b)) : x = .bool b := by
  cases x with
  | bool c => cases h; rfl
  | ptr a => cases a with
    | none => cases h
    | some a => obtain ⟨_, h, _⟩ := h; cases h
  | slice a n c e => cases a with
    | none => cases h.1
    | some a => obtain ⟨_, _, h, _⟩ := h; cases h
  | map r => cases r with
    | none => cases h
    | some r => obtain ⟨_, h, _⟩ := h; cases h
  | func f c => obtain ⟨_, h, _⟩ := h; cases h
  | iface t v => obtain ⟨_, h, _⟩ := h; cases h
  | agg cs => obtain ⟨_, h, _⟩ := h; cases h
  | tuple cs => obtain ⟨_, h, _⟩ := h; cases h
  | iter b => obtain ⟨_, h, _⟩ := h; cases h
  | int k n => cases h
  | flt k n => cases h
  | str s => cases h
  | nilFunc => cases h
  | nilIface => cases h

theorem wanted_rel {j : Inj} {m : Mem} {nt : Nat} {A : Fr} {tmps : Array Value} (h : FRel j m nt A tmps) {ops : Array Oper} {o : Oper} {g : Option (Nat × Bool)} (hg : guardC ops o.guard = some g) :
    Region.wanted o (yielded ops tmps) = wantedE A g := by
  unfold Region.wanted
  cases hog : o.guard with
  | none => rw [hog] at hg; simp only [guardC] at hg; cases hg; rfl
  | some q =>
    obtain ⟨i, want⟩ := q
    rw [hog] at hg
    simp only [guardC] at hg
    obtain ⟨d, hd, rfl⟩ := Option.map_eq_some_iff.1 hg
    simp only [yielded, hd, Option.bind_some, wantedE]
    have hr := h.rel d
    cases hv : tmps[d]? with
    | none =>
      have : tmps.getD d undef = undef := by simp [hv]
      rw [this] at hr
      cases hA : A d with
      | bool b => rw [hA] at hr; cases hr
      | _ => rfl
    | some v =>
      have : tmps.getD d undef = v := by simp [hv]
      rw [this] at hr
      cases v with
      | bool b =>
        rw [hr.notBool]
        cases b <;> cases want <;> rfl
      | _ =>
        cases hA : A d with
        | bool b => rw [hA] at hr; cases hr
        | _ => rfl

/-- What a call comes to. -/
def Ends (G : Globs) (base : Nat) (w0 : World) (j : Inj) (m : Mem) (r : CR) : Ending → World → Prop
  | .returned v, w' => ∃ x j', r.res = .val x ∧ Ext j m j' r.m ∧ MemRel G base w0 j' r.m w' ∧ VRel j' r.m x v
  | .panicked chain, w' => ∃ x j' v, r.res = .pan x ∧ chain = [{ v := v, recovered := false }] ∧ Ext j m j' r.m ∧ MemRel G base w0 j' r.m w' ∧ VRel j' r.m x v
  | .outgrown, _ => False

/-- The evaluator's calls are the machine's. -/
def CallsOk (P : Program) (G : Globs) (base : Nat) (w0 : World) (call : CallE) : Prop :=
  ∀ f args m r, call f args m none = some r → ∀ (j : Inj) (w : World) (vs : Array Value), MemRel G base w0 j m w → VsRel j m args vs.toList →
    ((callFunc f vs).run P w = .ok (.enter f vs) w ∧ Calls P f vs w (Ends G base w0 j m r)) ∨
    (∃ v w', (callFunc f vs).run P w = .ok (.value v) w' ∧ Ends G base w0 j m r (.returned v) w')

/-- What one operation comes to. -/
def OpDoes (P : Program) (X : Fix) (j : Inj) (s : St) (a : Act) (cs : List Frame) (w : World) (o : Oper) : Res × St → Prop
  | (.val x, s') =>
    (s'.p = s.p ∧ ∃ v w' j', ((execOp a.eval o).run P w = .ok (.value v) w' ∨ ((execOp a.eval o).run P w = .ok .skip w' ∧ v = undef)) ∧ SRel X j' s' a cs w' ∧ VRel j' s'.m x v)
    ∨ (s'.p = s.p ∧ ∃ d, (execOp a.eval o).run P w = .ok (.defer d) w ∧ x = undefE ∧ SRel X j s' { a with defers := d :: a.defers } cs w)
    ∨ (s'.p = s.p ∧ ∃ f args, (execOp a.eval o).run P w = .ok (.enter f args) w ∧ Calls P f args w fun e w' => ∃ v j', e = .returned v ∧ SRel X j' s' a cs w' ∧ VRel j' s'.m x v)
    ∨ (s.p.isSome = true ∧ ∃ v cs', (execOp a.eval o).run P w = .ok .recover w ∧ (recoverD cs = some (v, cs') ∨ (recoverD cs = none ∧ v = .nilIface ∧ cs' = cs)) ∧ SRel X j s' a cs' w ∧ VRel j s'.m x v)
  | (.pan x, s') => s'.p = s.p ∧
    ((∃ v, (execOp a.eval o).run P w = .halt (.panic v) w ∧ SRel X j s' a cs w ∧ VRel j s'.m x v)
    ∨ (∃ f args, (execOp a.eval o).run P w = .ok (.enter f args) w ∧ Calls P f args w fun e w' => ∃ v j', e = .panicked [{ v := v, recovered := false }] ∧ SRel X j' s' a cs w' ∧ VRel j' s'.m x v))

theorem builtinC_quiet {b : Builtin} {ts : List TypeId} {args : List Operand} {e : EOp} (h : builtinC P b ts args = some e) (hq : e.quiet = false) :
    (∃ x y, b = .panic ∧ args = [x] ∧ opdC x = some y ∧ e = .panic y) ∨ (b = .recover ∧ e = .recover) := by
  unfold builtinC at h
  repeat' split at h
  all_goals first
    | (cases h; first | exact .inr ⟨rfl, rfl⟩ | exact absurd hq (by simp [EOp.quiet]))
    | (obtain ⟨y, hy, rfl⟩ := Option.map_eq_some_iff.1 h; first | exact .inl ⟨_, y, rfl, rfl, hy, rfl⟩ | exact absurd hq (by simp [EOp.quiet]))
    | cases h

theorem mapsto_args {j : Inj} {m : Mem} {A : Fr} {a : Act} {nt : Nat} (hf : FRel j m nt A a.tmps) {args : Array Operand} {ys : List Opd} (h : opdsC args.toList = some ys) :
    VsRel j m (ys.map (opd A)) (args.map a.eval).toList := by
  rw [Array.toList_map]
  exact opdsC_rel hf h

theorem op_sound {call : CallE} (hc : CallsOk P X.G X.base X.w0 call) {j : Inj} {s : St} {a : Act} {cs : List Frame} {w : World} (hs : SRel X j s a cs w) {o : Oper} {e : EOp} (ho' : some (opS P o.op) = some e) {r : Res × St}
    (h : evOp call X.G e s = some r) : OpDoes P X j s a cs w o r := by
  have ho : opC P o.op = some e := by
    cases hn : opC P o.op with
    | none =>
      have : e = .stuck := by simpa [opS, hn] using ho'.symm
      subst this
      simp [evOp, evVal] at h
    | some x => simpa [opS, hn] using ho'
  by_cases hq : e.quiet = true
  · rw [evOp_quiet hq] at h
    obtain ⟨⟨x, m'⟩, hx, rfl⟩ := Option.map_eq_some_iff.1 h
    obtain ⟨j', v, w', h1, h2, h3, h4⟩ := quiet_run hs.mem hs.fr ho hq hx
    exact .inl ⟨rfl, v, w', j', h1, hs.step h2 h3, h4⟩
  · have hq : e.quiet = false := by simpa using hq
    obtain ⟨dst, op, type, pos, after, guard⟩ := o
    simp only at ho
    have hpan : ∀ x y, opdC x = some y → e = .panic y → (execOp a.eval ⟨dst, op, type, pos, after, guard⟩).run P w = (do pure (Next.value (← Instr.panic (a.eval x))) : Sem Next).run P w → OpDoes P X j s a cs w ⟨dst, op, type, pos, after, guard⟩ r := by
      rintro x y hy rfl hrun
      simp only [evOp] at h
      split at h
      case h_2 => cases h
      rename_i t v hv
      cases h
      have hr := opdC_rel hs.fr hy
      rw [hv] at hr
      obtain ⟨v', hv', hr'⟩ := hr
      refine ⟨rfl, .inl ⟨.iface t v', ?_, hs, ⟨v', rfl, hr'⟩⟩⟩
      rw [hrun, hv']
      simp [Instr.panic, goPanic]
    cases op with
    | call c =>
      obtain ⟨callee, args, argTypes⟩ := c
      cases callee with
      | invoke _ _ => simp [opC, callC] at ho
      | builtin b =>
        simp only [opC, callC] at ho
        rcases builtinC_quiet ho hq with ⟨x, y, rfl, hargs, hy, rfl⟩ | ⟨rfl, rfl⟩
        · refine hpan x y hy rfl ?_
          have : args = #[x] := by apply Array.ext'; simpa using hargs
          subst this
          simp [execOp, resolve, invoke, builtin]
        · simp only [evOp] at h
          have hrun : (execOp a.eval ⟨dst, .call ⟨.builtin .recover, args, argTypes⟩, type, pos, after, guard⟩).run P w = .ok .recover w := by
            simp [execOp, resolve, invoke, builtin]
          have hp := hs.pan
          split at h
          · rename_i v hv
            cases h
            rw [hv] at hp
            obtain ⟨u, ⟨v', rfl, hvr⟩, rfl⟩ := hp
            exact .inr (.inr (.inr ⟨by simp [hv], v', _, hrun, .inl rfl, ⟨hs.fr, hs.mem, hs.dfr, ⟨_, .inr ⟨v', rfl⟩, rfl⟩, hs.ext⟩, hvr⟩))
          · rename_i hv
            cases h
            rw [hv] at hp
            obtain ⟨u, hu, rfl⟩ := hp
            refine .inr (.inr (.inr ⟨by simp [hv], .nilIface, _, hrun, .inr ⟨?_, rfl, rfl⟩, hs, rfl⟩))
            rcases hu with rfl | ⟨v', rfl⟩ <;> rfl
          · cases h
      | value f =>
        simp only [opC, callC] at ho
        split at ho
        case h_2 => cases ho
        rename_i f' as hf has
        cases ho
        simp only [evOp] at h
        split at h
        case h_2 => cases h
        rename_i fid cap hfid
        split at h
        case h_2 => cases h
        rename_i r' hr'
        cases h
        have hfr := opdC_rel hs.fr hf
        rw [hfid] at hfr
        obtain ⟨cap', hcap, hcr⟩ := hfr
        have har : VsRel j s.m (as.map (opd s.A) ++ cap) (args.map a.eval ++ cap').toList := by
          rw [Array.toList_append]
          exact (mapsto_args hs.fr has).append hcr
        have hrun : ∀ w, (execOp a.eval ⟨dst, .call ⟨.value f, args, argTypes⟩, type, pos, after, guard⟩).run P w = (callFunc fid (args.map a.eval ++ cap')).run P w := by
          intro w
          simp [execOp, resolve, Deferred.ofValue, hcap, invoke]
        rcases hc _ _ _ _ hr' j w _ hs.mem har with ⟨h1, h2⟩ | ⟨v, wv, h1, x, j', hx, he, hm, hv⟩
        · cases hres : r'.res with
          | val x =>
            refine .inr (.inr (.inl ⟨rfl, _, _, (hrun w).trans h1, h2.mono fun e w' he => ?_⟩))
            cases e with
            | returned v =>
              obtain ⟨x', j', hx', k1, k2, k3⟩ := he
              rw [hres] at hx'
              cases hx'
              exact ⟨v, j', rfl, hs.step k1 k2, k3⟩
            | panicked chain =>
              obtain ⟨x', j', v, hx', _⟩ := he
              rw [hres] at hx'
              cases hx'
            | outgrown => exact he.elim
          | pan x =>
            refine ⟨rfl, .inr ⟨_, _, (hrun w).trans h1, h2.mono fun e w' he => ?_⟩⟩
            cases e with
            | returned v =>
              obtain ⟨x', j', hx', _⟩ := he
              rw [hres] at hx'
              cases hx'
            | panicked chain =>
              obtain ⟨x', j', v, hx', rfl, k1, k2, k3⟩ := he
              rw [hres] at hx'
              cases hx'
              exact ⟨v, j', rfl, hs.step k1 k2, k3⟩
            | outgrown => exact he.elim
        · rw [hx]
          exact .inl ⟨rfl, v, wv, j', .inl ((hrun w).trans h1), hs.step he hm, hv⟩
    | defer c =>
      obtain ⟨callee, args, argTypes⟩ := c
      cases callee with
      | invoke _ _ => simp [opC] at ho
      | builtin b => simp [opC] at ho
      | value f =>
        simp only [opC] at ho
        split at ho
        case h_2 => cases ho
        rename_i f' as hf has
        cases ho
        simp only [evOp] at h
        split at h
        case h_2 => cases h
        rename_i fid cap hfid
        cases h
        have hfr := opdC_rel hs.fr hf
        rw [hfid] at hfr
        obtain ⟨cap', hcap, hcr⟩ := hfr
        have har : VsRel j s.m (as.map (opd s.A) ++ cap) (args.map a.eval ++ cap').toList := by
          rw [Array.toList_append]
          exact (mapsto_args hs.fr has).append hcr
        refine .inr (.inl ⟨rfl, { target := .fn (.func fid) cap', args := args.map a.eval }, ?_, rfl, ⟨hs.fr, hs.mem, ⟨cap', _, _, rfl, har, hs.dfr⟩, hs.pan, hs.ext⟩⟩)
        simp [execOp, resolve, Deferred.ofValue, hcap]
    | panic x =>
      simp only [opC] at ho
      obtain ⟨y, hy, rfl⟩ := Option.map_eq_some_iff.1 ho
      exact hpan x y hy rfl rfl
    | makeFunc fn first captured =>
      exfalso
      cases fn with
      | func f =>
        simp only [opC] at ho
        split at ho
        · obtain ⟨y, hy, rfl⟩ := Option.map_eq_some_iff.1 ho
          simp [EOp.quiet] at hq
        · cases ho
      | _ => simp [opC] at ho
    | makeMap t r =>
      exfalso
      cases r with
      | none => simp only [opC] at ho; cases ho; simp [EOp.quiet] at hq
      | some r =>
        simp only [opC] at ho
        split at ho
        · obtain ⟨y, hy, rfl⟩ := Option.map_eq_some_iff.1 ho
          simp [EOp.quiet] at hq
        · cases ho
    | slice t x lo hi mx =>
      exfalso
      cases mx with
      | none =>
        simp only [opC] at ho
        split at ho
        · cases ho; simp [EOp.quiet] at hq
        · obtain ⟨z, hz, ho⟩ := Option.bind_eq_some_iff.1 ho
          split at ho <;> cases ho
          simp [EOp.quiet] at hq
        · obtain ⟨z, hz, ho⟩ := Option.bind_eq_some_iff.1 ho
          split at ho <;> cases ho
          simp [EOp.quiet] at hq
        · cases ho
      | some mx => simp [opC] at ho
    | next x st =>
      exfalso
      cases st
      · simp only [opC] at ho
        cases ho
      · simp only [opC] at ho
        obtain ⟨y, hy, rfl⟩ := Option.map_eq_some_iff.1 ho
        simp [EOp.quiet] at hq
    | _ =>
      exfalso
      simp only [opC] at ho
      repeat' split at ho
      all_goals first
        | (cases ho; simp [EOp.quiet] at hq; done)
        | (obtain ⟨y, hy, rfl⟩ := Option.map_eq_some_iff.1 ho; simp [EOp.quiet] at hq; done)
        | (obtain ⟨z, hz, ho⟩ := Option.bind_eq_some_iff.1 ho; obtain ⟨y, hy, rfl⟩ := Option.map_eq_some_iff.1 ho; simp [EOp.quiet] at hq; done)
        | (obtain ⟨z, hz, ho⟩ := Option.bind_eq_some_iff.1 ho; obtain ⟨z2, hz2, ho⟩ := Option.bind_eq_some_iff.1 ho; obtain ⟨y, hy, rfl⟩ := Option.map_eq_some_iff.1 ho; simp [EOp.quiet] at hq; done)
        | (obtain ⟨z, hz, ho⟩ := Option.bind_eq_some_iff.1 ho; split at ho <;> first | (cases ho; done) | (cases ho; simp [EOp.quiet] at hq; done))
        | (obtain ⟨z, hz, ho⟩ := Option.bind_eq_some_iff.1 ho; obtain ⟨z2, hz2, ho⟩ := Option.bind_eq_some_iff.1 ho; split at ho <;> first | (cases ho; done) | (cases ho; simp [EOp.quiet] at hq; done))
        | cases ho

/-- How code was left. -/
def ExRel (j : Inj) (m : Mem) : Ex → Exit → Prop
  | .normal, .normal => True
  | .exit i, .exit i' => i' = i
  | .ret, .ret => True
  | .pan v, .panic chain => ∃ v', chain = [{ v := v', recovered := false }] ∧ VRel j m v v'
  | _, _ => False

/-- What code comes to. -/
def XPost (X : Fix) (ex : Ex) (s : St) (e : Exit) (a : Act) (cs : List Frame) (w : World) : Prop := ∃ j, SRel X j s a cs w ∧ ExRel j s.m ex e

/-! ### A region's operations -/
theorem ops_sound {call : CallE} (hc : CallsOk P X.G X.base X.w0 call) {ops : Array Oper} {Q : Exit → Act → World → Prop} {cs : List Frame} {ex : Ex} {s' : St} (hQ : ∀ e a w, XPost X ex s' e a cs w → Q e a w) : ∀ (l : List Oper) (es : List EOper) (k : Nat) (s : St) (a : Act) (w : World) (j : Inj),
    opersC P X.nt ops l = some es → (∀ i, l[i]? = ops[k + i]?) → evOps call X.G es s = some (ex, s') → s.p = none → SRel X j s a cs w → Go.wpOps P ops Q (List.range' k l.length) a w
  | [], es, k, s, a, w, j, hl, hk, h, hp, hs => by
    simp only [opersC] at hl
    cases hl
    simp only [evOps] at h
    cases h
    simp only [List.length_nil, List.range'_zero, Go.wpOps]
    exact hQ _ _ _ ⟨j, hs, trivial⟩
  | o :: l, es, k, s, a, w, j, hl, hk, h, hp, hs => by
    simp only [opersC] at hl
    split at hl
    case h_2 => cases hl
    rename_i e es' he hes
    cases hl
    unfold operC at he
    split at he
    case h_2 => cases he
    rename_i op g hop hg
    split at he
    case isFalse => cases he
    rename_i hd
    cases he
    have hko : ops[k]? = some o := by have := hk 0; simpa using this.symm
    have hk' : ∀ i, l[i]? = ops[k + 1 + i]? := fun i => by
      have := hk (i + 1)
      simpa [Nat.add_assoc, Nat.add_comm 1 i] using this
    simp only [List.length_cons, List.range'_succ, Go.wpOps, hko]
    rw [wanted_rel hs.fr hg]
    simp only [evOps] at h
    split
    · rename_i hw
      rw [if_pos hw] at h
      left
      unfold Oper.wp
      split at h
      · rename_i x s1 hx
        rcases op_sound hc hs hop hx with ⟨hp', v, w', j', hrun, hs1, hv⟩ | ⟨hp', d, hrun, rfl, hs1⟩ | ⟨hp', f, args, hrun, hcall⟩ | ⟨hp', _⟩
        · have ih := ops_sound hc hQ l es' (k + 1) _ _ w' j' hes hk' h (by rw [put_p, hp', hp]) (hs1.put hd hv)
          rcases hrun with hrun | ⟨hrun, rfl⟩
          · rw [hrun]; exact ih
          · rw [hrun]; exact ih
        · rw [hrun]
          exact ops_sound hc hQ l es' (k + 1) _ _ w j hes hk' h (by rw [put_p, hp', hp]) (hs1.put hd (undef_rel _ _))
        · rw [hrun]
          refine hcall.mono fun e w' he => ?_
          obtain ⟨v, j', rfl, hs1, hv⟩ := he
          exact ops_sound hc hQ l es' (k + 1) _ _ w' j' hes hk' h (by rw [put_p, hp', hp]) (hs1.put hd hv)
        · rw [hp] at hp'; cases hp'
      · rename_i x s1 hx
        cases h
        rcases op_sound hc hs hop hx with ⟨hp', ⟨v, hrun, hs1, hv⟩ | ⟨f, args, hrun, hcall⟩⟩
        · rw [hrun]
          exact hQ _ _ _ ⟨j, hs1, v, rfl, hv⟩
        · rw [hrun]
          refine hcall.mono fun e w' he => ?_
          obtain ⟨v, j', rfl, hs1, hv⟩ := he
          exact hQ _ _ _ ⟨j', hs1, v, rfl, hv⟩
      · cases h
    · rename_i hw
      rw [if_neg hw] at h
      exact ops_sound hc hQ l es' (k + 1) _ _ w j hes hk' h (by rw [put_p]; exact hp) (hs.put hd (undef_rel _ _))

theorem opsS_sound {call : CallE} (hc : CallsOk P X.G X.base X.w0 call) {ops : Array Oper} {Q : Exit → Act → List Frame → World → Prop} {ex : Ex} {s' : St} (hQ : ∀ e a cs w, XPost X ex s' e a cs w → Q e a cs w) : ∀ (l : List Oper) (es : List EOper) (k : Nat) (s : St) (a : Act) (cs : List Frame) (w : World) (j : Inj),
    opersC P X.nt ops l = some es → (∀ i, l[i]? = ops[k + i]?) → evOps call X.G es s = some (ex, s') → SRel X j s a cs w → wpOpsS P ops Q (List.range' k l.length) a cs w
  | [], es, k, s, a, cs, w, j, hl, hk, h, hs => by
    simp only [opersC] at hl
    cases hl
    simp only [evOps] at h
    cases h
    simp only [List.length_nil, List.range'_zero, wpOpsS]
    exact hQ _ _ _ _ ⟨j, hs, trivial⟩
  | o :: l, es, k, s, a, cs, w, j, hl, hk, h, hs => by
    simp only [opersC] at hl
    split at hl
    case h_2 => cases hl
    rename_i e es' he hes
    cases hl
    unfold operC at he
    split at he
    case h_2 => cases he
    rename_i op g hop hg
    split at he
    case isFalse => cases he
    rename_i hd
    cases he
    have hko : ops[k]? = some o := by have := hk 0; simpa using this.symm
    have hk' : ∀ i, l[i]? = ops[k + 1 + i]? := fun i => by
      have := hk (i + 1)
      simpa [Nat.add_assoc, Nat.add_comm 1 i] using this
    simp only [List.length_cons, List.range'_succ, wpOpsS, hko]
    rw [wanted_rel hs.fr hg]
    simp only [evOps] at h
    split
    · rename_i hw
      rw [if_pos hw] at h
      split at h
      · rename_i x s1 hx
        rcases op_sound hc hs hop hx with ⟨hp', v, w', j', hrun, hs1, hv⟩ | ⟨hp', d, hrun, rfl, hs1⟩ | ⟨hp', f, args, hrun, hcall⟩ | ⟨hp', v, cs', hrun, hrec, hs1, hv⟩
        · have ih := opsS_sound hc hQ l es' (k + 1) _ _ cs w' j' hes hk' h (hs1.put hd hv)
          rcases hrun with hrun | ⟨hrun, rfl⟩
          · rw [hrun]; exact ih
          · rw [hrun]; exact ih
        · rw [hrun]
          exact opsS_sound hc hQ l es' (k + 1) _ _ cs w j hes hk' h (hs1.put hd (undef_rel _ _))
        · rw [hrun]
          refine hcall.mono fun e w' he => ?_
          obtain ⟨v, j', rfl, hs1, hv⟩ := he
          exact opsS_sound hc hQ l es' (k + 1) _ _ cs w' j' hes hk' h (hs1.put hd hv)
        · rw [hrun]
          have ih := opsS_sound hc hQ l es' (k + 1) _ _ cs' w j hes hk' h (hs1.put hd hv)
          rcases hrec with hrec | ⟨hrec, rfl, rfl⟩
          · simp only [hrec]; exact ih
          · simp only [hrec]; exact ih
      · rename_i x s1 hx
        cases h
        rcases op_sound hc hs hop hx with ⟨hp', ⟨v, hrun, hs1, hv⟩ | ⟨f, args, hrun, hcall⟩⟩
        · rw [hrun]
          exact hQ _ _ _ _ ⟨j, hs1, v, rfl, hv⟩
        · rw [hrun]
          refine hcall.mono fun e w' he => ?_
          obtain ⟨v, j', rfl, hs1, hv⟩ := he
          exact hQ _ _ _ _ ⟨j', hs1, v, rfl, hv⟩
      · cases h
    · rename_i hw
      rw [if_neg hw] at h
      exact opsS_sound hc hQ l es' (k + 1) _ _ cs w j hes hk' h (hs.put hd (undef_rel _ _))

end Go.Ev
