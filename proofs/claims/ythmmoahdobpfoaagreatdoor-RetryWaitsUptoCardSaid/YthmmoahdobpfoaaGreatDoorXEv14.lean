/- The engine, part 14: calls: what evFun answers, the machine's call comes to. There are no conditions but that the evaluator's functions are the loaded ones. -/
import Derived.Test.YthmmoahdobpfoaaGreatDoorXEv13
set_option linter.unusedSectionVars false
set_option linter.unusedVariables false
set_option linter.unusedSimpArgs false
namespace Go.Ev
open Go.RowKit (Below)

variable {P : Program}

/-! ### Results -/
section
variable {G : Globs} {base : Nat} {w0 : World} {j : Inj} {m : Mem} {nt : Nat} {A : Fr} {tmps : Array Value} {w : World}

/-- One result. -/
def resOne (tmps : Array Value) : ResultVar → Sem Value
  | .tmp t => pure (tmps.getD t undef)
  | .cell a t => do loadVar t (← asAddr (tmps.getD a undef))

theorem resOne_run (hm : MemRel G base w0 j m w) (hf : FRel j m nt A tmps) {r : ResultVar} {e : ERes} (hr : resC P [r] = some [e]) {x : EV} (h : resE G A m e = some x) : ∃ v, (resOne tmps r).run P w = .ok v w ∧ VRel j m x v := by
  cases r with
  | tmp t =>
    simp only [resC, Option.map_some] at hr
    cases hr
    simp only [resE] at h
    cases h
    exact ⟨_, rfl, hf.rel t⟩
  | cell a t =>
    simp only [resC] at hr
    split at hr
    case h_2 => cases hr
    rename_i n l hn hl
    cases hr
    simp only [resE] at h
    have hr := hf.rel a
    split at h
    case h_2 => cases h
    rename_i ad had
    rw [had] at hr
    obtain ⟨a', hv, ha⟩ := hr
    have ha0 : (asAddr (tmps.getD a undef)).run P w = .ok a' w := by rw [hv]; rfl
    split at h
    · obtain ⟨_, u, hu, hur⟩ := hm.get h ha
      refine ⟨u, ?_, hur⟩
      simp only [resOne, Sem.run_bind, ha0, Result.andThen_ok, loadVar, aggC_none hn, Bool.false_eq_true, if_false]
      simp [hu]
    · rename_i k
      obtain ⟨cs, hcs, rfl⟩ := Option.map_eq_some_iff.1 h
      obtain ⟨hl, ho, vs, hr, _, hrun⟩ := hm.getN (P := P) hcs (.inr ha)
      obtain ⟨h1, h2⟩ := aggC_some hn
      refine ⟨.agg vs.toArray, ?_, _, rfl, by simpa using hr, ho⟩
      simp only [resOne, Sem.run_bind, ha0, Result.andThen_ok, loadVar, h1, if_true, run_size h2, hrun, Sem.run_pure]

theorem results_list (hm : MemRel G base w0 j m w) (hf : FRel j m nt A tmps) : ∀ {rs : List ResultVar} {es : List ERes} {xs : List EV}, resC P rs = some es → resultsE G A m es = some xs → ∃ vs, (rs.mapM (resOne tmps)).run P w = .ok vs w ∧ VsRel j m xs vs
  | [], es, xs, hr, h => by
    simp only [resC] at hr
    cases hr
    simp only [resultsE] at h
    cases h
    exact ⟨[], by simp, rfl⟩
  | r :: rs, es, xs, hr, h => by
    have : ∃ e es', es = e :: es' ∧ resC P [r] = some [e] ∧ resC P rs = some es' := by
      cases r with
      | tmp t =>
        simp only [resC] at hr ⊢
        obtain ⟨l, hl, rfl⟩ := Option.map_eq_some_iff.1 hr
        exact ⟨_, l, rfl, rfl, hl⟩
      | cell a t =>
        simp only [resC] at hr ⊢
        split at hr
        case h_2 => cases hr
        rename_i n l hn hl
        cases hr
        exact ⟨_, l, rfl, by rw [hn], hl⟩
    obtain ⟨e, es', rfl, h1, h2⟩ := this
    simp only [resultsE] at h
    split at h
    case h_2 => cases h
    rename_i x xs' hx hxs
    cases h
    obtain ⟨v, hv, hvr⟩ := resOne_run hm hf h1 hx
    obtain ⟨vs, hvs, hvsr⟩ := results_list hm hf h2 hxs
    exact ⟨v :: vs, by simp [hv, hvs], v, vs, rfl, hvr, hvsr⟩

theorem results_run (hm : MemRel G base w0 j m w) (hf : FRel j m nt A tmps) {fn : Func} {es : List ERes} {xs : List EV} (hr : resC P fn.results.toList = some es) (h : resultsE G A m es = some xs) :
    ∃ v, (results fn tmps).run P w = .ok v w ∧ VRel j m (oneE xs) v := by
  obtain ⟨vs, hvs, hvr⟩ := results_list hm hf hr h
  have hrun : (results fn tmps).run P w = .ok (if h : vs.toArray.size = 1 then vs.toArray[0] else .tuple vs.toArray) w := by
    have e : results fn tmps = (do
        let vs ← fn.results.mapM (resOne tmps)
        pure (if h : vs.size = 1 then vs[0] else .tuple vs)) := by
      unfold results
      congr 2
    rw [e, Array.mapM_eq_mapM_toList]
    simp [hvs]
  refine ⟨_, hrun, ?_⟩
  match xs, hvr with
  | [], hvr => cases hvr; exact ⟨#[], rfl, rfl⟩
  | [x], hvr =>
    obtain ⟨y, ys, rfl, h1, rfl⟩ := hvr
    exact h1
  | x :: x2 :: xs, hvr =>
    obtain ⟨y, ys, rfl, h1, y2, ys2, rfl, h2, h3⟩ := hvr
    refine ⟨⟨y :: y2 :: ys2⟩, ?_, y, y2 :: ys2, rfl, h1, y2, ys2, rfl, h2, h3⟩
    simp

end

/-! ### Deferred calls -/
/-- What a deferred call comes to. -/
def EndsD (G : Globs) (base : Nat) (w0 : World) (j : Inj) (m : Mem) (r : CR) : Ending → FrameMode → World → Prop
  | .returned v, u', w' => ∃ x j' p', r.res = .val x ∧ r.p = some p' ∧ Ext j m j' r.m ∧ MemRel G base w0 j' r.m w' ∧ URel j' r.m p' u'
  | .panicked chain, _, _ => ∃ x, r.res = .pan x
  | .outgrown, _, _ => False

def CallsDOk (P : Program) (G : Globs) (base : Nat) (w0 : World) (call : CallE) : Prop :=
  ∀ f args m pan r, call f args m (some pan) = some r → ∀ (j : Inj) (w : World) (vs : Array Value) (u : FrameMode), MemRel G base w0 j m w → VsRel j m args vs.toList → URel j m pan u →
    (callFunc f vs).run P w = .ok (.enter f vs) w ∧ CallsD P f vs u w (EndsD G base w0 j m r)

/-- What the frame is about, between two of its deferred calls. -/
def Settled (j : Inj) (m : Mem) : Option EV → FrameMode → Prop
  | some v, u => ∃ v', u = .panicking [{ v := v', recovered := false }] ∧ VRel j m v v'
  | none, u => u = .returning

theorem Settled.urel {j : Inj} {m : Mem} : ∀ {p : Option EV} {u : FrameMode}, Settled j m p u → URel j m p u
  | some _, _, h => h
  | none, _, h => .inl h
theorem Settled.run {j : Inj} {m : Mem} : ∀ {p : Option EV} {u : FrameMode}, Settled j m p u → u ≠ FrameMode.run
  | some _, _, ⟨v', e, _⟩ => by rw [e]; simp
  | none, _, h => by simp only [Settled] at h; rw [h]; simp
theorem URel.settle {j : Inj} {m : Mem} : ∀ {p : Option EV} {u : FrameMode}, URel j m p u → Settled j m p (settle u)
  | some _, _, ⟨v', e, r⟩ => by rw [e]; exact ⟨v', rfl, r⟩
  | none, _, h => by
    rcases h with rfl | ⟨v', rfl⟩ <;> rfl

theorem leaves_sound {G : Globs} {base : Nat} {w0 : World} {call : CallE} (hc : CallsDOk P G base w0 call) {fn : Func} {tmps : Array Value} {R : Ending → World → Prop} {q : Option EV} {m' : Mem} :
    ∀ (ds : List (FuncId × List EV)) (dd : List Deferred) (j : Inj) (m : Mem) (pan : Option EV) (u : FrameMode) (w : World), runD call ds m pan = some (q, m') → MemRel G base w0 j m w → DRel j m ds dd → Settled j m pan u →
      (∀ j' w' u', Ext j m j' m' → MemRel G base w0 j' m' w' → Settled j' m' q u' → Leaves P fn tmps R [] u' w') → Leaves P fn tmps R dd u w
  | [], dd, j, m, pan, u, w, h, hm, hd, hs, hR => by
    simp only [runD] at h
    cases h
    simp only [DRel] at hd
    subst hd
    exact hR j w u (Ext.refl _ _) hm hs
  | (f, xs) :: ds, dd, j, m, pan, u, w, h, hm, hd, hs, hR => by
    obtain ⟨cap, args, dd', rfl, hxs, hdd⟩ := hd
    simp only [runD] at h
    split at h
    case h_2 => cases h
    rename_i v m1 p hcall
    obtain ⟨h1, h2⟩ := hc _ _ _ _ _ hcall j w _ u hm hxs hs.urel
    refine leaves_cons (f := f) (args := args ++ cap) hs.run (by simp only [invoke]; exact h1) (h2.mono fun e u' w' he => ?_)
    cases e with
    | returned v =>
      obtain ⟨x, j', p', hx, hp, he, hm', hu⟩ := he
      cases hp
      exact leaves_sound hc ds dd' j' m1 p (settle u') w' h hm' (hdd.ext he) hu.settle fun j'' w'' u'' k1 k2 k3 => hR j'' w'' u'' (he.trans k1) k2 k3
    | panicked chain =>
      obtain ⟨x, hx⟩ := he
      cases hx
    | outgrown => exact he.elim

/-! ### Functions -/
def Fits (P : Program) (T : FuncId → Option EFunc) : Prop := ∀ f ef, T f = some ef → getF P f = some ef

/-- Functions are translated, or it is known what they answer. -/
def FitsO (P : Program) (T : FuncId → Option EFunc) : Prop := ∀ f ef, T f = some ef → getF P f = some ef ∨ ∃ o, ef.prim = some (.orc o)
theorem Fits.o {P : Program} {T : FuncId → Option EFunc} (h : Fits P T) : FitsO P T := fun f ef hf => .inl (h f ef hf)

/-- What is known is so. -/
def OrcOk (P : Program) (T : FuncId → Option EFunc) (G : Globs) (base : Nat) (w0 : World) : Prop :=
  ∀ (f : FuncId) (ef : EFunc) (o : List EV → Option EV) (args : List EV) (m : Mem) (v : EV) (j : Inj) (w : World) (vs : Array Value), T f = some ef → ef.prim = some (.orc o) → o args = some v → MemRel G base w0 j m w → VsRel j m args vs.toList →
    (callFunc f vs).run P w = .ok (.enter f vs) w ∧ Calls P f vs w (Ends G base w0 j m ⟨.val v, m, none⟩)

theorem mnzC_prim {P : Program} {fn : Func} {ef : EFunc} (h : mnzC P fn = some ef) : ∃ t, ef.prim = some (.mnz t) := by
  unfold mnzC at h
  split at h
  · split at h
    · cases h; exact ⟨_, rfl⟩
    · cases h
  · cases h
theorem getF_num {P : Program} {f : FuncId} {ef : EFunc} (h : getF P f = some ef) {o : List EV → Option EV} : ef.prim ≠ some (.orc o) := by
  obtain ⟨fn, _, hfc⟩ := Option.bind_eq_some_iff.1 h
  unfold funC at hfc
  split at hfc
  · split at hfc
    · split at hfc
      · obtain ⟨t, e⟩ := mnzC_prim hfc
        rw [e]
        intro e; cases e
      · split at hfc
        · cases hfc; intro e; cases e
        · cases hfc
    · cases hfc
  · split at hfc
    · cases hfc
    · split at hfc
      · cases hfc
        intro e
        simp only at e
        split at e <;> cases e
      · cases hfc
theorem Fits.orc {P : Program} {T : FuncId → Option EFunc} (h : Fits P T) {G : Globs} {base : Nat} {w0 : World} : OrcOk P T G base w0 :=
  fun f ef o _ _ _ _ _ _ hf hp => absurd hp (getF_num (h f ef hf))

/-- Functions without a Go body do what the evaluator says. -/
def PrimOk (P : Program) (G : Globs) (base : Nat) (w0 : World) : Prop :=
  ∀ (f : FuncId) (ef : EFunc) (n : Prim) (args : List EV) (m : Mem) (r : EV × Mem) (j : Inj) (w : World) (vs : Array Value), getF P f = some ef → ef.prim = some n → primE n G args m = some r → MemRel G base w0 j m w → VsRel j m args vs.toList →
    ∃ v w' j', (callFunc f vs).run P w = .ok (.value v) w' ∧ Ext j m j' r.2 ∧ MemRel G base w0 j' r.2 w' ∧ VRel j' r.2 r.1 v

theorem funC_body {fn : Func} {ef : EFunc} (h : funC P fn = some ef) (hp : ef.prim = none ∨ ef.prim = some .weak) : ∃ c, fn.body = some c ∧ (fn.name == "runtime.NumGoroutine") = false ∧ codeC P fn.ntmps c = some ef.body ∧ resC P fn.results.toList = some ef.res := by
  unfold funC at h
  split at h
  · split at h
    · split at h
      · obtain ⟨t, e⟩ := mnzC_prim h
        rcases hp with hp | hp <;> (rw [e] at hp; cases hp)
      · split at h
        · cases h; rcases hp with hp | hp <;> cases hp
        · cases h
    · cases h
  · rename_i c hc
    split at h
    · cases h
    · rename_i hn
      split at h
      · rename_i b r hb hr
        cases h
        exact ⟨c, hc, by simpa using hn, hb, hr⟩
      · cases h

theorem enter_rel {j : Inj} {m : Mem} {args : List EV} {vs : Array Value} (h : VsRel j m args vs.toList) (nt : Nat) : FRel j m nt (argsE args) (vs ++ Array.replicate (nt - vs.size) undef) := by
  have hl : vs.size = args.length := by have := h.length; simpa using this
  refine ⟨by simp; omega, fun t => ?_⟩
  simp only [argsE]
  by_cases ht : t < args.length
  · obtain ⟨v, hv, hr⟩ := h.get t args[t] (List.getElem?_eq_getElem ht)
    have e1 : args.getD t undefE = args[t] := by simp [ht]
    have e2 : (vs ++ Array.replicate (nt - vs.size) undef).getD t undef = v := by
      rw [Array.getD_eq_getD_getElem?, Array.getElem?_append_left (by omega)]
      simp at hv
      simp [hv]
    rw [e1, e2]
    exact hr
  · have e1 : args.getD t undefE = undefE := by simp [Nat.le_of_not_lt ht]
    have e2 : (vs ++ Array.replicate (nt - vs.size) undef).getD t undef = undef := by
      rw [Array.getD_eq_getD_getElem?, Array.getElem?_append_right (by omega), Array.getElem?_replicate]
      split <;> rfl
    rw [e1, e2]
    exact undef_rel _ _

/-- A row that may be written is forgotten. -/
theorem MemRel.weaken {G : Globs} {base : Nat} {w0 w : World} {j : Inj} {m : Mem} (h : MemRel G base w0 j m w) {b gen : Nat} {cs : List EV} (hb : m.bl[b]? = some (.cells cs gen true)) (low : Nat) :
    ∃ j', MemRel G base w0 j' ⟨m.bl.set b (.dead (gen + 1)), low⟩ w ∧ Ext j m j' ⟨m.bl.set b (.dead (gen + 1)), low⟩ ∧ j'.garb (j.blk b) = some (j.siz b) := by
  have hlt : b < m.bl.length := (List.getElem?_eq_some_iff.1 hb).1
  obtain ⟨_, c, ty, fr, hc, hs, _, hw⟩ := h.cells b _ _ _ hb
  obtain ⟨hbase, hfree⟩ := hw rfl
  have hext : Ext j m ⟨j.blk, j.del, j.siz, fun R => if R = j.blk b then some (j.siz b) else j.garb R⟩ ⟨m.bl.set b (.dead (gen + 1)), low⟩ := by
    refine ⟨by simp, fun k hk => ?_, fun k gk hk hgk hl => ?_, fun k hk hl => ?_, fun R n hR => ?_⟩
    · rw [genAt_set hlt]
      split
      · rename_i e
        subst e
        simp only [genAt, hb, Blk.gen]
        omega
      · exact Nat.le_refl _
    · obtain ⟨cs', rw', hl⟩ := hl
      simp only [bl_set hlt] at hl
      split at hl
      · cases hl
      · exact ⟨⟨cs', rw', hl⟩, rfl, rfl, rfl⟩
    · obtain ⟨es, ck, hl⟩ := hl
      simp only [bl_set hlt] at hl
      split at hl
      · cases hl; cases ck
      · exact ⟨⟨es, ck, hl⟩, rfl⟩
    · simp only
      rw [if_neg]
      · exact hR
      · intro e
        obtain ⟨_, _, r4⟩ := h.garb R n hR
        exact r4 b (.inl ⟨cs, gen, true, hb⟩) e.symm
  refine ⟨_, ?_, hext, by simp⟩
  refine ⟨h.below, h.big, fun g cs' hg => ?_, fun k cs' gen' rw' hk => ?_, fun k es ck hk => ?_, fun k k' hkk h1 h2 => ?_, fun k s p hk => ?_, fun k cs' gen' rw' ck tyk frk hk hh hty => ?_, fun R n hR => ?_⟩
  · obtain ⟨hl, ho, c', ty', fr', hc', hr⟩ := h.globs g cs' hg
    exact ⟨hl, ho, c', ty', fr', hc', hr.ext hext⟩
  · simp only [bl_set hlt] at hk
    split at hk
    · cases hk
    · obtain ⟨ho, c', ty', fr', hc', hs', hr, hw'⟩ := h.cells k cs' gen' rw' hk
      exact ⟨ho, c', ty', fr', hc', hs', hr.ext hext, hw'⟩
  · simp only [bl_set hlt] at hk
    split at hk
    · cases hk
    · obtain ⟨hb1, es', hes, hl, hel⟩ := h.maps k es ck hk
      refine ⟨hb1, es', hes, hl, fun i y hi => ?_⟩
      obtain ⟨e', q1, q2, q3, q4⟩ := hel i y hi
      exact ⟨e', q1, VRel.ext hext _ q2, VRel.ext hext _ q3, q4⟩
  · refine h.inj k k' hkk ?_ ?_
    · rcases h1 with ⟨x, y, h1⟩ | ⟨x, y, h1⟩ <;> simp only [bl_set hlt] at h1 <;> split at h1
      · cases h1
      · exact .inl ⟨x, y, h1⟩
      · cases h1; cases y
      · exact .inr ⟨x, y, h1⟩
    · rcases h2 with ⟨x, y, z, h2⟩ | ⟨x, y, h2⟩ <;> simp only [bl_set hlt] at h2 <;> split at h2
      · cases h2
      · exact .inl ⟨x, y, z, h2⟩
      · cases h2; cases y
      · exact .inr ⟨x, y, h2⟩
  · simp only [bl_set hlt] at hk
    split at hk
    · cases hk
    · exact h.other k s p hk
  · simp only [bl_set hlt] at hk
    split at hk
    · cases hk
    · exact h.typed k cs' gen' rw' ck tyk frk hk hh hty
  · have old : ∀ k, (∃ cs' gen' rw', (m.bl.set b (Blk.dead (gen + 1)))[k]? = some (Blk.cells cs' gen' rw')) ∨ liveMap ⟨m.bl.set b (.dead (gen + 1)), low⟩ k → k ≠ b ∧ ((∃ cs gen rw, m.bl[k]? = some (.cells cs gen rw)) ∨ liveMap m k) := fun k hk => by
      rcases hk with ⟨x, y, z, hk⟩ | ⟨x, y, hk⟩ <;> simp only [bl_set hlt] at hk <;> split at hk
      · cases hk
      · rename_i e; exact ⟨Ne.symm e, .inl ⟨x, y, z, hk⟩⟩
      · cases hk; cases y
      · rename_i e; exact ⟨Ne.symm e, .inr ⟨x, y, hk⟩⟩
    simp only at hR
    by_cases e : R = j.blk b
    · subst e
      rw [if_pos rfl] at hR
      cases hR
      refine ⟨hbase, ⟨c, ty, fr, hc, hs, hfree⟩, fun k hk => ?_⟩
      obtain ⟨k1, k2⟩ := old k hk
      exact fun e => h.inj b k (Ne.symm k1) (.inl ⟨cs, gen, hb⟩) k2 e.symm
    · rw [if_neg e] at hR
      obtain ⟨r1, r2, r4⟩ := h.garb R n hR
      exact ⟨r1, r2, fun k hk => r4 k (old k hk).2⟩
/-- What a function is handed to do with it what it likes. -/
theorem weak_sound {G : Globs} {base : Nat} {w0 w : World} {j : Inj} {m : Mem} (h : MemRel G base w0 j m w) {args : List EV} {vs : List Value} (hv : VsRel j m args vs) {q : List EV × Mem} (hq : weakE args m = some q) :
    ∃ j', MemRel G base w0 j' q.2 w ∧ Ext j m j' q.2 ∧ VsRel j' q.2 q.1 vs := by
  unfold weakE at hq
  split at hq
  · cases hq
    exact ⟨j, h, Ext.refl j m, hv⟩
  · rename_i b g o l c e r
    split at hq
    · rename_i cs g' hb
      split at hq
      · rename_i hg
        obtain ⟨rfl, rfl⟩ := hg
        cases hq
        obtain ⟨j', h1, h2, h3⟩ := h.weaken hb (min m.low b)
        refine ⟨j', h1, h2, ?_⟩
        obtain ⟨y, ys, rfl, ⟨a', cap', rfl, k1, k2, k3⟩, rs⟩ := hv
        refine ⟨_, ys, rfl, ⟨a', cap', rfl, by omega, Nat.le_refl _, ?_⟩, VsRel.ext h2 _ rs⟩
        simp only [SlRel] at k3 ⊢
        refine (k3.2.2 ⟨cs, true, hb⟩).imp id fun ⟨e1, e2⟩ => ⟨j.blk b, j.del b, j.siz b, h3, e1, ?_, e2⟩
        have : l * e ≤ cap' * e := Nat.mul_le_mul_right _ (by omega)
        omega
      · cases hq
    · cases hq
  · cases hq

theorem Ends.of {G : Globs} {base : Nat} {w0 : World} {j j1 : Inj} {m m1 : Mem} {r : CR} (hx : Ext j m j1 m1) : ∀ {e : Ending} {w' : World}, Ends G base w0 j1 m1 r e w' → Ends G base w0 j m r e w'
  | .returned v, _, ⟨x, j', h1, h2, h3⟩ => ⟨x, j', h1, hx.trans h2, h3⟩
  | .panicked chain, _, ⟨x, j', v, h1, h2, h3, h4⟩ => ⟨x, j', v, h1, h2, hx.trans h3, h4⟩
  | .outgrown, _, h => h.elim

theorem fun_sound {T : FuncId → Option EFunc} (hmix : P.follows .mixedOrders = true) (hT : FitsO P T) {G : Globs} {base : Nat} {w0 : World} (hprim : PrimOk P G base w0) (horc : OrcOk P T G base w0) : ∀ k, CallsOk P G base w0 (evFun T G k) ∧ CallsDOk P G base w0 (evFun T G k)
  | 0 => ⟨fun f args m r h => by simp [evFun] at h, fun f args m pan r h => by simp [evFun] at h⟩
  | k + 1 => by
    obtain ⟨ihc, ihd⟩ := fun_sound hmix hT hprim horc k
    have norm : ∀ (f : FuncId) (ef : EFunc) (hef : T f = some ef) (hp : ef.prim = none ∨ ef.prim = some .weak) (args : List EV) (m : Mem) (r : CR) (h : (match evCode (evFun T G k) G k ef.body ⟨argsE args, ⟨m.bl, m.bl.length⟩, [], none⟩ with
        | some (.normal, s) => finE (evFun T G k) G ef.res m none s
        | some (.ret, s) => finE (evFun T G k) G ef.res m none s
        | some (.pan v, s) => finE (evFun T G k) G ef.res m (some v) s
        | _ => none) = some r) (j : Inj) (w : World) (vs : Array Value) (hm : MemRel G base w0 j m w) (hvs : VsRel j m args vs.toList),
        (callFunc f vs).run P w = .ok (.enter f vs) w ∧ Calls P f vs w (Ends G base w0 j m r) := by
        intro f ef hef hp args m r h j w vs hm hvs
        have hg := (hT f ef hef).resolve_right (by rintro ⟨o, ho⟩; rcases hp with hp | hp <;> rw [hp] at ho <;> cases ho)
        obtain ⟨fn, hfn, hfc⟩ := Option.bind_eq_some_iff.1 hg
        obtain ⟨c, hb, hname, hcc, hrr⟩ := funC_body hfc hp
        refine ⟨by simp only [callFunc, Sem.run_bind, run_program, Result.andThen_ok, hfn, hname, hb, Bool.false_eq_true, if_false, Option.isNone_some, Sem.run_pure], ?_⟩
        have hm1 : MemRel G base w0 j ⟨m.bl, m.bl.length⟩ w := hm.low rfl
        have he1 : Ext j m j ⟨m.bl, m.bl.length⟩ := Ext.low j rfl
        have he0 : Ext j ⟨m.bl, m.bl.length⟩ j m := Ext.low j rfl
        refine calls_of_wp_defers hfn hb ?_
        intro b kk cs
        let X : Fix := ⟨G, base, w0, fn.ntmps, default, cs, j, ⟨m.bl, m.bl.length⟩⟩
        have hs0 : SRel X j ⟨argsE args, ⟨m.bl, m.bl.length⟩, [], none⟩ { tmps := vs ++ Array.replicate (fn.ntmps - vs.size) undef, defers := [] } cs w :=
          ⟨(enter_rel hvs fn.ntmps).ext he1, hm1, rfl, rfl, Ext.refl _ _⟩
        have main : ∀ ex s, evCode (evFun T G k) G k ef.body ⟨argsE args, ⟨m.bl, m.bl.length⟩, [], none⟩ = some (ex, s) →
            ∃ e a' w', XPost X ex s e a' cs w' ∧ Arrives P (lone (b.at { tmps := vs ++ Array.replicate (fn.ntmps - vs.size) undef, defers := [] } (.code c :: kk)) cs w) b kk cs e a' w' := by
          intro ex s hev
          obtain ⟨e, a', cs', w', hq, hr⟩ := code_sound (B := fun _ => True) (leaf_plain (X := X) ihc) (leafD_plain hmix ihc (evFun_kept k)) (leafL_plain hmix ihc (evFun_kept k) (evFun_fill k)) c ef.body _ ex s j _ cs w hcc hev rfl hs0 b kk trivial
          obtain ⟨j', hs', hx⟩ := hq
          have hcs : cs' = cs := by
            have h1 := hs'.pan
            have h2 := evCode_p hev
            have : s.p = none := by simpa using h2
            rw [this] at h1
            exact h1
          subst hcs
          exact ⟨e, a', w', ⟨j', hs', hx⟩, hr⟩
        have fin : ∀ (pan : Option EV) (s : St) (j' : Inj) (a' : Act) (w' : World) (u : FrameMode), evCode (evFun T G k) G k ef.body ⟨argsE args, ⟨m.bl, m.bl.length⟩, [], none⟩ = some (match pan with | some v => .pan v | none => .normal, s) ∨ evCode (evFun T G k) G k ef.body ⟨argsE args, ⟨m.bl, m.bl.length⟩, [], none⟩ = some (.ret, s) →
            finE (evFun T G k) G ef.res m pan s = some r → SRel X j' s a' cs w' → Settled j' s.m pan u → Leaves P fn a'.tmps (Ends G base w0 j m r) a'.defers u w' := by
          intro pan s j' a' w' u hev hfin hs hset
          have hk0 : Kept ⟨m.bl, m.bl.length⟩ s.m := by
            rcases hev with hev | hev
            · exact evCode_kept (evFun_kept k) hev
            · exact evCode_kept (evFun_kept k) hev
          unfold finE at hfin
          split at hfin
          · cases hfin
          split at hfin
          · rename_i m' hd
            obtain ⟨vs', hvs', rfl⟩ := Option.map_eq_some_iff.1 hfin
            refine leaves_sound ihd s.d a'.defers j' s.m pan u w' hd hs.mem hs.dfr hset fun j2 w2 u2 k1 k2 k3 => ?_
            cases k3
            obtain ⟨v, hv, hvr⟩ := results_run k2 (hs.fr.ext k1) hrr hvs'
            obtain ⟨l1, l2, l3, l4⟩ := leave_sound (hk0.trans (runD_kept (evFun_kept k) hd)) hm k2 (he1.trans (hs.ext.trans k1)) hvr
            exact ⟨v, hv, _, j2, rfl, l2, l1, l3⟩
          · rename_i v m' hd
            cases hfin
            refine leaves_sound ihd s.d a'.defers j' s.m pan u w' hd hs.mem hs.dfr hset fun j2 w2 u2 k1 k2 k3 => ?_
            obtain ⟨v', rfl, hvr⟩ := k3
            obtain ⟨l1, l2, l3, l4⟩ := leave_sound (hk0.trans (runD_kept (evFun_kept k) hd)) hm k2 (he1.trans (hs.ext.trans k1)) hvr
            exact ⟨v, j2, v', rfl, rfl, l2, l1, l3⟩
          · cases hfin
        split at h
        · rename_i s hev
          obtain ⟨e, a', w', ⟨j', hs', hx⟩, hr⟩ := main _ _ hev
          cases e <;> first | exact hx.elim | skip
          exact ⟨.normal, a', w', fin none s j' a' w' .returning (.inl hev) h hs' rfl, hr⟩
        · rename_i s hev
          obtain ⟨e, a', w', ⟨j', hs', hx⟩, hr⟩ := main _ _ hev
          cases e <;> first | exact hx.elim | skip
          exact ⟨.ret, a', w', fin none s j' a' w' .returning (.inr hev) h hs' rfl, hr⟩
        · rename_i v s hev
          obtain ⟨e, a', w', ⟨j', hs', hx⟩, hr⟩ := main _ _ hev
          cases e <;> first | exact hx.elim | skip
          obtain ⟨v', rfl, hvr⟩ := hx
          exact ⟨.panic _, a', w', fin (some v) s j' a' w' _ (.inl hev) h hs' ⟨v', rfl, hvr⟩, hr⟩
        · cases h
    refine ⟨?_, ?_⟩
    · intro f args m r h j w vs hm hvs
      rw [evFun] at h
      split at h
      · cases h
      rename_i ef hef
      split at h
      · rename_i hp
        split at h
        · cases h
        split at h
        · cases h
        rename_i q hq
        obtain ⟨j1, h1, h2, h3⟩ := weak_sound hm hvs hq
        obtain ⟨c1, c2⟩ := norm f ef hef (.inr hp) q.1 q.2 r h j1 w vs h1 h3
        exact .inl ⟨c1, c2.mono fun e w' he => Ends.of h2 he⟩
      · rename_i n _ hn
        split at h
        · cases h
        obtain ⟨q, hq, rfl⟩ := Option.map_eq_some_iff.1 h
        rcases hT f ef hef with hg | ⟨o, ho⟩
        case inr =>
          rw [ho] at hn
          cases hn
          obtain ⟨v, hv, rfl⟩ := Option.map_eq_some_iff.1 hq
          exact .inl (horc f ef o args m v j w vs hef ho hv hm hvs)
        obtain ⟨v, w', j', hv, he, hm', hr⟩ := hprim f ef n args m q j w vs hg hn hq hm hvs
        exact .inr ⟨v, w', hv, q.1, j', rfl, he, hm', hr⟩
      · rename_i hp
        exact .inl (norm f ef hef (.inl hp) args m r h j w vs hm hvs)
    · intro f args m pan r h j w vs u hm hvs hu
      rw [evFun] at h
      split at h
      · cases h
      rename_i ef hef
      split at h
      · split at h
        · cases h
        · rename_i hn; exact absurd rfl hn
      · split at h
        · cases h
        · rename_i hn; exact absurd rfl hn
      · rename_i hp
        have hg := (hT f ef hef).resolve_right (by rintro ⟨o, ho⟩; rw [hp] at ho; cases ho)
        obtain ⟨fn, hfn, hfc⟩ := Option.bind_eq_some_iff.1 hg
        obtain ⟨c, hb, hname, hcc, hrr⟩ := funC_body hfc (.inl hp)
        refine ⟨by simp only [callFunc, Sem.run_bind, run_program, Result.andThen_ok, hfn, hname, hb, Bool.false_eq_true, if_false, Option.isNone_some, Sem.run_pure], ?_⟩
        have hm1 : MemRel G base w0 j ⟨m.bl, m.bl.length⟩ w := hm.low rfl
        have he1 : Ext j m j ⟨m.bl, m.bl.length⟩ := Ext.low j rfl
        refine callsD_of_wpS hfn hb ?_
        intro c0 cs hcu
        let X : Fix := ⟨G, base, w0, fn.ntmps, c0, cs, j, ⟨m.bl, m.bl.length⟩⟩
        have hs0 : SRel X j ⟨argsE args, ⟨m.bl, m.bl.length⟩, [], some pan⟩ { tmps := vs ++ Array.replicate (fn.ntmps - vs.size) undef, defers := [] } (c0 :: cs) w :=
          ⟨(enter_rel hvs fn.ntmps).ext he1, hm1, rfl, ⟨u, hu.ext he1, by subst hcu; rfl⟩, Ext.refl _ _⟩
        intro b kk hbk hbr
        have main : ∀ ex s, evCode (evFun T G k) G k ef.body ⟨argsE args, ⟨m.bl, m.bl.length⟩, [], some pan⟩ = some (ex, s) →
            ∃ e a' cs' w', XPost X ex s e a' cs' w' ∧ Arrives P (lone (b.at { tmps := vs ++ Array.replicate (fn.ntmps - vs.size) undef, defers := [] } (.code c :: kk)) (c0 :: cs) w) b kk cs' e a' w' := by
          intro ex s hev
          exact code_sound (leaf_deferred (X := X) ihc) leafD_deferred leafL_deferred c ef.body _ ex s j _ (c0 :: cs) w hcc hev rfl hs0 b kk ⟨hbk, hbr⟩
        have fin : ∀ (ex : Ex) (s : St), evCode (evFun T G k) G k ef.body ⟨argsE args, ⟨m.bl, m.bl.length⟩, [], some pan⟩ = some (ex, s) → ∀ (q : Option EV) (j' : Inj) (a' : Act) (cs' : List Frame) (w' : World),
            finE (evFun T G k) G ef.res m q s = some r → SRel X j' s a' cs' w' →
            a'.defers = [] ∧ ∃ u', cs' = { c0 with mode := u' } :: cs ∧ (q = none → ∃ v, (results fn a'.tmps).run P w' = .ok v w' ∧ EndsD G base w0 j m r (.returned v) u' w') ∧ (∀ v, q = some v → ∃ x, r.res = .pan x) := by
          intro ex s hev q j' a' cs' w' hfin hs
          have hk0 : Kept ⟨m.bl, m.bl.length⟩ s.m := evCode_kept (evFun_kept k) hev
          have hps : s.p.isSome = true := evCode_p hev
          obtain ⟨p', hp'⟩ := Option.isSome_iff_exists.1 hps
          unfold finE at hfin
          split at hfin
          · cases hfin
          rename_i hnd
          have hd0 : s.d = [] := by
            by_cases hd : s.d.isEmpty = true
            · simpa using hd
            · exact absurd ⟨hps, by simpa using hd⟩ hnd
          rw [hd0] at hfin
          simp only [runD] at hfin
          have hdf : a'.defers = [] := by have := hs.dfr; rw [hd0] at this; exact this
          have hpan := hs.pan
          rw [hp'] at hpan
          obtain ⟨u', hu', hcs⟩ := hpan
          refine ⟨hdf, u', hcs, ?_, ?_⟩
          · rintro rfl
            simp only at hfin
            obtain ⟨vs', hvs', rfl⟩ := Option.map_eq_some_iff.1 hfin
            obtain ⟨v, hv, hvr⟩ := results_run hs.mem hs.fr hrr hvs'
            obtain ⟨l1, l2, l3, l4⟩ := leave_sound hk0 hm hs.mem (he1.trans hs.ext) hvr
            refine ⟨v, hv, _, j', p', rfl, hp', l2, l1, ?_⟩
            cases p' with
            | none => exact hu'
            | some y =>
              obtain ⟨y', e', hy⟩ := hu'
              rcases evCode_pk hev with hpk | ⟨_, hpk⟩
              · simp only at hpk
                rw [hp'] at hpk
                cases hpk
                obtain ⟨v0, _, hv0⟩ := hu
                exact ⟨y', e', l4 y y' (VRel.noref y hv0) hy⟩
              · simp only at hpk
                rw [hp'] at hpk
                cases hpk
          · rintro v rfl
            simp only at hfin
            cases hfin
            exact ⟨_, rfl⟩
        split at h
        · rename_i s hev
          obtain ⟨e, a', cs', w', ⟨j', hs', hx⟩, hr⟩ := main _ _ hev
          cases e <;> first | exact hx.elim | skip
          obtain ⟨h1, u', h2, h3, _⟩ := fin _ _ hev none j' a' cs' w' h hs'
          exact ⟨.normal, a', cs', w', ⟨h1, u', h2, h3 rfl⟩, hr⟩
        · rename_i s hev
          obtain ⟨e, a', cs', w', ⟨j', hs', hx⟩, hr⟩ := main _ _ hev
          cases e <;> first | exact hx.elim | skip
          obtain ⟨h1, u', h2, h3, _⟩ := fin _ _ hev none j' a' cs' w' h hs'
          exact ⟨.ret, a', cs', w', ⟨h1, u', h2, h3 rfl⟩, hr⟩
        · rename_i v s hev
          obtain ⟨e, a', cs', w', ⟨j', hs', hx⟩, hr⟩ := main _ _ hev
          cases e <;> first | exact hx.elim | skip
          obtain ⟨h1, u', h2, _, h3⟩ := fin _ _ hev (some v) j' a' cs' w' h hs'
          exact ⟨.panic _, a', cs', w', ⟨h1, u', h2, h3 v rfl⟩, hr⟩
        · cases h

end Go.Ev
