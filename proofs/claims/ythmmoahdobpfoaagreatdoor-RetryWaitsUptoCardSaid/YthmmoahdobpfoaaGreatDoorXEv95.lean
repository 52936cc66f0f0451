/- The engine, part 95: regions whose order is drawn and that lay blocks of known content at any time ahead of the cut: every order comes to what the text's order comes to in which these blocks are laid at the cut. There are no conditions but those that lateOk reckons. -/
import Derived.Test.YthmmoahdobpfoaaGreatDoorXEv94
set_option linter.unusedSectionVars false
set_option linter.unusedVariables false
set_option linter.unusedSimpArgs false
namespace Go.Ev
open Go.RowKit (Below)

/-! ### What lateOk says -/
structure LSpec (ops : Array Oper) (es : List EOper) (fl : Nat → Bool) (b : Nat → Nat → Bool) (q : Nat) : Prop where
  edges : ∀ (j : Nat) (o : Oper), ops[j]? = some o → ∀ x ∈ o.after, Region.binds .any x = true → x.on < j
  clos : ∀ (j : Nat) (o : Oper) (i : Nat), ops[j]? = some o → i < ops.size → b j i = true → ∃ x ∈ o.after, Region.binds .any x = true ∧ (x.on = i ∨ b x.on i = true)
  dst : ∀ (i j : Nat) (ei ej : EOper), es[i]? = some ei → es[j]? = some ej → i ≠ j → ∀ d, ei.dst = some d → ej.dst ≠ some d
  reads : ∀ (i j : Nat) (ei ej : EOper), es[i]? = some ei → es[j]? = some ej → i ≠ j → ∀ t ∈ ej.reads, ei.dst = some t → (i < j → b j i = true) ∧ (j < i → b i j = true)
  anch : ∀ (i j : Nat) (ei ej : EOper), es[i]? = some ei → es[j]? = some ej → i < j → fl i = false → fl j = false → b j i = true
  tail : ∀ (i j : Nat) (ei ej : EOper), es[i]? = some ei → es[j]? = some ej → i < j → q ≤ j → ei.op.calm = false → ej.op.calm = false → b j i = true

def flagOfL (ops : Array Oper) (es : List EOper) (q k : Nat) : Bool := (flagsL ops es q).getD k false
theorem flagsL_get {ops : Array Oper} {es : List EOper} {q k : Nat} {e : EOper} (h : es[k]? = some e) : (flagsL ops es q)[k]? = some (floatsL ops (Region.before ops) es q k) := by
  have hk : k < es.length := (List.getElem?_eq_some_iff.1 h).1
  simp only [flagsL, List.getElem?_map, List.getElem?_range hk, Option.map_some]
theorem flagOfL_eq {ops : Array Oper} {es : List EOper} {q k : Nat} {e : EOper} (h : es[k]? = some e) : flagOfL ops es q k = (flagOf ops es q k || (latC ops es q).contains k) := by
  have hk : k < es.length := (List.getElem?_eq_some_iff.1 h).1
  simp only [flagOfL, List.getD, flagsL_get h, Option.getD_some, floatsL, flagOf, flagsC, List.getElem?_map, List.getElem?_range hk, Option.map_some]

theorem lateOk_spec {ops : Array Oper} {es : List EOper} {q : Nat} (h : lateOk ops es q = true) (hl : es.length = ops.size) : LSpec ops es (flagOfL ops es q) (fun j i => ((Region.before ops).getD j 0).testBit i) q := by
  have key : ∀ j, j < ops.size → ((ops.getD j default).after.all (fun x => !Region.binds .any x || decide (x.on < j)) = true) ∧ ∀ i, i < ops.size →
      ((!((Region.before ops).getD j 0).testBit i || (ops.getD j default).after.any fun x => Region.binds .any x && (x.on == i || ((Region.before ops).getD x.on 0).testBit i)) = true) ∧
      ((i == j || (es.getD i ⟨none, .recover, none⟩).dst.isNone || (es.getD i ⟨none, .recover, none⟩).dst != (es.getD j ⟨none, .recover, none⟩).dst) = true) ∧
      ((i == j || !(es.getD j ⟨none, .recover, none⟩).reads.any (fun t => (es.getD i ⟨none, .recover, none⟩).dst == some t) || (if i < j then ((Region.before ops).getD j 0).testBit i else ((Region.before ops).getD i 0).testBit j)) = true) ∧
      ((!decide (i < j) || floatsL ops (Region.before ops) es q i || floatsL ops (Region.before ops) es q j || ((Region.before ops).getD j 0).testBit i) = true) ∧
      ((!decide (i < j) || decide (j < q) || (es.getD i ⟨none, .recover, none⟩).op.calm || (es.getD j ⟨none, .recover, none⟩).op.calm || ((Region.before ops).getD j 0).testBit i) = true) := by
    intro j hj
    unfold lateOk at h
    simp only [List.all_eq_true, List.mem_range] at h
    have := h j hj
    simp only [Bool.and_eq_true, List.all_eq_true, List.mem_range] at this
    refine ⟨this.1, fun i hi => ?_⟩
    have := this.2 i hi
    exact ⟨this.1.1.1.1, this.1.1.1.2, this.1.1.2, this.1.2, this.2⟩
  have hlt : ∀ {i : Nat} {e : EOper}, es[i]? = some e → i < ops.size := fun {i e} he => by rw [← hl]; exact (List.getElem?_eq_some_iff.1 he).1
  have hget : ∀ {i : Nat} {e : EOper}, es[i]? = some e → es.getD i ⟨none, .recover, none⟩ = e := fun {i e} he => by simp [he]
  have hop : ∀ {j : Nat} {o : Oper}, ops[j]? = some o → j < ops.size ∧ ops.getD j default = o := fun {j o} ho => by
    obtain ⟨h1, h2⟩ := Array.getElem?_eq_some_iff.1 ho
    exact ⟨h1, by simp [ho]⟩
  have tl : ∀ (i j : Nat) (ei ej : EOper), es[i]? = some ei → es[j]? = some ej → i < j → q ≤ j → ei.op.calm = false → ej.op.calm = false → ((Region.before ops).getD j 0).testBit i = true := by
    intro i j ei ej hi hj hij hq c1 c2
    have := ((key j (hlt hj)).2 i (hlt hi)).2.2.2.2
    rw [hget hi, hget hj, c1, c2] at this
    simpa [hij, Nat.not_lt.2 hq] using this
  refine ⟨?_, ?_, ?_, ?_, ?_, tl⟩
  · intro j o ho x hx hb
    obtain ⟨hj, e⟩ := hop ho
    have := (key j hj).1
    rw [e] at this
    have := Array.all_eq_true_iff_forall_mem.1 this x hx
    simpa [hb] using this
  · intro j o i ho hi hb
    obtain ⟨hj, e⟩ := hop ho
    have := ((key j hj).2 i hi).1
    rw [e, hb] at this
    simp only [Bool.not_true, Bool.false_or] at this
    rw [← Array.any_toList] at this
    obtain ⟨x, hx, h1⟩ := List.any_eq_true.1 this
    simp only [Bool.and_eq_true, Bool.or_eq_true, beq_iff_eq] at h1
    exact ⟨x, by simpa using hx, h1.1, h1.2⟩
  · intro i j ei ej hi hj hne d hd hd2
    have := ((key j (hlt hj)).2 i (hlt hi)).2.1
    rw [hget hi, hget hj, hd, hd2] at this
    simp [hne] at this
  · intro i j ei ej hi hj hne t ht hd
    have := ((key j (hlt hj)).2 i (hlt hi)).2.2.1
    rw [hget hi, hget hj] at this
    have h1 : (ej.reads.any fun t => ei.dst == some t) = true := List.any_eq_true.2 ⟨t, ht, by simp [hd]⟩
    rw [h1] at this
    have h2 : (i == j) = false := by simpa using hne
    rw [h2] at this
    simp only [Bool.not_true, Bool.or_false, Bool.false_or] at this
    refine ⟨fun hij => ?_, fun hij => ?_⟩
    · rw [if_pos hij] at this; exact this
    · rw [if_neg (by omega)] at this; exact this
  · intro i j ei ej hi hj hij h1 h2
    have hdraw := ((key j (hlt hj)).2 i (hlt hi)).2.2.2.1
    have e1 : floatsL ops (Region.before ops) es q i = false := by
      simpa [flagOfL, List.getD, flagsL_get hi] using h1
    have e2 : floatsL ops (Region.before ops) es q j = false := by
      simpa [flagOfL, List.getD, flagsL_get hj] using h2
    simpa [hij, e1, e2] using hdraw

/-- Operations that lay something of known content. -/
def LateOp (o : Op) : Prop := (∃ t, o = .alloc t) ∨ ∃ t, o = .makeMap t none
theorem lateB_calm {o : EOp} {x : Blk} (h : lateB o = some x) : o.calm = false := by
  cases o <;> first | (simp [lateB] at h; done) | rfl
theorem latC_mem {ops : Array Oper} {es : List EOper} {q k : Nat} (h : k ∈ latC ops es q) : k < q ∧ ∃ (e : EOper) (x : Blk), es[k]? = some e ∧ lateB e.op = some x ∧ e.guard = none ∧ LateOp (ops.getD k default).op := by
  simp only [latC, List.mem_filter, List.mem_range, Bool.and_eq_true, decide_eq_true_eq] at h
  obtain ⟨h1, ⟨⟨⟨h2, h3⟩, h4⟩, h5⟩, _⟩ := h
  have he : es[k]? = some es[k] := List.getElem?_eq_getElem h1
  have hg : opAt es k = es[k].op := by simp [opAt, he]
  rw [hg] at h3
  have hgu : es[k].guard = none := by
    have : es.getD k ⟨none, .recover, none⟩ = es[k] := by simp [he]
    rw [this] at h4
    simpa using h4
  obtain ⟨x, hx⟩ := Option.isSome_iff_exists.1 h3
  split at h5
  · rename_i t ht
    exact ⟨h2, es[k], x, he, hx, hgu, .inl ⟨t, ht⟩⟩
  · rename_i t ht
    exact ⟨h2, es[k], x, he, hx, hgu, .inr ⟨t, ht⟩⟩
  · cases h5
theorem latC_nodup (ops : Array Oper) (es : List EOper) (q : Nat) : (latC ops es q).Nodup := List.Nodup.sublist List.filter_sublist List.nodup_range

theorem lates_get {es : List EOper} : ∀ {js : List Nat} {bs : List Blk}, lates es js = some bs → ∀ (i k : Nat), js[i]? = some k → ∃ (e : EOper) (x : Blk), es[k]? = some e ∧ lateB e.op = some x ∧ bs[i]? = some x
  | [], bs, h, i, k, hi => by simp at hi
  | c :: js, bs, h, i, k, hi => by
    simp only [lates] at h
    split at h
    · rename_i x bs' h1 h2
      cases h
      cases i with
      | zero =>
        simp only [List.getElem?_cons_zero, Option.some.injEq] at hi
        subst hi
        obtain ⟨e, he, hx⟩ := Option.bind_eq_some_iff.1 h1
        exact ⟨e, x, he, hx, rfl⟩
      | succ i => exact lates_get h2 i k (by simpa using hi)
    · cases h

/-! ### What is laid -/
/-- What lies in the blocks from rb on when the operations of L are done. -/
def FLf (bs : List Blk) (js : List Nat) (rb : Nat) (L : Nat → Bool) (b : Nat) : Option Blk :=
  if rb ≤ b then (match js[b - rb]?, bs[b - rb]? with
    | some k, some x => if L k = true then some x else none
    | _, _ => none) else none
section
variable {bs : List Blk} {js : List Nat} {rb : Nat} {L L' : Nat → Bool}
theorem FL_low {b : Nat} (h : b < rb) : FLf bs js rb L b = none := by unfold FLf; rw [if_neg (by omega)]
theorem FL_at {i k : Nat} {x : Blk} (hj : js[i]? = some k) (hx : bs[i]? = some x) : FLf bs js rb L (rb + i) = if L k = true then some x else none := by
  unfold FLf
  rw [if_pos (by omega), show rb + i - rb = i by omega, hj, hx]
theorem FL_congr (h : ∀ k ∈ js, L k = L' k) : FLf bs js rb L = FLf bs js rb L' := by
  funext b
  unfold FLf
  by_cases hb : rb ≤ b
  · simp only [if_pos hb]
    cases hj : js[b - rb]? with
    | none => rfl
    | some k =>
      cases hx : bs[b - rb]? with
      | none => rfl
      | some x => simp only [h k (List.mem_of_getElem? hj)]
  · simp only [if_neg hb]
theorem FL_dead {m : Mem} (h : ∀ i, i < bs.length → m.bl[rb + i]? = some (.dead 0)) : Dead (FLf bs js rb L) m := by
  intro b hb
  unfold FLf at hb
  split at hb
  · rename_i hrb
    cases hx : bs[b - rb]? with
    | none => rw [hx] at hb; cases hj : js[b - rb]? <;> rw [hj] at hb <;> cases hb
    | some x => exact ⟨0, by have := h (b - rb) (List.getElem?_eq_some_iff.1 hx).1; rwa [show rb + (b - rb) = b by omega] at this⟩
  · cases hb
theorem FL_set {m : Mem} (hn : js.Nodup) {i k : Nat} {x : Blk} (hj : js[i]? = some k) (hx : bs[i]? = some x) (hm : rb + i < m.bl.length) (hL : ∀ c, c ≠ k → L' c = L c) (hk : L' k = true) : (fill (FLf bs js rb L') m).bl = (fill (FLf bs js rb L) m).bl.set (rb + i) x := by
  apply List.ext_getElem?
  intro b
  rw [fill_get, List.getElem?_set, fill_get, fill_len]
  by_cases e : rb + i = b
  · subst e
    rw [if_pos rfl, if_pos hm, FL_at hj hx, if_pos hk, List.getElem?_eq_getElem hm]
    rfl
  · rw [if_neg e]
    have : FLf bs js rb L' b = FLf bs js rb L b := by
      unfold FLf
      by_cases hb : rb ≤ b
      · simp only [if_pos hb]
        cases hc : js[b - rb]? with
        | none => rfl
        | some c =>
          have hck : c ≠ k := fun e' => e (by
            subst e'
            have := (List.getElem?_inj (List.getElem?_eq_some_iff.1 hj).1 hn).1 (hj.trans hc.symm)
            omega)
          cases bs[b - rb]? <;> simp only [hL c hck]
      · simp only [if_neg hb]
    rw [this]
end

section
variable {P : Program} {G : Globs} {base : Nat} {w0 w : World} {j : Inj} {m : Mem}
theorem late_cells (hm : MemRel G base w0 j m w) {t : TypeId} {z : List EV} {r : Nat} (hr : m.bl[r]? = some (.dead 0)) (ho : opC P (.alloc t) = some (.new z)) (low : Nat) :
    ∃ j' v w', (Instr.alloc t true (.tuple #[])).run P w = .ok v w' ∧ Ext j m j' ⟨m.bl.set r (.cells z 1 true), low⟩ ∧ MemRel G base w0 j' ⟨m.bl.set r (.cells z 1 true), low⟩ w' ∧ VRel j' ⟨m.bl.set r (.cells z 1 true), low⟩ (.ptr (some ⟨.mem r 1, 0⟩)) v := by
  have hlt : r < m.bl.length := (List.getElem?_eq_some_iff.1 hr).1
  simp only [opC] at ho
  split at ho
  case h_2 => cases ho
  rename_i z' n hz hn
  obtain ⟨zs, hzs, h⟩ := Option.map_eq_some_iff.1 ho
  obtain ⟨rfl, _, hok⟩ := fixC_spec hzs
  split at h
  · cases h
  cases h
  obtain ⟨v, hv, hrz⟩ := run_zero hz
  have hx := constE_rel (j := j) (m := m) hv
  refine ⟨_, .pointer (some ⟨w.heap.size, 0, none⟩), w.alloc (.cells v.cells t), by simp [Instr.alloc, hrz, newVar, newRow], Ext.revive hr (fun _ _ _ e => by cases e; exact Nat.le_refl _) _ _ low, hm.revive hr hx.cells hok t low, _, rfl, ?_⟩
  simp only [AdRel]
  refine ⟨by simpa using hlt, ?_, fun _ => by simp [Inj.lay]⟩
  unfold genAt
  simp only [List.getElem?_set, if_true, if_pos hlt]
  exact Nat.le_refl _
theorem late_run (hm : MemRel G base w0 j m w) {op : Op} (hop : LateOp op) {e : EOp} {x : Blk} (hx : lateB e = some x) (ho : opC P op = some e) {r : Nat} (hr : m.bl[r]? = some (.dead 0)) (low : Nat) :
    ∃ j' v w', (∀ (ev : Operand → Value) (o : Oper), o.op = op → (execOp ev o).run P w = .ok (.value v) w') ∧ Ext j m j' ⟨m.bl.set r x, low⟩ ∧ MemRel G base w0 j' ⟨m.bl.set r x, low⟩ w' ∧ VRel j' ⟨m.bl.set r x, low⟩ (lateV e r) v := by
  have hlt : r < m.bl.length := (List.getElem?_eq_some_iff.1 hr).1
  rcases hop with ⟨t, rfl⟩ | ⟨t, rfl⟩
  · have hnew : ∃ z, e = .new z := by
      cases e <;> first | exact ⟨_, rfl⟩ | (simp [lateB] at hx; done) | skip
      exfalso
      simp only [opC] at ho
      split at ho
      case h_2 => cases ho
      obtain ⟨zs, _, h⟩ := Option.map_eq_some_iff.1 ho
      split at h <;> cases h
    obtain ⟨z, rfl⟩ := hnew
    simp only [lateB, Option.some.injEq] at hx
    subst hx
    obtain ⟨j', v, w', h1, h2, h3, h4⟩ := late_cells hm hr ho low
    refine ⟨j', v, w', fun ev o hoe => ?_, h2, h3, h4⟩
    obtain ⟨dst, op, type, pos, after, guard⟩ := o
    simp only at hoe
    subst hoe
    show (do pure (Next.value (← Instr.alloc t true (.tuple #[]))) : Sem Next).run P w = _
    simp [h1]
  · simp only [opC, Option.some.injEq] at ho
    subst ho
    simp only [lateB, Option.some.injEq] at hx
    subst hx
    refine ⟨_, .map (some w.heap.size), w.alloc (.map #[] 0), fun ev o hoe => ?_, Ext.revive hr (fun _ _ _ e => by cases e) w.heap.size 0 low, hm.reviveMap hr low, _, rfl, ?_, fun _ => by simp [Inj.lay]⟩
    · obtain ⟨dst, op, type, pos, after, guard⟩ := o
      simp only at hoe
      subst hoe
      show (do pure (Next.value (← Instr.makeMap t none)) : Sem Next).run P w = _
      simp [Instr.makeMap]
    · unfold genAt
      simp only [List.getElem?_set, if_true, if_pos hlt]
      exact Nat.le_refl _
end
end Go.Ev
