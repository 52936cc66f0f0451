/- The engine, part 3: each resolved operation does in the machine what it does in the evaluator. There are no conditions. -/
import Derived.Test.YthmmoahdobpfoaaGreatDoorXEv2
import Derived.Laws.Entries
import Derived.Laws.BytesString
import Derived.Laws.Append
set_option linter.unusedSectionVars false
set_option linter.unusedVariables false
set_option linter.unusedSimpArgs false
namespace Go.Ev
open Go.RowKit (Below)

/-- The machine's temporaries and the evaluator's. -/
structure FRel (j : Inj) (m : Mem) (nt : Nat) (A : Fr) (tmps : Array Value) : Prop where
  size : nt ≤ tmps.size
  rel : ∀ t, VRel j m (A t) (tmps.getD t undef)

theorem FRel.ext {j j' : Inj} {m m' : Mem} {nt : Nat} {A : Fr} {tmps : Array Value} (h : Ext j m j' m') (r : FRel j m nt A tmps) : FRel j' m' nt A tmps :=
  ⟨r.size, fun t => VRel.ext h _ (r.rel t)⟩

theorem undef_rel (j : Inj) (m : Mem) : VRel j m undefE undef := ⟨#[], rfl, rfl⟩

theorem FRel.put {j : Inj} {m : Mem} {nt : Nat} {A : Fr} {tmps : Array Value} (h : FRel j m nt A tmps) {d : Nat} (hd : d < nt) {x : EV} {v : Value} (hx : VRel j m x v) :
    FRel j m nt (upd A d x) (tmps.setIfInBounds d v) := by
  refine ⟨by simpa using h.size, fun t => ?_⟩
  unfold upd
  by_cases e : t = d
  · subst e
    simp only [if_true]
    have : t < tmps.size := Nat.lt_of_lt_of_le hd h.size
    simpa [this] using hx
  · simp only [e, if_false]
    have := h.rel t
    simpa [Array.getElem?_setIfInBounds_ne (Ne.symm e)] using this

theorem leafE_rel {j : Inj} {m : Mem} {v : Value} {x : EV} (h : leafE v = some x) : VRel j m x v ∧ cellOk x = true := by
  unfold leafE at h
  split at h <;> first
    | (cases h; exact ⟨rfl, rfl⟩)
    | (cases h; exact ⟨⟨rfl, rfl, rfl⟩, rfl⟩)
    | cases h

theorem leavesE_rel {j : Inj} {m : Mem} : ∀ {vs : List Value} {xs : List EV}, leavesE vs = some xs → VsRel j m xs vs ∧ xs.all cellOk = true
  | [], _, h => by simp only [leavesE] at h; cases h; exact ⟨rfl, rfl⟩
  | v :: vs, _, h => by
    simp only [leavesE] at h
    split at h
    · rename_i x xs hx hxs
      cases h
      obtain ⟨r, k⟩ := leafE_rel (j := j) (m := m) hx
      obtain ⟨rs, ks⟩ := leavesE_rel (j := j) (m := m) hxs
      exact ⟨⟨v, vs, rfl, r, rs⟩, by simp [k, ks]⟩
    · cases h

theorem constE_rel {j : Inj} {m : Mem} {v : Value} {x : EV} (h : constE v = some x) : VRel j m x v := by
  unfold constE at h
  split at h
  · rename_i cs
    obtain ⟨xs, hx, rfl⟩ := Option.map_eq_some_iff.1 h
    obtain ⟨r, k⟩ := leavesE_rel (j := j) (m := m) hx
    exact ⟨cs, rfl, r, k⟩
  · rename_i cs
    obtain ⟨xs, hx, rfl⟩ := Option.map_eq_some_iff.1 h
    obtain ⟨r, k⟩ := leavesE_rel (j := j) (m := m) hx
    exact ⟨cs, rfl, r⟩
  · exact (leafE_rel h).1

section
variable {P : Program} {G : Globs} {base : Nat} {w0 w : World} {j : Inj} {m : Mem} {nt : Nat} {A : Fr} {a : Act}

theorem opdC_rel (hf : FRel j m nt A a.tmps) {x : Operand} {y : Opd} (h : opdC x = some y) : VRel j m (opd A y) (a.eval x) := by
  unfold opdC at h
  split at h
  · cases h; exact hf.rel _
  · obtain ⟨e, he, rfl⟩ := Option.map_eq_some_iff.1 h
    exact constE_rel he
  · cases h; exact ⟨_, rfl, rfl⟩
  · cases h; exact ⟨#[], rfl, rfl⟩

theorem opdsC_rel (hf : FRel j m nt A a.tmps) : ∀ {xs : List Operand} {ys : List Opd}, opdsC xs = some ys → VsRel j m (ys.map (opd A)) (xs.map a.eval)
  | [], _, h => by simp only [opdsC] at h; cases h; rfl
  | x :: xs, _, h => by
    simp only [opdsC] at h
    split at h
    · rename_i y ys hy hys
      cases h
      exact ⟨_, _, rfl, opdC_rel hf hy, opdsC_rel hf hys⟩
    · cases h

/-- What the machine's operation comes to is what the evaluator's does. -/
def Runs (P : Program) (G : Globs) (base : Nat) (w0 : World) (j : Inj) (m : Mem) (w : World) (s : Sem Value) (r : EV × Mem) : Prop :=
  ∃ j' v w', s.run P w = .ok v w' ∧ Ext j m j' r.2 ∧ MemRel G base w0 j' r.2 w' ∧ VRel j' r.2 r.1 v

theorem Runs.same (hm : MemRel G base w0 j m w) {s : Sem Value} {x : EV} {v : Value} (h : s.run P w = .ok v w) (hx : VRel j m x v) : Runs P G base w0 j m w s (x, m) :=
  ⟨j, v, w, h, Ext.refl j m, hm, hx⟩

theorem fresh_ad (j : Inj) (m : Mem) (x : Blk) (g s : Nat) : AdRel (j.lay m.bl.length g s) (m.push x) m.fresh ⟨g, 0, none⟩ := by
  simp [AdRel, Mem.fresh, Mem.push, Inj.lay]

theorem fresh_sl (j : Inj) (m : Mem) (x : Blk) (g s cap esz : Nat) (h : cap * esz ≤ s) : SlRel (j.lay m.bl.length g s) (m.push x) m.fresh ⟨g, 0, none⟩ cap esz := by
  simp only [SlRel, Mem.fresh, Mem.push, Inj.lay, List.length_append, List.length_cons, List.length_nil, if_true, Nat.zero_add]
  exact ⟨by omega, by simp, fun _ => .inr ⟨by simp, by simpa using h⟩⟩

/-- New cells. -/
theorem Runs.cells (hm : MemRel G base w0 j m w) {cs : List EV} {c : Array Value} (hr : VsRel j m cs c.toList) (ho : cs.all cellOk = true) (ty : TypeId) :
    MemRel G base w0 (j.lay m.bl.length w.heap.size c.size) (m.push (.cells cs 0 true)) (w.alloc (.cells c ty)) :=
  hm.push ⟨ho, c, ty, (0, 0), rfl, rfl, ⟨by have := hr.length; simp at this; omega, fun i x hi => by
    obtain ⟨v, hv, hx⟩ := hr.get i x hi
    exact ⟨v, by simpa using hv, hx⟩⟩, fun _ => .inl rfl, fun h => absurd h (by decide)⟩

theorem run_box (hm : MemRel G base w0 j m w) (t : TypeId) {x : EV} {v : Value} (hx : VRel j m x v) (ho : x.cells.all cellOk = true) :
    Runs P G base w0 j m w (Instr.box t v) (.ptr (some m.fresh), m.push (.cells x.cells 0 true)) :=
  ⟨_, .pointer (some ⟨w.heap.size, 0, none⟩), w.alloc (.cells v.cells t), by simp [Instr.box, newVar, newRow], Ext.push _ _ _ _ _, Runs.cells hm hx.cells ho t, _, rfl, fresh_ad _ _ _ _ _⟩

theorem info_of {t : TypeId} {n : Nat} (h : sizeC P t = some n) : ∃ i, P.info? t = some i ∧ i.size = n := by
  unfold sizeC at h
  obtain ⟨i, hi, rfl⟩ := Option.map_eq_some_iff.1 h
  exact ⟨i, hi, rfl⟩

theorem run_size {t : TypeId} {n : Nat} (h : sizeC P t = some n) (w : World) : (sizeOf t).run P w = .ok n w := by
  obtain ⟨i, hi, rfl⟩ := info_of h
  simp [sizeOf, typeInfo, hi]

theorem run_zero {t : TypeId} {z : EV} (h : zeroC P t = some z) : ∃ v, constE v = some z ∧ ∀ w, (zeroValue t).run P w = .ok v w := by
  unfold zeroC at h
  obtain ⟨i, hi, h⟩ := Option.bind_eq_some_iff.1 h
  obtain ⟨v, hv, h⟩ := Option.bind_eq_some_iff.1 h
  exact ⟨v, h, fun w => by simp [zeroValue, typeInfo, hi, hv]⟩

theorem run_alloc (hm : MemRel G base w0 j m w) {t : TypeId} {z : EV} (hz : zeroC P t = some z) (ho : z.cells.all cellOk = true) :
    Runs P G base w0 j m w (Instr.alloc t true (.tuple #[])) (.ptr (some m.fresh), m.push (.cells z.cells 0 true)) := by
  obtain ⟨v, hv, hr⟩ := run_zero hz
  have hx := constE_rel (j := j) (m := m) hv
  exact ⟨_, .pointer (some ⟨w.heap.size, 0, none⟩), w.alloc (.cells v.cells t), by simp [Instr.alloc, hr, newVar, newRow], Ext.push _ _ _ _ _, Runs.cells hm hx.cells ho t, _, rfl, fresh_ad _ _ _ _ _⟩

theorem aggC_some {t : TypeId} {n : Nat} (h : aggC P t = some (some n)) : (∀ w, (isAgg t).run P w = .ok true w) ∧ sizeC P t = some n := by
  unfold aggC at h
  split at h
  · rename_i fs hu
    exact ⟨fun w => by simp [isAgg, underlying, hu], by simpa using h⟩
  · rename_i hu
    exact ⟨fun w => by simp [isAgg, underlying, hu], by simpa using h⟩
  · cases h
  · cases h

theorem aggC_none {t : TypeId} (h : aggC P t = some none) : ∀ w, (isAgg t).run P w = .ok false w := by
  unfold aggC at h
  split at h
  · simp at h
  · simp at h
  · rename_i d h1 h2 hu
    intro w
    simp only [isAgg, Sem.run_bind, underlying, run_program, Result.andThen_ok, hu]
    cases d <;> first | rfl | exact absurd rfl (h1 _ ‹_›) | simp_all
  · cases h

theorem run_load1 (hm : MemRel G base w0 j m w) {t : TypeId} (ht : aggC P t = some none) {x : Ad} {v : Value} (hx : VRel j m (.ptr (some x)) v) {y : EV} (hg : m.get G x = some y) :
    Runs P G base w0 j m w (Instr.loadAt t v) (y, m) := by
  obtain ⟨a', rfl, ha⟩ := hx
  obtain ⟨_, u, hu, hr⟩ := hm.get hg ha
  exact .same hm (by simp [Instr.loadAt, Instr.sureAddr, loadVar, aggC_none ht, hu]) hr

theorem run_loadN (hm : MemRel G base w0 j m w) {t : TypeId} {n : Nat} (ht : aggC P t = some (some n)) {x : Ad} {v : Value} (hx : VRel j m (.ptr (some x)) v) {cs : List EV} (hg : m.getN G x n = some cs) :
    Runs P G base w0 j m w (Instr.loadAt t v) (.agg cs, m) := by
  obtain ⟨a', rfl, ha⟩ := hx
  obtain ⟨hl, ho, vs, hr, _, hrun⟩ := hm.getN (P := P) hg (.inr ha)
  obtain ⟨h1, h2⟩ := aggC_some ht
  exact .same hm (v := .agg vs.toArray) (by simp [Instr.loadAt, Instr.sureAddr, loadVar, h1, run_size h2, hrun]) ⟨_, rfl, by simpa using hr, ho⟩

/-! ### Stores -/
/-- Cells written one behind the other, none of them kept from writing. -/
theorem run_storeCells' (g o : Nat) (t : TypeId) (fr : Nat × Nat) : ∀ (vs : List Value) (i : Nat) (cur : Array Value) (w : World), w.heap[g]? = some (.cells cur t fr) → o + i + vs.length ≤ cur.size →
    (∀ k, k < cur.size → ¬ (fr.1 ≤ k ∧ k < fr.2)) → (∀ v ∈ vs, v.oneCell' = true) →
    (storeCells ⟨g, o, none⟩ vs i).run P w = .ok () (w.setRow g (cur.toList.take (o + i) ++ vs ++ cur.toList.drop (o + i + vs.length)).toArray)
  | [], i, cur, w, hg, _, _, _ => by
    simp only [storeCells, List.append_nil, List.length_nil, Nat.add_zero, List.take_append_drop, Array.toArray_toList]
    rw [setRow_self w g cur t fr hg]
    rfl
  | v :: rest, i, cur, w, hg, hl, hf, h1 => by
    have hi : o + i < cur.size := by simp at hl; omega
    have hcell : w.cell? ⟨g, o + i, none⟩ = some cur[o + i] := by simp [World.cell?, hg, hi]
    have hfro : w.frozen? ⟨g, o + i, none⟩ = false := by
      have := hf (o + i) hi
      obtain ⟨lo, hi'⟩ := fr
      simp only [World.frozen?, hg]
      simp only [Bool.and_eq_false_iff, decide_eq_false_iff_not]
      simp only at this
      omega
    have hst : (store ((⟨g, o, none⟩ : Addr).add i) v).run P w = .ok () (w.setRow g (cur.setIfInBounds (o + i) v)) := by
      rw [add_plain', run_store P w _ v _ (h1 v (by simp)), hcell]
      simp [hfro, setCell_eq_setRow w g (o + i) cur t fr v hg]
    have ih := run_storeCells' g o t fr rest (i + 1) (cur.setIfInBounds (o + i) v) (w.setRow g (cur.setIfInBounds (o + i) v)) (setRow_heap w g cur _ t _ hg) (by simp at hl ⊢; omega)
      (fun k hk => hf k (by simpa using hk)) (fun x hx => h1 x (by simp [hx]))
    simp only [storeCells, Sem.run_bind, hst, Result.andThen_ok, ih, setRow_setRow]
    congr 3
    have e := list_seg_step cur.toList (o + i) v rest (by simp at hl ⊢; omega)
    simpa [Array.toList_setIfInBounds, Nat.add_assoc] using e

theorem splice_length {cs vs : List EV} {o : Nat} (h : o + vs.length ≤ cs.length) : (splice cs o vs).length = cs.length := by
  simp [splice]; omega

theorem splice_get {cs vs : List EV} {o : Nat} (h : o + vs.length ≤ cs.length) (i : Nat) :
    (splice cs o vs)[i]? = if i < o then cs[i]? else if i < o + vs.length then vs[i - o]? else cs[i]? := by
  unfold splice
  simp only [List.getElem?_append, List.length_append, List.length_take, List.getElem?_take, List.getElem?_drop]
  have : min o cs.length = o := by omega
  rw [this]
  by_cases h1 : i < o
  · simp [h1, show i < o + vs.length by omega]
  · by_cases h2 : i < o + vs.length
    · simp [h1, h2]
    · simp only [h1, h2, if_false]
      congr 1
      omega

theorem spliceV_get {l vs : List Value} {o : Nat} (h : o + vs.length ≤ l.length) (i : Nat) :
    (l.take o ++ vs ++ l.drop (o + vs.length))[i]? = if i < o then l[i]? else if i < o + vs.length then vs[i - o]? else l[i]? := by
  simp only [List.getElem?_append, List.length_append, List.length_take, List.getElem?_take, List.getElem?_drop]
  have : min o l.length = o := by omega
  rw [this]
  by_cases h1 : i < o
  · simp [h1, show i < o + vs.length by omega]
  · by_cases h2 : i < o + vs.length
    · simp [h1, h2]
    · simp only [h1, h2, if_false]
      congr 1
      omega

/-- What is forgotten is written over. -/
theorem MemRel.trash (h : MemRel G base w0 j m w) {R n : Nat} (hR : j.garb R = some n) {c0 c : Array Value} {ty : TypeId} {fr : Nat × Nat} (hc0 : w.heap[R]? = some (.cells c0 ty fr)) (hsz : c.size = c0.size) : MemRel G base w0 j m (w.setRow R c) := by
  obtain ⟨r1, ⟨cR, tR, fR, r2, r3, r5⟩, r4⟩ := h.garb R n hR
  rw [hc0] at r2
  cases r2
  have hne : ∀ k, (∃ cs gen rw, m.bl[k]? = some (.cells cs gen rw)) ∨ liveMap m k → (w.setRow R c).heap[j.blk k]? = w.heap[j.blk k]? := fun k hk => setRow_other w _ _ c (r4 k hk)
  refine ⟨Below.setRow' h.below r1 c, by simpa using h.big, fun g' cs' hg' => ?_, fun k cs' gen' rw' hk => ?_, fun k es ck hk => ?_, h.inj, fun k s p hk => ?_, fun k cs' gen' rw' ck tyk frk hk hh hty => ?_, fun Q z hQ => ?_⟩
  · obtain ⟨hlt', ho, cg, tyg, frg, hcg, hrg⟩ := h.globs g' cs' hg'
    exact ⟨hlt', ho, cg, tyg, frg, (setRow_other w _ _ c (by omega)).trans hcg, hrg⟩
  · obtain ⟨ho, ck, tyk, frk, hck, hsk, hrk, hwk⟩ := h.cells k cs' gen' rw' hk
    exact ⟨ho, ck, tyk, frk, (hne k (.inl ⟨cs', gen', rw', hk⟩)).trans hck, hsk, hrk, hwk⟩
  · obtain ⟨hb1, es', hes, hl, hel⟩ := h.maps k es ck hk
    exact ⟨hb1, es', (hne k (.inr ⟨_, rfl, hk⟩)).trans hes, hl, hel⟩
  · obtain ⟨q1, q2⟩ := h.other k s p hk
    exact ⟨q1, (hne k (.inr ⟨_, rfl, hk⟩)).trans q2⟩
  · rw [hne k (.inl ⟨cs', gen', rw', hk⟩)] at hh
    exact h.typed k cs' gen' rw' ck tyk frk hk hh hty
  · obtain ⟨q1, ⟨cQ, tQ, fQ, q2, q3, q5⟩, q4⟩ := h.garb Q z hQ
    by_cases e : Q = R
    · subst e
      rw [hR] at hQ
      cases hQ
      exact ⟨r1, ⟨c, ty, fr, setRow_heap w _ c0 c ty fr hc0, hsz.trans r3, by rw [hsz]; exact r5⟩, r4⟩
    · exact ⟨q1, ⟨cQ, tQ, fQ, (setRow_other w _ _ c e).trans q2, q3, q5⟩, q4⟩

/-- Cells are written over cells that are there. -/
theorem MemRel.store (hm : MemRel G base w0 j m w) {x : Ad} {a' : Addr} (ha : x.off = x.off → AdRel j m x a') {vs : List EV} {us : List Value} {m' : Mem}
    (hp : m.putN x vs = some m') (hr : VsRel j m vs us) (ho : vs.all cellOk = true) :
    ∃ j' w', (storeCells a' us).run P w = .ok () w' ∧ Ext j m j' m' ∧ MemRel G base w0 j' m' w' := by
  have ha := ha rfl
  unfold Mem.putN Mem.write at hp
  unfold AdRel at ha
  split at hp
  case h_2 => cases hp
  case h_3 =>
    rename_i wk hb
    rw [hb] at ha
    simp only at ha
    split at hp
    case isFalse => cases hp
    rename_i hle
    cases hp
    obtain ⟨R, d, n, g1, rfl, g2⟩ := ha
    obtain ⟨r1, ⟨c, ty, fr, hheap, hsz, hfree⟩, r4⟩ := hm.garb R n g1
    have hul : us.length = vs.length := hr.length
    have h1 : ∀ v ∈ us, v.oneCell' = true := by
      intro v hv
      obtain ⟨i, hi⟩ := List.getElem?_of_mem hv
      have hil : i < vs.length := by have := (List.getElem?_eq_some_iff.1 hi).1; omega
      obtain ⟨u, hu, hur⟩ := hr.get i vs[i] (List.getElem?_eq_getElem hil)
      rw [hi] at hu
      cases hu
      exact hur.cellOk (List.all_eq_true.1 ho _ (List.getElem_mem hil))
    have hrun := run_storeCells' (P := P) R (d + x.off) ty fr us 0 c w hheap (by omega) hfree.cells h1
    rw [Nat.add_zero] at hrun
    exact ⟨j, _, hrun, Ext.refl j m, hm.trash g1 hheap (by simp; omega)⟩
  rename_i b gen hb
  rw [hb] at ha
  simp only at ha
  split at hp
  case h_2 => cases hp
  rename_i cs gen' hbl
  split at hp
  case isFalse => cases hp
  rename_i hc
  obtain ⟨rfl, hlen⟩ := hc
  cases hp
  have e := ha.2.2 ⟨cs, true, hbl⟩
  subst e
  obtain ⟨hco, c, ty, fr, hheap, hsz, hrow, hw⟩ := hm.cells b _ _ _ hbl
  obtain ⟨hbase, hfree⟩ := hw rfl
  have hul : us.length = vs.length := hr.length
  have hfit : j.del b + x.off + us.length ≤ c.size := by have := hrow.1; omega
  have h1 : ∀ v ∈ us, v.oneCell' = true := by
    intro v hv
    obtain ⟨i, hi⟩ := List.getElem?_of_mem hv
    have hil : i < vs.length := by have := (List.getElem?_eq_some_iff.1 hi).1; omega
    obtain ⟨u, hu, hur⟩ := hr.get i vs[i] (List.getElem?_eq_getElem hil)
    rw [hi] at hu
    cases hu
    exact hur.cellOk (List.all_eq_true.1 ho _ (List.getElem_mem hil))
  have hrun := run_storeCells' (P := P) (j.blk b) (j.del b + x.off) ty fr us 0 c w hheap (by omega) hfree.cells h1
  rw [Nat.add_zero] at hrun
  have hok' : (splice cs x.off vs).all cellOk = true := by
    unfold splice
    simp only [List.all_append, Bool.and_eq_true]
    exact ⟨⟨List.all_eq_true.2 fun y hy => List.all_eq_true.1 hco y (List.mem_of_mem_take hy), ho⟩, List.all_eq_true.2 fun y hy => List.all_eq_true.1 hco y (List.mem_of_mem_drop hy)⟩
  obtain ⟨j', r1, r2, _⟩ := hm.rewrite hbl hheap (c := (c.toList.take (j.del b + x.off) ++ us ++ c.toList.drop (j.del b + x.off + us.length)).toArray) (by simp; omega) (j.del b) (.inl ⟨rfl, rfl, splice_length hlen⟩) (min m.low b) hok'
    ⟨by rw [splice_length hlen]; have := hrow.1; simp; omega, fun i y hi => by
      rw [splice_get hlen] at hi
      simp only [List.getElem?_toArray]
      rw [spliceV_get (by simpa using hfit)]
      by_cases q1 : i < x.off
      · rw [if_pos q1] at hi
        rw [if_pos (by omega)]
        simpa using hrow.2 i y hi
      · rw [if_neg q1] at hi
        rw [if_neg (by omega)]
        by_cases q2 : i < x.off + vs.length
        · rw [if_pos q2] at hi
          rw [if_pos (by omega)]
          obtain ⟨u, hu, hur⟩ := hr.get _ y hi
          exact ⟨u, by rw [show j.del b + i - (j.del b + x.off) = i - x.off by omega]; exact hu, hur⟩
        · rw [if_neg q2] at hi
          rw [if_neg (by omega)]
          simpa using hrow.2 i y hi⟩
  exact ⟨j', _, hrun, r2, r1⟩

theorem put1_eq (m : Mem) (x : Ad) (v : EV) : m.put1 x v = m.putN x [v] := by
  unfold Mem.put1 Mem.putN Mem.write
  split
  · split
    · rename_i cs gen' hb
      simp only [List.length_cons, List.length_nil, Nat.zero_add]
      split
      · rename_i hc
        congr 4
        unfold splice
        apply List.ext_getElem?
        intro i
        have := splice_get (cs := cs) (vs := [v]) (o := x.off) (by simpa using hc.2) i
        unfold splice at this
        rw [this, List.getElem?_set]
        simp only [List.length_cons, List.length_nil, Nat.zero_add]
        by_cases h1 : x.off = i
        · subst h1; simp; omega
        · simp only [h1, if_false]
          split
          · rfl
          · rw [if_neg (by omega)]
      · rfl
    · rfl
  · rfl
  · rfl

end
end Go.Ev
