/- The engine, part 94: regions whose order is drawn and that lay blocks of known content at any time ahead of the cut. There are no conditions but those that lateOk reckons, and that the program follows mixed orders. -/
import Derived.Test.YthmmoahdobpfoaaGreatDoorXEv93
import Derived.Test.YthmmoahdobpfoaaGreatDoorXEv18
set_option linter.unusedSectionVars false
set_option linter.unusedVariables false
set_option linter.unusedSimpArgs false
namespace Go.Ev
open Go.RowKit (Below)

/-! ### Memory -/
theorem bl_dead (m : Mem) (k b : Nat) (low : Nat) : (⟨m.bl ++ List.replicate k (.dead 0), low⟩ : Mem).bl[b]? = if b < m.bl.length then m.bl[b]? else if b < m.bl.length + k then some (.dead 0) else none := by
  simp only [List.getElem?_append]
  split
  · rfl
  · rename_i h
    rw [List.getElem?_replicate]
    by_cases h2 : b - m.bl.length < k
    · rw [if_pos h2, if_pos (by omega)]
    · rw [if_neg h2, if_neg (by omega)]
theorem dead_old {m : Mem} {k b low : Nat} {x : Blk} (h : (⟨m.bl ++ List.replicate k (.dead 0), low⟩ : Mem).bl[b]? = some x) (hx : ∀ g, x ≠ .dead g) : m.bl[b]? = some x := by
  rw [bl_dead] at h
  split at h
  · exact h
  · split at h
    · exact absurd (Option.some.inj h).symm (hx 0)
    · cases h
theorem live_dead {m : Mem} {k b gen low : Nat} (h : live ⟨m.bl ++ List.replicate k (.dead 0), low⟩ b gen) : live m b gen := by
  obtain ⟨cs, rw', h⟩ := h
  exact ⟨cs, rw', dead_old h fun g e => by cases e⟩
theorem liveMap_dead {m : Mem} {k b low : Nat} (h : liveMap ⟨m.bl ++ List.replicate k (.dead 0), low⟩ b) : liveMap m b := by
  obtain ⟨x, hx, h⟩ := h
  exact ⟨x, hx, dead_old h fun g e => by subst e; cases hx⟩
theorem Ext.dead (j : Inj) (m : Mem) (k low : Nat) : Ext j m j ⟨m.bl ++ List.replicate k (.dead 0), low⟩ := by
  refine ⟨by simp, fun b hb => ?_, fun b gen hb _ hl => ⟨live_dead hl, rfl, rfl, rfl⟩, fun b hb hl => ⟨liveMap_dead hl, rfl⟩, fun _ _ h => h⟩
  unfold genAt
  rw [bl_dead, if_pos hb]
  exact Nat.le_refl _
section
variable {G : Globs} {base : Nat} {w0 w : World} {j : Inj} {m : Mem}
theorem MemRel.dead (h : MemRel G base w0 j m w) (k low : Nat) : MemRel G base w0 j ⟨m.bl ++ List.replicate k (.dead 0), low⟩ w := by
  have he := Ext.dead j m k low
  refine ⟨h.below, h.big, fun g cs hg => ?_, fun b cs gen rw' hb => ?_, fun b es ck hb => ?_, fun b b' hne h1 h2 => ?_, fun b s p hb => ?_, fun b cs gen rw' c ty fr hb => ?_, fun R n hR => ?_⟩
  · obtain ⟨h1, h2, c, ty, fr, h3, h4⟩ := h.globs g cs hg
    exact ⟨h1, h2, c, ty, fr, h3, h4.ext he⟩
  · obtain ⟨h1, c, ty, fr, h2, h3, h4, h5⟩ := h.cells b cs gen rw' (dead_old hb fun g e => by cases e)
    exact ⟨h1, c, ty, fr, h2, h3, h4.ext he, h5⟩
  · obtain ⟨h1, es', h2, h3, h4⟩ := h.maps b es ck (dead_old hb fun g e => by cases e)
    exact ⟨h1, es', h2, h3, fun i y hi => by
      obtain ⟨e', q1, q2, q3, q4⟩ := h4 i y hi
      exact ⟨e', q1, VRel.ext he _ q2, VRel.ext he _ q3, q4⟩⟩
  · refine h.inj b b' hne ?_ ?_
    · rcases h1 with ⟨cs, gen, h1⟩ | h1
      · exact .inl ⟨cs, gen, dead_old h1 fun g e => by cases e⟩
      · exact .inr (liveMap_dead h1)
    · rcases h2 with ⟨cs, gen, rw', h2⟩ | h2
      · exact .inl ⟨cs, gen, rw', dead_old h2 fun g e => by cases e⟩
      · exact .inr (liveMap_dead h2)
  · exact h.other b s p (dead_old hb fun g e => by cases e)
  · exact h.typed b cs gen rw' c ty fr (dead_old hb fun g e => by cases e)
  · obtain ⟨r1, r2, r3⟩ := h.garb R n hR
    exact ⟨r1, r2, fun b hb => r3 b (by
      rcases hb with ⟨cs, gen, rw', hb⟩ | hb
      · exact .inl ⟨cs, gen, rw', dead_old hb fun g e => by cases e⟩
      · exact .inr (liveMap_dead hb))⟩

/-- A block that was dead is laid anew. -/
theorem Ext.revive {r : Nat} (hr : m.bl[r]? = some (.dead 0)) {x : Blk} (hx1 : ∀ cs g rw', x = .cells cs g rw' → 1 ≤ g) (g s low : Nat) : Ext j m (j.lay r g s) ⟨m.bl.set r x, low⟩ := by
  have hlt : r < m.bl.length := (List.getElem?_eq_some_iff.1 hr).1
  refine ⟨by simp, fun b hb => ?_, fun b gen hb hg hl => ?_, fun b hb hl => ?_, fun _ _ h => h⟩
  · unfold genAt
    simp only [bl_set hlt]
    by_cases e : r = b
    · subst e
      rw [if_pos rfl, hr]
      exact Nat.zero_le _
    · rw [if_neg e]
      exact Nat.le_refl _
  · obtain ⟨cs, rw', hl⟩ := hl
    simp only [bl_set hlt] at hl
    by_cases e : r = b
    · subst e
      rw [if_pos rfl] at hl
      have := hx1 _ _ _ (Option.some.inj hl)
      unfold genAt at hg
      rw [hr] at hg
      simp only [Blk.gen] at hg
      omega
    · rw [if_neg e] at hl
      have : ¬ b = r := fun h => e h.symm
      exact ⟨⟨cs, rw', hl⟩, by simp [Inj.lay, this], by simp [Inj.lay, this], by simp [Inj.lay, this]⟩
  · obtain ⟨x, hx, hl⟩ := hl
    simp only [bl_set hlt] at hl
    by_cases e : r = b
    · subst e
      unfold genAt at hb
      rw [hr] at hb
      simp [Blk.gen] at hb
    · rw [if_neg e] at hl
      have : ¬ b = r := fun h => e h.symm
      exact ⟨⟨x, hx, hl⟩, by simp [Inj.lay, this]⟩
theorem MemRel.revive (h : MemRel G base w0 j m w) {r : Nat} (hr : m.bl[r]? = some (.dead 0)) {z : List EV} {c : Array Value} (hz : VsRel j m z c.toList) (ho : z.all cellOk = true) (ty : TypeId) (low : Nat) :
    MemRel G base w0 (j.lay r w.heap.size c.size) ⟨m.bl.set r (.cells z 1 true), low⟩ (w.alloc (.cells c ty)) := by
  have hlt : r < m.bl.length := (List.getElem?_eq_some_iff.1 hr).1
  have he := Ext.revive (j := j) hr (x := .cells z 1 true) (fun _ _ _ e => by cases e; exact Nat.le_refl _) w.heap.size c.size low
  have keep : ∀ k, k < w.heap.size → (w.alloc (.cells c ty)).heap[k]? = w.heap[k]? := fun k hk => by rw [heap_new, if_neg (by omega)]
  have old : ∀ k, k ≠ r → (j.lay r w.heap.size c.size).blk k = j.blk k ∧ (j.lay r w.heap.size c.size).del k = j.del k ∧ (j.lay r w.heap.size c.size).siz k = j.siz k := fun k hk => by simp [Inj.lay, hk]
  have new : (j.lay r w.heap.size c.size).blk r = w.heap.size ∧ (j.lay r w.heap.size c.size).del r = 0 ∧ (j.lay r w.heap.size c.size).siz r = c.size := by simp [Inj.lay]
  have cut : ∀ q, q ≠ r → ((∃ cs gen rw, (⟨m.bl.set r (.cells z 1 true), low⟩ : Mem).bl[q]? = some (.cells cs gen rw)) ∨ liveMap ⟨m.bl.set r (.cells z 1 true), low⟩ q) → (∃ cs gen rw, m.bl[q]? = some (.cells cs gen rw)) ∨ liveMap m q := by
    intro q hq hl
    have hq' : ¬ r = q := fun e => hq e.symm
    rcases hl with ⟨a, b, c, hl⟩ | ⟨a, b, hl⟩ <;> simp only [bl_set hlt, if_neg hq'] at hl
    · exact .inl ⟨a, b, c, hl⟩
    · exact .inr ⟨a, b, hl⟩
  have nolive : ¬ liveMap ⟨m.bl.set r (.cells z 1 true), low⟩ r := by
    rintro ⟨x, hx, hl⟩
    simp only [bl_set hlt, if_true] at hl
    cases hl
    cases hx
  refine ⟨h.below.alloc h.big _, by simpa using Nat.le_succ_of_le h.big, fun g cs hg => ?_, fun k cs gen rw' hk => ?_, fun k es ck hk => ?_, fun k k' hkk h1 h2 => ?_, fun k t p hk => ?_, fun k cs gen rw' ck tyk frk hk hh hty => ?_, fun R n hR => ?_⟩
  · obtain ⟨hl, ho, c, ty, fr, hc, hr⟩ := h.globs g cs hg
    exact ⟨hl, ho, c, ty, fr, (keep g (Nat.lt_of_lt_of_le hl h.big)).trans hc, hr.ext he⟩
  · simp only [bl_set hlt] at hk
    split at hk
    · rename_i e
      subst e
      cases hk
      refine ⟨ho, c, ty, (0, 0), by rw [new.1, heap_new, if_pos rfl], by rw [new.2.2], ?_, fun _ => ⟨by rw [new.1]; exact h.big, .inl rfl⟩⟩
      rw [new.2.1]
      refine RowIn.ext he ⟨by have := hz.length; simp at this; omega, fun i x hi => ?_⟩
      obtain ⟨v, hv, hx⟩ := hz.get i x hi
      exact ⟨v, by simpa using hv, hx⟩
    · rename_i e
      have e : k ≠ r := fun h => e h.symm
      obtain ⟨ho, c, ty, fr, hc, hs, hr, hw⟩ := h.cells k cs gen rw' hk
      obtain ⟨e1, e2, e3⟩ := old k e
      refine ⟨ho, c, ty, fr, ?_, by rw [e3]; exact hs, by rw [e2]; exact hr.ext he, fun q => by rw [e1]; exact hw q⟩
      rw [e1, keep _ (Array.getElem?_eq_some_iff.1 hc).1]
      exact hc
  · simp only [bl_set hlt] at hk
    split at hk
    · cases hk
    · rename_i e
      have e : k ≠ r := fun h => e h.symm
      obtain ⟨e1, _, _⟩ := old k e
      obtain ⟨hb1, es', hes, hl, hel⟩ := h.maps k es ck hk
      refine ⟨by rw [e1]; exact hb1, es', ?_, hl, fun i y hi => ?_⟩
      · rw [e1, keep _ (Array.getElem?_eq_some_iff.1 hes).1]
        exact hes
      · obtain ⟨e', q1, q2, q3, q4⟩ := hel i y hi
        exact ⟨e', q1, VRel.ext he _ q2, VRel.ext he _ q3, q4⟩
  · have weak : ∀ q, ((∃ cs gen, (⟨m.bl.set r (.cells z 1 true), low⟩ : Mem).bl[q]? = some (.cells cs gen true)) ∨ liveMap ⟨m.bl.set r (.cells z 1 true), low⟩ q) → (∃ cs gen rw, (⟨m.bl.set r (.cells z 1 true), low⟩ : Mem).bl[q]? = some (.cells cs gen rw)) ∨ liveMap ⟨m.bl.set r (.cells z 1 true), low⟩ q := by
      intro q hl
      rcases hl with ⟨a, b, hl⟩ | hl
      · exact .inl ⟨a, b, true, hl⟩
      · exact .inr hl
    by_cases e : k = r
    · have e' : k' ≠ r := fun q => hkk (e.trans q.symm)
      rw [e, new.1, (old k' e').1]
      have := h.blk_lt (cut k' e' h2)
      omega
    · by_cases e' : k' = r
      · rw [e', new.1, (old k e).1]
        have := h.blk_lt (cut k e (weak k h1))
        omega
      · rw [(old k e).1, (old k' e').1]
        refine h.inj k k' hkk ?_ (cut k' e' h2)
        have ek : ¬ r = k := fun q => e q.symm
        rcases h1 with ⟨a, b, h1⟩ | ⟨a, b, h1⟩ <;> simp only [bl_set hlt, if_neg ek] at h1
        · exact .inl ⟨a, b, h1⟩
        · exact .inr ⟨a, b, h1⟩
  · simp only [bl_set hlt] at hk
    split at hk
    · cases hk
    · rename_i e
      have e : k ≠ r := fun h => e h.symm
      obtain ⟨e1, _, _⟩ := old k e
      obtain ⟨q1, q2⟩ := h.other k t p hk
      rw [e1]
      exact ⟨q1, (keep _ (Array.getElem?_eq_some_iff.1 q2).1).trans q2⟩
  · simp only [bl_set hlt] at hk
    split at hk
    · cases hk
      exact absurd hty (by decide)
    · rename_i e
      have e : k ≠ r := fun h => e h.symm
      obtain ⟨e1, e2, e3⟩ := old k e
      have hl := h.blk_lt (.inl ⟨cs, gen, rw', hk⟩)
      rw [e1, keep _ hl] at hh
      obtain ⟨t1, t2⟩ := h.typed k cs gen rw' ck tyk frk hk hh hty
      exact ⟨t1, by rw [e2]; exact t2.1, t2.2⟩
  · obtain ⟨r1, ⟨cR, tR, fR, r2, r3⟩, r4⟩ := h.garb R n hR
    have hRl := (Array.getElem?_eq_some_iff.1 r2).1
    refine ⟨r1, ⟨cR, tR, fR, (keep R hRl).trans r2, r3⟩, fun k hk => ?_⟩
    by_cases e : k = r
    · rw [e, new.1]; omega
    · rw [(old k e).1]
      exact r4 k (cut k e hk)
theorem MemRel.reviveMap (h : MemRel G base w0 j m w) {r : Nat} (hr : m.bl[r]? = some (.dead 0)) (low : Nat) :
    MemRel G base w0 (j.lay r w.heap.size 0) ⟨m.bl.set r (.map [] 0), low⟩ (w.alloc (.map #[] 0)) := by
  have hlt : r < m.bl.length := (List.getElem?_eq_some_iff.1 hr).1
  have he := Ext.revive (j := j) hr (x := .map [] 0) (fun _ _ _ e => by cases e) w.heap.size 0 low
  have keep : ∀ k, k < w.heap.size → (w.alloc (.map #[] 0)).heap[k]? = w.heap[k]? := fun k hk => by rw [heap_new, if_neg (by omega)]
  have old : ∀ k, k ≠ r → (j.lay r w.heap.size 0).blk k = j.blk k ∧ (j.lay r w.heap.size 0).del k = j.del k ∧ (j.lay r w.heap.size 0).siz k = j.siz k := fun k hk => by simp [Inj.lay, hk]
  have new : (j.lay r w.heap.size 0).blk r = w.heap.size ∧ (j.lay r w.heap.size 0).del r = 0 ∧ (j.lay r w.heap.size 0).siz r = 0 := by simp [Inj.lay]
  have cut : ∀ q, q ≠ r → ((∃ cs gen rw, (⟨m.bl.set r (.map [] 0), low⟩ : Mem).bl[q]? = some (.cells cs gen rw)) ∨ liveMap ⟨m.bl.set r (.map [] 0), low⟩ q) → (∃ cs gen rw, m.bl[q]? = some (.cells cs gen rw)) ∨ liveMap m q := by
    intro q hq hl
    have hq' : ¬ r = q := fun e => hq e.symm
    rcases hl with ⟨a, b, c, hl⟩ | ⟨a, b, hl⟩ <;> simp only [bl_set hlt, if_neg hq'] at hl
    · exact .inl ⟨a, b, c, hl⟩
    · exact .inr ⟨a, b, hl⟩
  refine ⟨h.below.alloc h.big _, by simpa using Nat.le_succ_of_le h.big, fun g cs hg => ?_, fun k cs gen rw' hk => ?_, fun k es ck hk => ?_, fun k k' hkk h1 h2 => ?_, fun k t p hk => ?_, fun k cs gen rw' ck tyk frk hk hh hty => ?_, fun R n hR => ?_⟩
  · obtain ⟨hl, ho, c, ty, fr, hc, hr⟩ := h.globs g cs hg
    exact ⟨hl, ho, c, ty, fr, (keep g (Nat.lt_of_lt_of_le hl h.big)).trans hc, hr.ext he⟩
  · simp only [bl_set hlt] at hk
    split at hk
    · cases hk
    · rename_i e
      have e : k ≠ r := fun h => e h.symm
      obtain ⟨ho, c, ty, fr, hc, hs, hr, hw⟩ := h.cells k cs gen rw' hk
      obtain ⟨e1, e2, e3⟩ := old k e
      refine ⟨ho, c, ty, fr, ?_, by rw [e3]; exact hs, by rw [e2]; exact hr.ext he, fun q => by rw [e1]; exact hw q⟩
      rw [e1, keep _ (Array.getElem?_eq_some_iff.1 hc).1]
      exact hc
  · simp only [bl_set hlt] at hk
    split at hk
    · rename_i e
      subst e
      cases hk
      refine ⟨by rw [new.1]; exact h.big, #[], by rw [new.1, heap_new, if_pos rfl], rfl, fun i y hi => by simp at hi⟩
    · rename_i e
      have e : k ≠ r := fun h => e h.symm
      obtain ⟨e1, _, _⟩ := old k e
      obtain ⟨hb1, es', hes, hl, hel⟩ := h.maps k es ck hk
      refine ⟨by rw [e1]; exact hb1, es', ?_, hl, fun i y hi => ?_⟩
      · rw [e1, keep _ (Array.getElem?_eq_some_iff.1 hes).1]
        exact hes
      · obtain ⟨e', q1, q2, q3, q4⟩ := hel i y hi
        exact ⟨e', q1, VRel.ext he _ q2, VRel.ext he _ q3, q4⟩
  · have weak : ∀ q, ((∃ cs gen, (⟨m.bl.set r (.map [] 0), low⟩ : Mem).bl[q]? = some (.cells cs gen true)) ∨ liveMap ⟨m.bl.set r (.map [] 0), low⟩ q) → (∃ cs gen rw, (⟨m.bl.set r (.map [] 0), low⟩ : Mem).bl[q]? = some (.cells cs gen rw)) ∨ liveMap ⟨m.bl.set r (.map [] 0), low⟩ q := by
      intro q hl
      rcases hl with ⟨a, b, hl⟩ | hl
      · exact .inl ⟨a, b, true, hl⟩
      · exact .inr hl
    by_cases e : k = r
    · have e' : k' ≠ r := fun q => hkk (e.trans q.symm)
      rw [e, new.1, (old k' e').1]
      have := h.blk_lt (cut k' e' h2)
      omega
    · by_cases e' : k' = r
      · rw [e', new.1, (old k e).1]
        have := h.blk_lt (cut k e (weak k h1))
        omega
      · rw [(old k e).1, (old k' e').1]
        refine h.inj k k' hkk ?_ (cut k' e' h2)
        have ek : ¬ r = k := fun q => e q.symm
        rcases h1 with ⟨a, b, h1⟩ | ⟨a, b, h1⟩ <;> simp only [bl_set hlt, if_neg ek] at h1
        · exact .inl ⟨a, b, h1⟩
        · exact .inr ⟨a, b, h1⟩
  · simp only [bl_set hlt] at hk
    split at hk
    · cases hk
    · rename_i e
      have e : k ≠ r := fun h => e h.symm
      obtain ⟨e1, _, _⟩ := old k e
      obtain ⟨q1, q2⟩ := h.other k t p hk
      rw [e1]
      exact ⟨q1, (keep _ (Array.getElem?_eq_some_iff.1 q2).1).trans q2⟩
  · simp only [bl_set hlt] at hk
    split at hk
    · cases hk
    · rename_i e
      have e : k ≠ r := fun h => e h.symm
      obtain ⟨e1, e2, e3⟩ := old k e
      have hl := h.blk_lt (.inl ⟨cs, gen, rw', hk⟩)
      rw [e1, keep _ hl] at hh
      obtain ⟨t1, t2⟩ := h.typed k cs gen rw' ck tyk frk hk hh hty
      exact ⟨t1, by rw [e2]; exact t2.1, t2.2⟩
  · obtain ⟨r1, ⟨cR, tR, fR, r2, r3⟩, r4⟩ := h.garb R n hR
    have hRl := (Array.getElem?_eq_some_iff.1 r2).1
    refine ⟨r1, ⟨cR, tR, fR, (keep R hRl).trans r2, r3⟩, fun k hk => ?_⟩
    by_cases e : k = r
    · rw [e, new.1]; omega
    · rw [(old k e).1]
      exact r4 k (cut k e hk)
end
end Go.Ev
