/- The engine, part 7: appends, copies, made slices and composite values in the machine. There are no conditions. -/
import Derived.Test.YthmmoahdobpfoaaGreatDoorXEv6
set_option linter.unusedSectionVars false
set_option linter.unusedVariables false
set_option linter.unusedSimpArgs false
namespace Go.Ev
open Go.RowKit (Below)

section
variable {P : Program} {G : Globs} {base : Nat} {w0 w : World} {j : Inj} {m : Mem} {nt : Nat} {A : Fr} {a : Act}

/-- The cells that are appended or copied, out of the machine. -/
theorem src_run (hm : MemRel G base w0 j m w) {esz : Nat} {y : EV} {v : Value} (hy : VRel j m y v) {new : List EV} {n : Nat} (h : srcCells G m esz y = some (new, n)) :
    (Builtin.lenOf v).run P w = .ok n w ∧ new.length = n * esz ∧ new.all cellOk = true ∧ ∀ k, k ≤ n → ∃ vs : List Value, VsRel j m (new.take (k * esz)) vs ∧ (Builtin.firstCells esz k v).run P w = .ok vs.toArray w := by
  unfold srcCells at h
  split at h
  · rename_i s
    split at h
    case isFalse => cases h
    rename_i he
    cases h
    subst he
    cases hy
    refine ⟨by simp [Builtin.lenOf, str_size], by simp [bytesE], (bytes_rel j m s).2, fun k hk => ⟨(s.take k).map fun b => .int .u8 b.toNat, ?_, ?_⟩⟩
    · have := (bytes_rel j m (s.take k)).1
      simpa [bytesE, List.map_take] using this
    · simp only [Builtin.firstCells, Sem.run_pure, extract_str]
      congr 1
      simp
  · cases h
    obtain ⟨rfl, _⟩ := hy
    exact ⟨by simp [Builtin.lenOf], by simp, rfl, fun k hk => ⟨[], by simp [VsRel], by simp [Builtin.firstCells]⟩⟩
  · rename_i x len cap e
    obtain ⟨cs, hg, heq⟩ := Option.map_eq_some_iff.1 h
    cases heq
    obtain ⟨a', cap', rfl, hc, hl, ha⟩ := hy
    have had : ∀ q, q = 0 ∨ q ≤ n * esz → q = 0 ∨ AdRel j m x a' := fun q hq => by
      rcases Nat.eq_zero_or_pos q with h0 | h0
      · exact .inl h0
      · refine .inr (ha.ad ?_)
        intro hz
        have : n = 0 := by omega
        subst this
        simp at hq
        omega
    obtain ⟨hlen, ho, _⟩ := hm.getN (P := P) hg (had _ (.inr (Nat.le_refl _)))
    refine ⟨by simp [Builtin.lenOf], hlen, ho, fun k hk => ?_⟩
    have hkn : k * esz ≤ n * esz := Nat.mul_le_mul_right _ hk
    have hg' : m.getN G x (k * esz) = some (new.take (k * esz)) := by
      by_cases hk0 : k * esz = 0
      · simp [Mem.getN, hk0]
      unfold Mem.getN at hg ⊢
      rw [if_neg (by omega)] at hg
      rw [if_neg hk0]
      obtain ⟨row, hr, hx⟩ := Option.bind_eq_some_iff.1 hg
      split at hx
      · rename_i hle
        cases hx
        rw [hr]
        simp only [Option.bind_some]
        rw [if_pos (by omega), List.take_take]
        congr 2
        omega
      · cases hx
    obtain ⟨_, _, vs, hvs, _, hrun⟩ := hm.getN (P := P) hg' (had _ (.inr hkn))
    exact ⟨vs, hvs, by simp [Builtin.firstCells, hrun]⟩
  · cases h

theorem next_le (need old : Nat) (h : old < need) : Builtin.nextslicecap need old ≤ 2 * need := by
  have hg : ∀ r c, c ≤ 2 * need → old ≤ c → Builtin.growBy need r c ≤ 2 * need ∨ need ≤ Builtin.growBy need r c := fun _ _ _ _ => by omega
  unfold Builtin.nextslicecap
  split
  · omega
  · split
    · omega
    · have key : ∀ r c, c < need + (need + 768) / 4 → 256 ≤ c → Builtin.growBy need r c < need + (need + 768) / 4 := by
        intro r
        induction r with
        | zero => intro c hc _; exact hc
        | succ r ih =>
          intro c hc h256
          simp only [Builtin.growBy]
          split
          · exact hc
          · exact ih _ (by omega) (by omega)
      have := key 4 old (by omega) (by omega)
      omega

/-- What a row that grows becomes, wherever it lies then: the head of a new block. -/
theorem MemRel.regrow (hm : MemRel G base w0 j m w) {b : Nat} {cs0 cs : List EV} {gen0 : Nat} (hb : m.bl[b]? = some (.cells cs0 gen0 true)) (low : Nat) {c : Array Value} (ty : TypeId)
    (hty : typeK ≤ gen0 + 1 → ty + 1 = (gen0 + 1) / typeK ∧ (gen0 + 1) % typeK ≠ 0)
    (hok : cs.all cellOk = true) (hrow : RowIn j m cs c 0) :
    ∃ j', MemRel G base w0 j' ⟨m.bl.set b (.cells cs (gen0 + 1) true), low⟩ (w.alloc (.cells c ty)) ∧ Ext j m j' ⟨m.bl.set b (.cells cs (gen0 + 1) true), low⟩ ∧
      j'.blk b = w.heap.size ∧ j'.del b = 0 ∧ j'.siz b = c.size := by
  have hlt : b < m.bl.length := (List.getElem?_eq_some_iff.1 hb).1
  have hext : Ext j m (j.lay b w.heap.size c.size) ⟨m.bl.set b (.cells cs (gen0 + 1) true), low⟩ := by
    refine ⟨by simp, fun k hk => ?_, fun k gk hk hgk hl => ?_, fun k hk hl => ?_, fun _ _ h => h⟩
    · rw [genAt_set hlt]
      split
      · rename_i e
        subst e
        simp only [genAt, hb, Blk.gen]
        omega
      · exact Nat.le_refl _
    · obtain ⟨cs', rw', hl⟩ := hl
      simp only [bl_set hlt] at hl
      split at hl
      · rename_i e
        subst e
        cases hl
        simp only [genAt, hb, Blk.gen] at hgk
        omega
      · rename_i e
        have : k ≠ b := Ne.symm e
        exact ⟨⟨cs', rw', hl⟩, by simp [Inj.lay, this], by simp [Inj.lay, this], by simp [Inj.lay, this]⟩
    · obtain ⟨es, ck, hl⟩ := hl
      simp only [bl_set hlt] at hl
      split at hl
      · cases hl; cases ck
      · rename_i e
        have : k ≠ b := Ne.symm e
        exact ⟨⟨es, ck, hl⟩, by simp [Inj.lay, this]⟩
  have keep : ∀ k, k < w.heap.size → (w.alloc (.cells c ty)).heap[k]? = w.heap[k]? := fun k hk => by rw [heap_new, if_neg (by omega)]
  have old : ∀ k, k ≠ b → (j.lay b w.heap.size c.size).blk k = j.blk k ∧ (j.lay b w.heap.size c.size).del k = j.del k ∧ (j.lay b w.heap.size c.size).siz k = j.siz k := fun k hk => by simp [Inj.lay, hk]
  have new : (j.lay b w.heap.size c.size).blk b = w.heap.size ∧ (j.lay b w.heap.size c.size).del b = 0 ∧ (j.lay b w.heap.size c.size).siz b = c.size := by simp [Inj.lay]
  refine ⟨j.lay b w.heap.size c.size, ?_, hext, new.1, new.2.1, new.2.2⟩
  have cut : ∀ q, q ≠ b → ((∃ cs' gen rw, (m.bl.set b (Blk.cells cs (gen0 + 1) true))[q]? = some (Blk.cells cs' gen rw)) ∨ liveMap ⟨m.bl.set b (.cells cs (gen0 + 1) true), low⟩ q) →
      (∃ cs' gen rw, m.bl[q]? = some (Blk.cells cs' gen rw)) ∨ liveMap m q := by
    intro q hq hl
    rcases hl with ⟨x, y, z, hl⟩ | ⟨x, y, hl⟩ <;> simp only [bl_set hlt, if_neg (Ne.symm hq)] at hl
    · exact .inl ⟨x, y, z, hl⟩
    · exact .inr ⟨x, y, hl⟩
  refine ⟨hm.below.alloc hm.big _, by simpa using Nat.le_succ_of_le hm.big, fun g cs' hg => ?_, fun k cs' gen rw' hk => ?_, fun k es ck hk => ?_, fun k k' hkk h1 h2 => ?_, fun k t p hk => ?_, fun k cs' gen' rw' ck tyk frk hk hh ht => ?_, fun R n hR => ?_⟩
  · obtain ⟨hl, ho, c', ty', fr, hc, hr⟩ := hm.globs g cs' hg
    exact ⟨hl, ho, c', ty', fr, (keep g (Nat.lt_of_lt_of_le hl hm.big)).trans hc, hr.ext hext⟩
  · simp only [bl_set hlt] at hk
    split at hk
    · rename_i e
      subst e
      cases hk
      refine ⟨hok, c, ty, (0, 0), by rw [new.1, heap_new, if_pos rfl], new.2.2.symm, ?_, fun _ => ⟨by rw [new.1]; exact hm.big, .inl rfl⟩⟩
      rw [new.2.1]
      exact hrow.ext hext
    · rename_i e
      obtain ⟨ho, c', ty', fr, hc, hs, hr, hw⟩ := hm.cells k cs' gen rw' hk
      obtain ⟨e1, e2, e3⟩ := old k (Ne.symm e)
      refine ⟨ho, c', ty', fr, ?_, by rw [e3]; exact hs, by rw [e2]; exact hr.ext hext, fun q => by rw [e1]; exact hw q⟩
      rw [e1, keep _ (Array.getElem?_eq_some_iff.1 hc).1]
      exact hc
  · simp only [bl_set hlt] at hk
    split at hk
    · cases hk
    · rename_i e
      obtain ⟨e1, _, _⟩ := old k (Ne.symm e)
      obtain ⟨hb1, es', hes, hl, hel⟩ := hm.maps k es ck hk
      refine ⟨by rw [e1]; exact hb1, es', ?_, hl, fun i y hi => ?_⟩
      · rw [e1, keep _ (Array.getElem?_eq_some_iff.1 hes).1]
        exact hes
      · obtain ⟨e', q1, q2, q3, q4⟩ := hel i y hi
        exact ⟨e', q1, VRel.ext hext _ q2, VRel.ext hext _ q3, q4⟩
  · by_cases e : k = b
    · have e' : k' ≠ b := fun q => hkk (e.trans q.symm)
      rw [e, new.1, (old k' e').1]
      have := hm.blk_lt (cut k' e' h2)
      omega
    · by_cases e' : k' = b
      · rw [e', new.1, (old k e).1]
        have := hm.blk_lt (cut k e (by
          rcases h1 with ⟨x, y, h1⟩ | h1
          · exact .inl ⟨x, y, true, h1⟩
          · exact .inr h1))
        omega
      · rw [(old k e).1, (old k' e').1]
        refine hm.inj k k' hkk ?_ (cut k' e' h2)
        rcases h1 with ⟨x, y, h1⟩ | ⟨x, y, h1⟩ <;> simp only [bl_set hlt, if_neg (Ne.symm e)] at h1
        · exact .inl ⟨x, y, h1⟩
        · exact .inr ⟨x, y, h1⟩
  · simp only [bl_set hlt] at hk
    split at hk
    · cases hk
    · rename_i e
      obtain ⟨e1, _, _⟩ := old k (Ne.symm e)
      obtain ⟨q1, q2⟩ := hm.other k t p hk
      rw [e1]
      exact ⟨q1, (keep _ (Array.getElem?_eq_some_iff.1 q2).1).trans q2⟩
  · simp only [bl_set hlt] at hk
    split at hk
    · rename_i e
      subst e
      cases hk
      rw [new.1, heap_new, if_pos rfl] at hh
      cases hh
      exact ⟨(hty ht).1, new.2.1, fun h0 => absurd h0 (hty ht).2⟩
    · rename_i e
      obtain ⟨e1, e2, e3⟩ := old k (Ne.symm e)
      have hlt2 := hm.blk_lt (.inl ⟨cs', gen', rw', hk⟩)
      rw [e1, keep _ hlt2] at hh
      obtain ⟨t1, t2⟩ := hm.typed k cs' gen' rw' ck tyk frk hk hh ht
      exact ⟨t1, by rw [e2]; exact t2.1, t2.2⟩
  · obtain ⟨r1, ⟨cR, tR, fR, r2, r3⟩, r4⟩ := hm.garb R n hR
    have hRl := (Array.getElem?_eq_some_iff.1 r2).1
    refine ⟨r1, ⟨cR, tR, fR, (keep R hRl).trans r2, r3⟩, fun k hk => ?_⟩
    by_cases e : k = b
    · rw [e, new.1]; omega
    · rw [(old k e).1]
      exact r4 k (cut k e hk)

/-- A block is laid of which nothing is told. -/
theorem MemRel.waste (h : MemRel G base w0 j m w) (c : Array Value) (ty : TypeId) : ∃ j', MemRel G base w0 j' m (w.alloc (.cells c ty)) ∧ Ext j m j' m ∧ j'.garb w.heap.size = some c.size := by
  have keep : ∀ k, k < w.heap.size → (w.alloc (.cells c ty)).heap[k]? = w.heap[k]? := fun k hk => by rw [heap_new, if_neg (by omega)]
  have hext : Ext j m ⟨j.blk, j.del, j.siz, fun k => if k = w.heap.size then some c.size else j.garb k⟩ m := ⟨Nat.le_refl _, fun _ _ => Nat.le_refl _, fun _ _ _ _ h => ⟨h, rfl, rfl, rfl⟩, fun _ _ h => ⟨h, rfl⟩, fun R n hR => by
    obtain ⟨_, ⟨_, _, _, r2, _⟩, _⟩ := h.garb R n hR
    have := (Array.getElem?_eq_some_iff.1 r2).1
    simp only
    rw [if_neg (by omega)]
    exact hR⟩
  refine ⟨_, ?_, hext, by simp⟩
  refine ⟨h.below.alloc h.big _, by simpa using Nat.le_succ_of_le h.big, fun g cs hg => ?_, fun k cs gen rw' hk => ?_, fun k es ck hk => ?_, h.inj, fun k t p hk => ?_, fun k cs gen rw' ck tyk frk hk hh hty => ?_, fun R n hR => ?_⟩
  · obtain ⟨hlt, ho, c', ty', fr, hc, hr⟩ := h.globs g cs hg
    exact ⟨hlt, ho, c', ty', fr, (keep g (Nat.lt_of_lt_of_le hlt h.big)).trans hc, hr.ext hext⟩
  · obtain ⟨ho, c', ty', fr, hc, hs, hr, hw⟩ := h.cells k cs gen rw' hk
    exact ⟨ho, c', ty', fr, (keep _ (Array.getElem?_eq_some_iff.1 hc).1).trans hc, hs, hr.ext hext, hw⟩
  · obtain ⟨hb1, es', hes, hl, hel⟩ := h.maps k es ck hk
    refine ⟨hb1, es', (keep _ (Array.getElem?_eq_some_iff.1 hes).1).trans hes, hl, fun i y hi => ?_⟩
    obtain ⟨e', q1, q2, q3, q4⟩ := hel i y hi
    exact ⟨e', q1, VRel.ext hext _ q2, VRel.ext hext _ q3, q4⟩
  · obtain ⟨q1, q2⟩ := h.other k t p hk
    exact ⟨q1, (keep _ (Array.getElem?_eq_some_iff.1 q2).1).trans q2⟩
  · have hlt := h.blk_lt (.inl ⟨cs, gen, rw', hk⟩)
    simp only at hh
    rw [keep _ hlt] at hh
    exact h.typed k cs gen rw' ck tyk frk hk hh hty
  · simp only at hR
    by_cases e : R = w.heap.size
    · rw [if_pos e] at hR
      cases hR
      subst e
      refine ⟨h.big, ⟨c, ty, (0, 0), by rw [heap_new, if_pos rfl], rfl, .inl rfl⟩, fun k hk => ?_⟩
      have := h.blk_lt hk
      simp only
      omega
    · rw [if_neg e] at hR
      obtain ⟨r1, ⟨cR, tR, fR, r2, r3⟩, r4⟩ := h.garb R n hR
      exact ⟨r1, ⟨cR, tR, fR, (keep R (Array.getElem?_eq_some_iff.1 r2).1).trans r2, r3⟩, r4⟩

theorem rowIn_append {cs : List EV} {vs : List Value} (h : VsRel j m cs vs) (rest : Array Value) : RowIn j m cs (vs.toArray ++ rest) 0 := by
  refine ⟨by have := h.length; simp; omega, fun i x hi => ?_⟩
  obtain ⟨v, hv, hr⟩ := h.get i x hi
  refine ⟨v, ?_, hr⟩
  have : i < vs.length := (List.getElem?_eq_some_iff.1 hv).1
  rw [Nat.zero_add, Array.getElem?_append_left (by simpa using this)]
  simpa using hv

theorem app_room {t u ty e : TypeId} {i : TypeInfo} (ht : P.underlying t = some (.slice e)) (hi : P.info? e = some i) (hud : P.underlying u = some .string ∨ ∃ e', P.underlying u = some (.slice e')) {v' : Value} {n : Nat} {vs : List Value}
    (hlen : (Builtin.lenOf v').run P w = .ok n w) (hfc : (Builtin.firstCells i.size n v').run P w = .ok vs.toArray w) {bs : Option Addr} {sl sc : Nat} (hroom : sl + n ≤ sc) :
    (Builtin.append_ #[t, u] ty #[.slice bs sl sc, v']).run P w = ((match bs with | some a => storeCells (a.add (sl * i.size)) vs | none => pure () : Sem Unit).run P w).andThen fun _ w' => .ok (.slice bs (sl + n) sc) w' := by
  rcases hud with hud | ⟨e', hud⟩ <;> cases bs <;> simp [Builtin.append_, run_underlying ht, run_underlying hud, sizeOf, typeInfo, hi, hlen, hroom, hfc]

theorem app_grow {t u ty e : TypeId} {i : TypeInfo} {z : Value} (ht : P.underlying t = some (.slice e)) (hi : P.info? e = some i) (hz : i.zero = some z) (hb0 : i.bytes ≠ 0) (hud : P.underlying u = some .string ∨ ∃ e', P.underlying u = some (.slice e'))
    {v' : Value} {n : Nat} {vs os : List Value} (hlen : (Builtin.lenOf v').run P w = .ok n w) {bs : Option Addr} {sl sc : Nat} (hroom : ¬ sl + n ≤ sc)
    (hfc : (Builtin.firstCells i.size n v').run P w.drew = .ok vs.toArray w.drew) (hfo : (Builtin.firstCells i.size sl (.slice bs sl sc)).run P w.drew = .ok os.toArray w.drew) (hl : (sl + n) * i.bytes ≤ 140737488355328) :
    ∃ cap, sl + n ≤ cap ∧ (Builtin.append_ #[t, u] ty #[.slice bs sl sc, v']).run P w =
      .ok (.slice (some ⟨w.heap.size, 0, none⟩) (sl + n) cap) (w.drew.alloc (.cells (os.toArray ++ (vs.toArray ++ Builtin.zeroCells z.cells (cap - (sl + n)))) e)) := by
  have h1 : ¬ (Builtin.nextslicecap (sl + n) sc * i.bytes > 2 ^ 48) := by
    have h2 := Nat.mul_le_mul_right i.bytes (next_le (sl + n) sc (by omega))
    have : 2 * (sl + n) * i.bytes = 2 * ((sl + n) * i.bytes) := Nat.mul_assoc ..
    omega
  refine ⟨(sl + n) + w.tape w.drawn (.appendCap (sl + n) sc e) % (2 ^ 63 - (sl + n)), by omega, ?_⟩
  have hd : ({ w with drawn := w.drawn + 1 } : World) = w.drew := rfl
  rcases hud with hud | ⟨e', hud⟩ <;> simp [Builtin.append_, run_underlying ht, run_underlying hud, sizeOf, typeInfo, zeroValue, hz, hi, hlen, hroom, hfc, hfo, hb0, h1, newRow, Question.forced, Question.cut]

theorem zeroCells_size (z : Array Value) (n : Nat) : (Builtin.zeroCells z n).size = n * z.size := by simp [Builtin.zeroCells]

theorem fresh_slT (j : Inj) (m : Mem) (x : Blk) (g s cap esz gen : Nat) (hx : x.gen = gen) (h : cap * esz ≤ s) : SlRel (j.lay m.bl.length g s) (m.push x) ⟨.mem m.bl.length gen, 0⟩ ⟨g, 0, none⟩ cap esz := by
  simp only [SlRel, Mem.push, Inj.lay, List.length_append, List.length_cons, List.length_nil, if_true, Nat.zero_add]
  exact ⟨by omega, by simp [genAt, hx], fun _ => .inr ⟨by simp, by simpa using h⟩⟩
theorem fresh_adT (j : Inj) (m : Mem) (x : Blk) (g s gen : Nat) (hx : x.gen = gen) : AdRel (j.lay m.bl.length g s) (m.push x) ⟨.mem m.bl.length gen, 0⟩ ⟨g, 0, none⟩ := by
  simp [AdRel, Mem.push, Inj.lay, genAt, hx]

theorem run_append (hm : MemRel G base w0 j m w) {t u ty e : TypeId} {i : TypeInfo} {z : Value} (ht : P.underlying t = some (.slice e)) (hi : P.info? e = some i) (hz : i.zero = some z) (hzs : z.cells.size = i.size) (hb0 : i.bytes ≠ 0)
    (hud : P.underlying u = some .string ∨ ∃ e', P.underlying u = some (.slice e')) {x y : EV} {v v' : Value} (hx : VRel j m x v) (hy : VRel j m y v')
    {new : List EV} {n : Nat} (hsrc : srcCells G m i.size y = some (new, n)) {r : EV × Mem} {tag : Nat} (htag : typeK ≤ tag → e + 1 = tag / typeK ∧ tag % typeK ≠ 0) (h : appendE G m i.size i.bytes tag x new n = some r) : Runs P G base w0 j m w (Builtin.append_ #[t, u] ty #[v, v']) r := by
  obtain ⟨hlen, hnl, hno, hfirst⟩ := src_run (P := P) hm hy hsrc
  obtain ⟨vs, hvs, hfc⟩ := hfirst n (Nat.le_refl n)
  rw [← hnl, List.take_length] at hvs
  obtain ⟨_, _, _, hfirstd⟩ := src_run (P := P) hm.drew hy hsrc
  obtain ⟨vd, hvd, hfd⟩ := hfirstd n (Nat.le_refl n)
  rw [← hnl, List.take_length] at hvd
  have hvl := hvs.length
  have hvdl := hvd.length
  unfold appendE at h
  split at h
  · rename_i l c ez
    obtain ⟨rfl, rfl, rfl⟩ := hx
    split at h
    · rename_i hn
      subst hn
      cases h
      refine .same hm (v := .slice none 0 0) ?_ ⟨rfl, rfl, rfl⟩
      rw [app_room ht hi hud hlen hfc (Nat.le_refl _)]
      rfl
    · rename_i hn
      split at h
      · rename_i hb
        cases h
        obtain ⟨cap, hcap, hrun⟩ := app_grow (ty := ty) (bs := none) (sl := 0) (sc := 0) (os := []) ht hi hz hb0 hud hlen (by omega) hfd (by simp [Builtin.firstCells]) (by simpa using hb)
        rw [Nat.zero_add] at hrun hcap
        refine ⟨_, _, _, hrun, Ext.push j m _ w.heap.size _, hm.drew.push ⟨hno, _, e, (0, 0), rfl, rfl, ?_, fun _ => .inl rfl, fun ht => ⟨(htag ht).1, fun h0 => absurd h0 (htag ht).2⟩⟩, _, cap, rfl, hcap, Nat.le_refl _, fresh_slT _ _ _ _ _ _ _ _ (by rfl) ?_⟩
        · simpa using rowIn_append hvd (Builtin.zeroCells z.cells (cap - n))
        · simp only [List.size_toArray, List.length_nil, Array.size_append, zeroCells_size, hzs, hvdl, hnl, Nat.zero_add, ← Nat.add_mul]
          apply Nat.le_of_eq
          congr 1
          omega
      · cases h
  · rename_i xa len cap ez
    obtain ⟨a', cap', rfl, hc, hl, ha⟩ := hx
    split at h
    · cases h
    rename_i hez
    have hez : ez = i.size := by simpa using hez
    subst hez
    have grow : len + n ≠ 0 → growE m i.size i.bytes tag xa len new n = some r → Runs P G base w0 j m w (Builtin.append_ #[t, u] ty #[.slice (some a') len cap', v']) r := by
      intro h0 h
      unfold growE at h
      split at h
      case isFalse => cases h
      rename_i hb
      split at h
      case h_2 => cases h
      case h_3 =>
        rename_i wk hbase
        cases h
        have hsl := ha
        unfold SlRel at hsl
        rw [hbase] at hsl
        simp only at hsl
        have h1 : ∀ q ∈ vs, q.oneCell' = true := by
          intro q hq
          obtain ⟨k, hk⟩ := List.getElem?_of_mem hq
          have hkl : k < new.length := by have := (List.getElem?_eq_some_iff.1 hk).1; omega
          obtain ⟨y', hy', hyr⟩ := hvs.get k new[k] (List.getElem?_eq_getElem hkl)
          rw [hk] at hy'
          cases hy'
          exact hyr.cellOk (List.all_eq_true.1 hno _ (List.getElem_mem hkl))
        by_cases hm' : len + n ≤ cap'
        · obtain ⟨R, d, nn, q1, rfl, q2, q3⟩ := hsl.resolve_left (by omega)
          obtain ⟨r1, ⟨c, cty, fr, hheap, hsz, hfree⟩, r4⟩ := hm.garb R nn q1
          have hle : (len + n) * i.size ≤ cap' * i.size := Nat.mul_le_mul_right _ hm'
          have hmul : (len + n) * i.size = len * i.size + n * i.size := Nat.add_mul ..
          have hfit2 : d + xa.off + len * i.size + vs.length ≤ c.size := by rw [hvl, hnl, hsz]; omega
          have hst := run_storeCells' (P := P) R (d + xa.off + len * i.size) cty fr vs 0 c w hheap (by omega) hfree.cells h1
          rw [Nat.add_zero] at hst
          refine ⟨j, .slice (some ⟨R, d + xa.off, none⟩) (len + n) cap', _, ?_, Ext.refl j m, hm.trash q1 hheap (c := (c.toList.take (d + xa.off + len * i.size) ++ vs ++ c.toList.drop (d + xa.off + len * i.size + vs.length)).toArray) (by simp; omega), _, cap', rfl, by omega, Nat.le_refl _, ?_⟩
          · rw [app_room ht hi hud hlen hfc hm']
            simp only [add_plain', hst, Result.andThen_ok]
          · simp only [SlRel]
            exact .inr ⟨R, d + xa.off, nn, q1, rfl, by omega, by omega⟩
        · have hfo : ∃ os : List Value, os.length = len * i.size ∧ (Builtin.firstCells i.size len (.slice (some a') len cap')).run P w.drew = .ok os.toArray w.drew := by
            by_cases hk0 : len * i.size = 0
            · exact ⟨[], by simp [hk0], by simp [Builtin.firstCells, hk0, loadCells, loadCellsFrom]⟩
            · have hc0 : cap' ≠ 0 := fun h0 => by
                have : len = 0 := by omega
                subst this
                simp at hk0
              obtain ⟨R, d, nn, q1, rfl, q2, q3⟩ := hsl.resolve_left hc0
              obtain ⟨r1, ⟨c, cty, fr, hheap, hsz, hfree⟩, r4⟩ := hm.drew.garb R nn q1
              have hle : len * i.size ≤ cap' * i.size := Nat.mul_le_mul_right _ (by omega)
              have hol : ((c.toList.drop (d + xa.off)).take (len * i.size)).length = len * i.size := by simp; omega
              refine ⟨(c.toList.drop (d + xa.off)).take (len * i.size), hol, ?_⟩
              have := run_loadCells_list (P := P) w.drew ⟨R, d + xa.off, none⟩ ((c.toList.drop (d + xa.off)).take (len * i.size)) (fun k v hk => by
                simp only [List.getElem?_take, List.getElem?_drop] at hk
                split at hk
                · rw [add_plain']
                  simp only [World.cell?, hheap]
                  simpa using hk
                · cases hk)
              rw [hol] at this
              simp [Builtin.firstCells, this]
          obtain ⟨os, hosl, hosr⟩ := hfo
          obtain ⟨ncap, hncap, hrun⟩ := app_grow (ty := ty) (bs := some a') (sl := len) (sc := cap') (os := os) ht hi hz hb0 hud hlen hm' hfd hosr hb
          obtain ⟨j', r1, r2, r3⟩ := hm.drew.waste (os.toArray ++ (vd.toArray ++ Builtin.zeroCells z.cells (ncap - (len + n)))) e
          refine ⟨j', _, _, hrun, r2, r1, _, ncap, rfl, hncap, Nat.le_refl _, ?_⟩
          simp only [SlRel]
          have hs : (os.toArray ++ (vd.toArray ++ Builtin.zeroCells z.cells (ncap - (len + n)))).size = ncap * i.size := by
            simp only [Array.size_append, List.size_toArray, hosl, hvdl, hnl, zeroCells_size, hzs, ← Nat.add_mul]
            congr 1
            omega
          have hle : (len + n) * i.size ≤ ncap * i.size := Nat.mul_le_mul_right _ hncap
          exact .inr ⟨w.heap.size, 0, _, r3, rfl, by rw [hs]; omega, by rw [hs]; omega⟩
      rename_i b gen hbase
      split at h
      case h_2 => cases h
      rename_i cs gen' hbl
      split at h
      case isFalse => cases h
      rename_i hcond
      obtain ⟨rfl, hfit, hq, hkind⟩ := hcond
      cases h
      have hlive : live m b gen' := ⟨cs, true, hbl⟩
      have hsl := ha
      unfold SlRel at hsl
      rw [hbase] at hsl
      simp only at hsl
      have hgetn : m.getN G xa (len * i.size) = some ((cs.drop xa.off).take (len * i.size)) := by
        by_cases hk0 : len * i.size = 0
        · simp [Mem.getN, hk0]
        · simp only [Mem.getN, if_neg hk0, Mem.row, hbase, hbl, if_true, Option.bind_some, if_pos hfit]
      obtain ⟨hcok, c, cty, fr, hheap, hsz, hrow, hw⟩ := hm.cells b _ _ _ hbl
      obtain ⟨hbb, hfree⟩ := hw rfl
      have hold : (((cs.drop xa.off).take (len * i.size)) ++ new).all cellOk = true := by
        simp only [List.all_append, Bool.and_eq_true]
        exact ⟨List.all_eq_true.2 fun q hq => List.all_eq_true.1 hcok q (List.mem_of_mem_drop (List.mem_of_mem_take hq)), hno⟩
      have holen : ((cs.drop xa.off).take (len * i.size)).length = len * i.size := by simp; omega
      by_cases hm' : len + n ≤ cap'
      · obtain ⟨rfl, hroom'⟩ := (hsl.2.2 hlive).resolve_left (by omega)
        have h1 : ∀ q ∈ vs, q.oneCell' = true := by
          intro q hq
          obtain ⟨k, hk⟩ := List.getElem?_of_mem hq
          have hkl : k < new.length := by have := (List.getElem?_eq_some_iff.1 hk).1; omega
          obtain ⟨y', hy', hyr⟩ := hvs.get k new[k] (List.getElem?_eq_getElem hkl)
          rw [hk] at hy'
          cases hy'
          exact hyr.cellOk (List.all_eq_true.1 hno _ (List.getElem_mem hkl))
        have hle : (len + n) * i.size ≤ cap' * i.size := Nat.mul_le_mul_right _ hm'
        have hmul : (len + n) * i.size = len * i.size + n * i.size := Nat.add_mul ..
        have hfit2 : j.del b + xa.off + len * i.size + vs.length ≤ c.size := by rw [hvl, hnl, hsz]; omega
        have hst := run_storeCells' (P := P) (j.blk b) (j.del b + xa.off + len * i.size) cty fr vs 0 c w hheap (by omega) hfree.cells h1
        rw [Nat.add_zero] at hst
        obtain ⟨j', r1, r2, e1, e2, e3⟩ := hm.rewrite hbl hheap (c := (c.toList.take (j.del b + xa.off + len * i.size) ++ vs ++ c.toList.drop (j.del b + xa.off + len * i.size + vs.length)).toArray) (by simp; omega) (j.del b + xa.off)
          (.inr ⟨rfl, hq, fun hk => by
            have hk2 := hkind.resolve_left (by omega)
            have := (hm.typed b _ _ _ _ _ _ hbl hheap hk).2.1
            rw [this, hk2.2.2]⟩) (min m.low b) hold ⟨by simp only [List.length_append, holen, hnl, List.size_toArray, List.length_take, List.length_drop, Array.length_toList]; omega, fun k q hk => by
            simp only [List.getElem?_toArray]
            rw [spliceV_get (by simpa using hfit2)]
            rw [List.getElem?_append, holen] at hk
            split at hk
            · rename_i hkl
              rw [if_pos (by omega)]
              rw [List.getElem?_take, if_pos hkl, List.getElem?_drop] at hk
              have := hrow.2 _ q hk
              simpa [Nat.add_assoc] using this
            · rename_i hkl
              rw [if_neg (by omega)]
              obtain ⟨q', hq', hqr⟩ := hvs.get _ q hk
              have : k - len * i.size < vs.length := (List.getElem?_eq_some_iff.1 hq').1
              rw [if_pos (by omega)]
              exact ⟨q', by rw [← hq']; congr 1; omega, hqr⟩⟩
        refine ⟨j', .slice (some ⟨j.blk b, j.del b + xa.off, none⟩) (len + n) cap', _, ?_, r2, r1, _, cap', rfl, by omega, Nat.le_refl _, ?_⟩
        · rw [app_room ht hi hud hlen hfc hm']
          simp only [add_plain', hst, Result.andThen_ok]
        · have hlt : b < m.bl.length := (List.getElem?_eq_some_iff.1 hbl).1
          simp only [SlRel]
          refine ⟨by simpa using hlt, by rw [genAt_set hlt, if_pos rfl]; exact Nat.le_refl _, fun _ => .inr ⟨by rw [e1, e3, Nat.add_zero], by rw [e2, e3]; omega⟩⟩
      · obtain ⟨_, _, os, hos, _, hosr⟩ := hm.drew.getN (P := P) (a' := a') hgetn (by
          rcases Nat.eq_zero_or_pos (len * i.size) with h0 | h0
          · exact .inl h0
          · refine .inr (ha.ad fun hz => ?_)
            have : len = 0 := by omega
            subst this
            simp at h0)
        obtain ⟨ncap, hncap, hrun⟩ := app_grow (ty := ty) (bs := some a') (sl := len) (sc := cap') (os := os) ht hi hz hb0 hud hlen hm' hfd (by simp [Builtin.firstCells, hosr]) hb
        have hrowin : RowIn j m (((cs.drop xa.off).take (len * i.size)) ++ new) (os.toArray ++ (vd.toArray ++ Builtin.zeroCells z.cells (ncap - (len + n)))) 0 := by
          have e1 : os.toArray ++ (vd.toArray ++ Builtin.zeroCells z.cells (ncap - (len + n))) = (os ++ vd).toArray ++ Builtin.zeroCells z.cells (ncap - (len + n)) := by
            apply Array.ext'
            simp
          rw [e1]
          exact rowIn_append (hos.append hvd) (Builtin.zeroCells z.cells (ncap - (len + n)))
        obtain ⟨j', r1, r2, e1, e2, e3⟩ := hm.drew.regrow hbl (min m.low b) e (fun ht => by
          have hk0 : typeK ≤ gen' := by simp only [typeK] at ht hq ⊢; omega
          have hk2 := hkind.resolve_left (by omega)
          have ht2 : typeK ≤ tag := by have := hk2.1; simp only [typeK] at this hk0 ⊢; omega
          exact ⟨by rw [hq, ← hk2.1]; exact (htag ht2).1, by have := hk2.2.1; simp only [typeK] at this hq ⊢; omega⟩) hold hrowin
        refine ⟨j', _, _, hrun, r2, r1, _, ncap, rfl, hncap, Nat.le_refl _, ?_⟩
        have hlt : b < m.bl.length := (List.getElem?_eq_some_iff.1 hbl).1
        simp only [SlRel]
        refine ⟨by simpa using hlt, by rw [genAt_set hlt, if_pos rfl]; exact Nat.le_refl _, fun _ => .inr ⟨by rw [e1, e2]; rfl, ?_⟩⟩
        rw [e2, e3]
        simp only [Array.size_append, List.size_toArray, hos.length, holen, hvdl, hnl, zeroCells_size, hzs, Nat.zero_add, ← Nat.add_mul]
        apply Nat.le_of_eq
        congr 1
        omega
    split at h
    · rename_i hroom
      split at h
      · rename_i hn
        subst hn
        cases h
        refine .same hm (v := .slice (some a') len cap') ?_ ⟨a', cap', rfl, hc, hl, ha⟩
        have hv0 : vs = [] := List.eq_nil_of_length_eq_zero (by rw [hvl, hnl]; simp)
        subst hv0
        rw [app_room ht hi hud hlen hfc (by omega)]
        simp [storeCells]
      · rename_i hn
        split at h
        · rename_i m' hp
          cases h
          obtain ⟨j', w', hst, hext, hmr⟩ := hm.store (P := P) (fun _ => (ha.ad (by omega)).plus (len * i.size)) hp hvs hno
          refine ⟨j', .slice (some a') (len + n) cap', w', ?_, hext, hmr, a', cap', rfl, hc, hroom, ha.ext hext⟩
          rw [app_room ht hi hud hlen hfc (by omega)]
          simp only [hst, Result.andThen_ok]
        · exact grow (by omega) h
    · exact grow (by omega) h
  · cases h

end
end Go.Ev
