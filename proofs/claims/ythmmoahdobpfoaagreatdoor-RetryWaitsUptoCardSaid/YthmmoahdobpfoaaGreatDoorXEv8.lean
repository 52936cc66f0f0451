/- The engine, part 8: the remaining operations in the machine. There are no conditions. -/
import Derived.Test.YthmmoahdobpfoaaGreatDoorXEv7
set_option linter.unusedSectionVars false
set_option linter.unusedVariables false
set_option linter.unusedSimpArgs false
namespace Go.Ev
open Go.RowKit (Below)

section
variable {P : Program} {G : Globs} {base : Nat} {w0 w : World} {j : Inj} {m : Mem} {nt : Nat} {A : Fr} {a : Act}

theorem VRel.single {x : EV} {v : Value} (h : VRel j m x v) (hs : Ev.single x = true) : x.cells.all Ev.cellOk = true := by
  cases x with
  | agg cs => obtain ⟨_, _, _, k⟩ := h; exact k
  | tuple _ => simp [Ev.single] at hs
  | iter b => cases hs
  | _ => rfl

theorem fixC_spec {cs cs' : List EV} {n : Nat} (h : fixC cs n = some cs') : cs' = cs ∧ cs.length = n ∧ cs.all cellOk = true := by
  unfold fixC at h
  split at h
  · rename_i hc
    cases h
    exact ⟨rfl, hc.1, hc.2⟩
  · cases h

/-! ### Composite values -/
theorem fold_set (off : Nat) : ∀ (l : List Value) (k : Nat) (cells : Array Value), off + k + l.length ≤ cells.size →
    ((l.zipIdx k).foldl (fun (cs : Array Value) (p : Value × Nat) => cs.setIfInBounds (off + p.2) p.1) cells).toList = cells.toList.take (off + k) ++ l ++ cells.toList.drop (off + k + l.length)
  | [], k, cells, h => by simp
  | v :: l, k, cells, h => by
    simp only [List.zipIdx_cons, List.foldl_cons]
    rw [fold_set off l (k + 1) _ (by simp at h ⊢; omega)]
    have e := list_seg_step cells.toList (off + k) v l (by simp at h ⊢; omega)
    simpa [Array.toList_setIfInBounds, Nat.add_assoc] using e

theorem splice_rel {xs ys : List EV} {l k : List Value} (h : VsRel j m xs l) (h' : VsRel j m ys k) {o : Nat} (ho : o + ys.length ≤ xs.length) :
    VsRel j m (splice xs o ys) (l.take o ++ k ++ l.drop (o + k.length)) := by
  unfold splice
  rw [h'.length]
  exact ((h.take o).append h').append (h.drop _)

theorem fill_run {place : Nat → Option (Nat × Nat)} (hf : FRel j m nt A a.tmps) : ∀ {ps : List (Nat × Operand)} {qs : List (Nat × Nat × Opd)} {z r : List EV} {c : Array Value}, partsC place ps = some qs → VsRel j m z c.toList → z.all cellOk = true →
    fillE z (parts A qs) = some r → ∃ c', Instr.fill place c (ps.map fun p => (p.1, a.eval p.2)) = some c' ∧ VsRel j m r c'.toList ∧ r.all cellOk = true ∧ r.length = z.length
  | [], _, z, r, c, hp, hz, ho, h => by
    simp only [partsC] at hp
    cases hp
    simp only [parts, List.map_nil, fillE] at h
    cases h
    exact ⟨c, rfl, hz, ho, rfl⟩
  | (i, x) :: ps, _, z, r, c, hp, hz, ho, h => by
    simp only [partsC] at hp
    split at hp
    case h_2 => cases hp
    rename_i off size y qs hpl hy hqs
    cases hp
    simp only [parts, List.map_cons, fillE] at h
    split at h
    case isFalse => cases h
    rename_i hc
    obtain ⟨h1, h2, h3⟩ := hc
    have hx := opdC_rel hf hy
    have hcs := hx.cells
    have hcl : (a.eval x).cells.size = size := by rw [← h1]; simpa using hcs.length
    have hzl : c.size = z.length := by simpa using hz.length
    have hco := hx.single h3
    have hset := fold_set off (a.eval x).cells.toList 0 c (by simp; omega)
    rw [Nat.add_zero] at hset
    have hfold : ((a.eval x).cells.zipIdx.foldl (fun (cs : Array Value) (p : Value × Nat) => cs.setIfInBounds (off + p.2) p.1) c).toList = c.toList.take off ++ (a.eval x).cells.toList ++ c.toList.drop (off + (a.eval x).cells.toList.length) := by
      rw [← hset]
      congr 1
      rw [← Array.foldl_toList]
      simp
    have hrel : VsRel j m (splice z off (opd A y).cells) ((a.eval x).cells.zipIdx.foldl (fun (cs : Array Value) (p : Value × Nat) => cs.setIfInBounds (off + p.2) p.1) c).toList := by
      rw [hfold]
      exact splice_rel hz hcs (by omega)
    have hok : (splice z off (opd A y).cells).all cellOk = true := by
      unfold splice
      simp only [List.all_append, Bool.and_eq_true]
      exact ⟨⟨List.all_eq_true.2 fun q hq => List.all_eq_true.1 ho q (List.mem_of_mem_take hq), hco⟩, List.all_eq_true.2 fun q hq => List.all_eq_true.1 ho q (List.mem_of_mem_drop hq)⟩
    obtain ⟨c', r1, r2, r3, r4⟩ := fill_run hf hqs hrel hok h
    refine ⟨c', ?_, r2, r3, by rw [r4, splice_length (by omega)]⟩
    simp only [List.map_cons, Instr.fill, hpl]
    rw [if_neg (by simp [hcl]; omega)]
    exact r1

theorem mapM_fields {w : World} : ∀ (fs : List Field), (∀ f ∈ fs, (sizeC P f.type).isSome = true) → (fs.mapM fun f => (do pure (f.offset, ← sizeOf f.type) : Sem (Nat × Nat))).run P w = .ok (fs.map fun f => (f.offset, (sizeC P f.type).getD 0)) w
  | [], _ => rfl
  | f :: fs, h => by
    obtain ⟨n, hn⟩ := Option.isSome_iff_exists.1 (h f (by simp))
    simp only [List.mapM_cons, Sem.run_bind, run_size hn, Result.andThen_ok, Sem.run_pure, mapM_fields fs fun g hg => h g (by simp [hg]), List.map_cons, hn, Option.getD_some]

theorem run_buildStruct (hm : MemRel G base w0 j m w) (hf : FRel j m nt A a.tmps) {t : TypeId} {fs : Array Field} (ht : P.underlying t = some (.struct fs)) {z z' : EV} {zs : List EV} (hz : zeroC P t = some z) (hfix : fixC z.cells z.cells.length = some zs)
    (hfs : ∀ f ∈ fs.toList, (sizeC P f.type).isSome = true) {ps : Array (Nat × Operand)} {qs : List (Nat × Nat × Opd)} (hp : partsC (fun i => (fs[i]?).bind fun f => (sizeC P f.type).map fun n => (f.offset, n)) ps.toList = some qs)
    {r : List EV} (h : fillE zs (parts A qs) = some r) : Runs P G base w0 j m w (Instr.build t (ps.map fun p => (p.1, a.eval p.2))) (.agg r, m) := by
  obtain ⟨rfl, _, ho⟩ := fixC_spec hfix
  obtain ⟨v, hv, hzr⟩ := run_zero hz
  have hx := (constE_rel (j := j) (m := m) hv).cells
  obtain ⟨c', h1, h2, h3, _⟩ := fill_run hf hp hx ho h
  refine .same hm (v := .agg c') ?_ ⟨_, rfl, h2, h3⟩
  have hplace : (fun i : Nat => (fs[i]?).bind fun f : Field => (sizeC P f.type).map fun n => (f.offset, n)) = fun i : Nat => ((fs.map fun f : Field => (f.offset, (sizeC P f.type).getD 0))[i]?) := by
    funext i
    simp only [Array.getElem?_map]
    cases hi : fs[i]? with
    | none => rfl
    | some f =>
      obtain ⟨n, hn⟩ := Option.isSome_iff_exists.1 (hfs f (by simpa using Array.mem_of_getElem? hi))
      simp [hn]
  rw [hplace] at h1
  have hmm : (fs.mapM fun f : Field => (do pure (f.offset, ← sizeOf f.type) : Sem (Nat × Nat))).run P w = .ok (fs.map fun f : Field => (f.offset, (sizeC P f.type).getD 0)) w := by
    have := mapM_fields (P := P) (w := w) fs.toList hfs
    rw [Array.mapM_eq_mapM_toList]
    simp only [Sem.run_map, this, Result.andThen_ok]
    congr 1
    apply Array.ext'
    simp
  simp only [Instr.build, Sem.run_bind, hzr, Result.andThen_ok, Sem.run_pure, underlying, run_program, ht, hmm, Array.toList_map]
  have h1' : Instr.fill (fun x => (fs.map fun f : Field => (f.offset, (sizeC P f.type).getD 0))[x]?) v.cells (List.map (fun p => (p.fst, a.eval p.snd)) ps.toList) = some c' := h1
  simp only [h1']
  rfl

theorem run_buildArray (hm : MemRel G base w0 j m w) (hf : FRel j m nt A a.tmps) {t e : TypeId} {len n : Nat} (ht : P.underlying t = some (.array len e)) (hn : sizeC P e = some n) {z : EV} {zs : List EV} (hz : zeroC P t = some z) (hfix : fixC z.cells z.cells.length = some zs)
    {ps : Array (Nat × Operand)} {qs : List (Nat × Nat × Opd)} (hp : partsC (fun i => some (i * n, n)) ps.toList = some qs) {r : List EV} (h : fillE zs (parts A qs) = some r) :
    Runs P G base w0 j m w (Instr.build t (ps.map fun p => (p.1, a.eval p.2))) (.agg r, m) := by
  obtain ⟨rfl, _, ho⟩ := fixC_spec hfix
  obtain ⟨v, hv, hzr⟩ := run_zero hz
  have hx := (constE_rel (j := j) (m := m) hv).cells
  obtain ⟨c', h1, h2, h3, _⟩ := fill_run hf hp hx ho h
  refine .same hm (v := .agg c') ?_ ⟨_, rfl, h2, h3⟩
  simp only [Instr.build, Sem.run_bind, hzr, Result.andThen_ok, Sem.run_pure, underlying, run_program, ht, run_size hn, Array.toList_map, h1]

/-- A row of zero values. -/
theorem rep_rel {z : List EV} {c : Array Value} (h : VsRel j m z c.toList) (hz : c.size ≠ 0) (n : Nat) : VsRel j m (repE n z) ((Array.range (n * c.size)).map fun i => c[i % c.size]!).toList := by
  have hzl : c.size = z.length := by simpa using h.length
  have hgen : ∀ q : Nat, ((List.replicate n z).flatten)[q]? = if q < n * z.length then z[q % z.length]? else none := by
    induction n with
    | zero => intro q; simp
    | succ n ih =>
      intro q
      rw [List.replicate_succ, List.flatten_cons, List.getElem?_append]
      split
      · rename_i hq
        rw [if_pos (by rw [Nat.succ_mul]; omega), Nat.mod_eq_of_lt hq]
      · rename_i hq
        rw [ih]
        have e : q % z.length = (q - z.length) % z.length := by
          rw [Nat.mod_eq_sub_mod (by omega)]
        rw [e, Nat.succ_mul]
        by_cases h2 : q - z.length < n * z.length
        · rw [if_pos h2, if_pos (by omega)]
        · rw [if_neg h2, if_neg (by omega)]
  have hfl : repE n z = (List.replicate n z).flatten := by
    unfold repE
    split
    · rename_i v
      induction n with
      | zero => rfl
      | succ n ih => simp [List.replicate_succ, List.flatten_cons] at ih ⊢
    · rfl
  rw [hfl]
  refine .mk (by simp [hzl]) fun i x hi => ?_
  rw [hgen] at hi
  split at hi
  · rename_i hlt
    obtain ⟨v, hv, hr⟩ := h.get _ _ hi
    refine ⟨v, ?_, hr⟩
    have hlt' : i < n * c.size := by rw [hzl]; exact hlt
    have hmod : i % c.size < c.size := Nat.mod_lt _ (by omega)
    rw [← hzl] at hv
    have : c[i % c.size]! = v := by
      rw [getElem!_pos c (i % c.size) hmod]
      have h2 := (List.getElem?_eq_some_iff.1 hv).2
      simpa using h2
    simp [hlt', this]
  · cases hi

theorem repE_ok {z : List EV} (h : z.all cellOk = true) (n : Nat) : (repE n z).all cellOk = true := by
  unfold repE
  split
  · rename_i v
    simp at h
    exact List.all_eq_true.2 fun x hx => by rw [(List.mem_replicate.1 hx).2]; exact h
  · refine List.all_eq_true.2 fun x hx => ?_
    obtain ⟨l, hl, hxl⟩ := List.mem_flatten.1 hx
    rw [(List.mem_replicate.1 hl).2] at hxl
    exact List.all_eq_true.1 h x hxl

theorem repE_length {z : List EV} (n : Nat) : (repE n z).length = n * z.length := by
  unfold repE
  split <;> simp

theorem run_mklit (hm : MemRel G base w0 j m w) (hf : FRel j m nt A a.tmps) {t e : TypeId} {len n : Nat} (ht : P.underlying t = some (.slice e)) (hn : sizeC P e = some n) (hn0 : n ≠ 0) (hmost : len * n ≤ 16777216) {z : EV} {zs : List EV} (hz : zeroC P e = some z) (hfix : fixC z.cells n = some zs)
    {ps : Array (Nat × Operand)} {qs : List (Nat × Nat × Opd)} (hp : partsC (fun i => some (i * n, n)) ps.toList = some qs) {r : List EV} (h : fillE (repE len zs) (parts A qs) = some r) :
    Runs P G base w0 j m w (Instr.buildSlice t len (ps.map fun p => (p.1, a.eval p.2))) (.slice (some m.fresh) len len n, m.push (.cells r 0 true)) := by
  obtain ⟨rfl, hzl, ho⟩ := fixC_spec hfix
  obtain ⟨v, hv, hzr⟩ := run_zero hz
  have hx := (constE_rel (j := j) (m := m) hv).cells
  have hvs : v.cells.size = n := by rw [← hzl]; simpa using hx.length
  have hrep := rep_rel hx (by omega) len
  obtain ⟨c', h1, h2, h3, h4⟩ := fill_run hf hp hrep (repE_ok ho len) h
  have hcs : c'.size = len * n := by
    have := h2.length
    rw [h4, repE_length, hzl] at this
    simpa using this
  refine ⟨_, .slice (some ⟨w.heap.size, 0, none⟩) len len, w.alloc (.cells c' e), ?_, Ext.push j m _ w.heap.size c'.size, Runs.cells hm h2 h3 e, _, len, rfl, Nat.le_refl _, Nat.le_refl _, fresh_sl _ _ _ _ _ _ _ (by omega)⟩
  simp only [Instr.buildSlice, Sem.run_bind, underlying, run_program, Result.andThen_ok, ht, Sem.run_pure, run_size hn]
  rw [hvs] at h1
  have hno : ¬ (len * n > 2 ^ 24) := by omega
  by_cases h0 : len * n = 0
  · have hl0 : len = 0 := by
      rcases Nat.mul_eq_zero.1 h0 with h | h
      · exact h
      · exact absurd h hn0
    subst hl0
    have hr0 : Array.range 0 = #[] := rfl
    simp only [Nat.zero_mul, hr0, List.map_toArray, List.map_nil] at h1
    simp [hr0, h1, newRow]
  · simp only [hno, if_false, h0, Sem.run_bind, hzr, Sem.run_pure, Result.andThen_ok, hvs, Array.toList_map, h1, newRow, run_newObj, World.alloc_eq]

theorem wrap_i64 {n : Int} (h0 : 0 ≤ n) (h1 : n ≤ 281474976710656) : IntKind.i64.wrap n = n := by
  unfold IntKind.wrap
  simp [IntKind.signed, IntKind.bits]
  omega

theorem run_mkSlice (hm : MemRel G base w0 j m w) {t e : TypeId} {i : TypeInfo} (ht : P.underlying t = some (.slice e)) (hi : P.info? e = some i) (hs0 : i.size ≠ 0) (hb0 : i.bytes ≠ 0) {z : EV} {zs : List EV} (hz : zeroC P e = some z) (hfix : fixC z.cells i.size = some zs)
    {l c : Int} (h0 : 0 ≤ l) (h1 : l ≤ c) (h2 : i.bytes * c ≤ 281474976710656) :
    Runs P G base w0 j m w (Instr.makeSlice t (.int .i64 l) (.int .i64 c)) (.slice (some m.fresh) l.toNat c.toNat i.size, m.push (.cells (repE c.toNat zs) 0 true)) := by
  obtain ⟨rfl, hzl, ho⟩ := fixC_spec hfix
  obtain ⟨v, hv, hzr⟩ := run_zero hz
  have hx := (constE_rel (j := j) (m := m) hv).cells
  have hvs : v.cells.size = i.size := by rw [← hzl]; simpa using hx.length
  have hrep := rep_rel hx (by omega) c.toNat
  have hbc : c ≤ i.bytes * c := by
    have : (1 : Int) * c ≤ i.bytes * c := Int.mul_le_mul_of_nonneg_right (by omega) (by omega)
    omega
  have hwl := wrap_i64 h0 (by omega)
  have hwc : IntKind.i64.wrap c = c := wrap_i64 (by omega) (by omega)
  rw [hvs] at hrep
  refine ⟨_, .slice (some ⟨w.heap.size, 0, none⟩) l.toNat c.toNat, w.alloc (.cells ((Array.range (c.toNat * i.size)).map fun k => v.cells[k % i.size]!) e), ?_, Ext.push j m _ w.heap.size _, Runs.cells hm hrep (repE_ok ho _) e, _, c.toNat, rfl, Nat.le_refl _, by omega, fresh_sl _ _ _ _ _ _ _ (by simp)⟩
  have hsz : (sizeOf e).run P w = .ok i.size w := by simp [sizeOf, typeInfo, hi]
  have hnot : ¬ (c < 0 ∨ 281474976710656 < (i.bytes : Int) * c) := by omega
  by_cases hc0 : c.toNat * i.size = 0
  · have hc00 : c = 0 := by
      rcases Nat.mul_eq_zero.1 hc0 with h | h
      · omega
      · exact absurd h hs0
    subst hc00
    have hl00 : l = 0 := by omega
    subst hl00
    have hr0 : Array.range 0 = #[] := rfl
    have hw0 : IntKind.i64.wrap 0 = 0 := hwl
    simp [Instr.makeSlice, underlying, ht, asInt, asIntOf, typeInfo, hi, hw0, sizeOf, newRow, hr0]
  · simp [Instr.makeSlice, underlying, ht, asInt, asIntOf, typeInfo, hi, hwl, hwc, sizeOf, hc0, hzr, hvs, newRow]
    omega

/-! ### The rest -/
theorem run_copy (hm : MemRel G base w0 j m w) {t u ty e : TypeId} {n : Nat} (ht : P.underlying t = some (.slice e)) (hn : sizeC P e = some n) {x : Ad} {len cap ez : Nat} {y : EV} {v v' : Value} (hx : VRel j m (.slice (some x) len cap ez) v) (hy : VRel j m y v')
    {new : List EV} {k : Nat} (hsrc : srcCells G m n y = some (new, k)) {m' : Mem} (h : m.putN x (new.take (min k len * n)) = some m') (h0 : min k len ≠ 0) :
    Runs P G base w0 j m w (Builtin.copy_ #[t, u] ty #[v, v']) (.int .i64 (min k len : Nat), m') := by
  obtain ⟨a', cap', rfl, hc, hl, ha⟩ := hx
  obtain ⟨hlen, hnl, hno, hfirst⟩ := src_run (P := P) hm hy hsrc
  obtain ⟨vs, hvs, hfc⟩ := hfirst (min k len) (by omega)
  obtain ⟨j', w', hst, hext, hmr⟩ := hm.store (P := P) (fun _ => ha.ad (by omega)) h hvs (List.all_eq_true.2 fun q hq => List.all_eq_true.1 hno q (List.mem_of_mem_take hq))
  refine ⟨j', .int .i64 (min k len : Nat), w', ?_, hext, hmr, rfl⟩
  have hmin : Nat.min k len = min k len := rfl
  simp [Builtin.copy_, run_underlying ht, hlen, hmin, run_size hn, hfc, hst, goInt]

theorem run_clear (hm : MemRel G base w0 j m w) {t ty e : TypeId} {n : Nat} (ht : P.underlying t = some (.slice e)) (hn : n ≠ 0) {z : EV} (hz : zeroC P e = some z) {zs : List EV} (hfix : fixC z.cells n = some zs) {x : Ad} {len cap ez : Nat} {v : Value} (hx : VRel j m (.slice (some x) len cap ez) v)
    {m' : Mem} (h : m.putN x (repE len zs) = some m') (h0 : len ≠ 0) : Runs P G base w0 j m w (Builtin.clear_ #[t] ty #[v]) (.tuple [], m') := by
  obtain ⟨rfl, hzl, ho⟩ := fixC_spec hfix
  obtain ⟨zv, hv, hzr⟩ := run_zero hz
  have hzx := (constE_rel (j := j) (m := m) hv).cells
  have hvs : zv.cells.size = n := by rw [← hzl]; simpa using hzx.length
  have hrep := rep_rel hzx (by omega) len
  obtain ⟨a', cap', rfl, hc, hl, ha⟩ := hx
  obtain ⟨j', w', hst, hext, hmr⟩ := hm.store (P := P) (fun _ => ha.ad (by omega)) h hrep (repE_ok ho _)
  obtain ⟨k, rfl⟩ : ∃ k, len = k + 1 := ⟨len - 1, by omega⟩
  refine ⟨j', .tuple #[], w', ?_, hext, hmr, #[], rfl, rfl⟩
  simp only [Builtin.clear_, List.getElem?_toArray, List.getElem?_cons_zero, Sem.run_bind, run_underlying ht, Result.andThen_ok, hzr, Builtin.zeroCells, hst, Sem.run_pure]

theorem run_max (hm : MemRel G base w0 j m w) {ts : Array TypeId} {ty : TypeId} {k : IntKind} {x y : Int} : Runs P G base w0 j m w (Builtin.max_ ts ty #[.int k x, .int k y]) (.int k (if y > x then y else x), m) :=
  .same hm (v := .int k (if y > x then y else x)) (by simp [Builtin.max_, Builtin.max2]) rfl
theorem run_min (hm : MemRel G base w0 j m w) {ts : Array TypeId} {ty : TypeId} {k : IntKind} {x y : Int} : Runs P G base w0 j m w (Builtin.min_ ts ty #[.int k x, .int k y]) (.int k (if y < x then y else x), m) :=
  .same hm (v := .int k (if y < x then y else x)) (by simp [Builtin.min_, Builtin.min2]) rfl

theorem run_assertIface (hm : MemRel G base w0 j m w) {xt t : TypeId} {d : TypeDesc} (ht : P.underlying t = some d) (hd : ∀ ms, d ≠ .interface ms) {z : EV} (hz : zeroC P t = some z) {u : TypeId} {x : EV} {v : Value} (hx : VRel j m (.iface u x) v) {ok : Bool} {r : EV}
    (h : (if u = t then some (if ok then .tuple [x, .bool true] else x) else if ok then some (.tuple [z, .bool false]) else none) = some r) : Runs P G base w0 j m w (Instr.typeAssert v xt t ok) (r, m) := by
  obtain ⟨x', rfl, hx'⟩ := hx
  obtain ⟨zv, hzv, hzr⟩ := run_zero hz
  have hzx := constE_rel (j := j) (m := m) hzv
  have hstep : ∀ s1 s2 : Sem Value, (Instr.typeAssert (.iface u x') xt t ok).run P w = (if u = t then (pure (if ok then .tuple #[x', .bool true] else x') : Sem Value).run P w else
      (if ok then (do pure (.tuple #[← zeroValue t, .bool false]) : Sem Value) else runtimePanic (.typeAssertion (some xt) (some u) t "")).run P w) := by
    intro _ _
    simp only [Instr.typeAssert, Sem.run_bind, underlying, run_program, Result.andThen_ok, ht, Sem.run_pure]
    cases d <;> first | (exact absurd rfl (hd _)) | (by_cases hu : u = t <;> simp [hu])
  split at h
  · rename_i hu
    cases h
    cases ok with
    | true => exact .same hm (v := .tuple #[x', .bool true]) (by rw [hstep (pure x') (pure x'), if_pos hu]; rfl) ⟨_, rfl, _, _, rfl, hx', _, _, rfl, rfl, rfl⟩
    | false => exact .same hm (v := x') (by rw [hstep (pure x') (pure x'), if_pos hu]; rfl) hx'
  · rename_i hu
    split at h
    · rename_i hok
      cases h
      subst hok
      exact .same hm (v := .tuple #[zv, .bool false]) (by rw [hstep (pure x') (pure x'), if_neg hu]; simp [hzr]) ⟨_, rfl, _, _, rfl, hzx, _, _, rfl, rfl, rfl⟩
    · cases h

theorem run_assertNil (hm : MemRel G base w0 j m w) {xt t : TypeId} {d : TypeDesc} (ht : P.underlying t = some d) (hd : ∀ ms, d ≠ .interface ms) {z : EV} (hz : zeroC P t = some z) : Runs P G base w0 j m w (Instr.typeAssert .nilIface xt t true) (.tuple [z, .bool false], m) := by
  obtain ⟨zv, hzv, hzr⟩ := run_zero hz
  have hzx := constE_rel (j := j) (m := m) hzv
  refine .same hm (v := .tuple #[zv, .bool false]) ?_ ⟨_, rfl, _, _, rfl, hzx, _, _, rfl, rfl, rfl⟩
  simp only [Instr.typeAssert, Sem.run_bind, underlying, run_program, Result.andThen_ok, ht, Sem.run_pure]
  cases d <;> first | (exact absurd rfl (hd _)) | simp [hzr]

theorem run_lenStr (hm : MemRel G base w0 j m w) {t ty : TypeId} (ht : P.underlying t = some .string) {s : List UInt8} {v : Value} (hx : VRel j m (.str s) v) : Runs P G base w0 j m w (Builtin.len_ #[t] ty #[v]) (.int .i64 s.length, m) := by
  cases hx
  exact .same hm (v := .int .i64 s.length) (by simp [Builtin.len_, run_underlying ht, str_size, goInt]) rfl

theorem run_lenSlice (hm : MemRel G base w0 j m w) {t ty e : TypeId} (ht : P.underlying t = some (.slice e)) {x : Option Ad} {n c z : Nat} {v : Value} (hx : VRel j m (.slice x n c z) v) : Runs P G base w0 j m w (Builtin.len_ #[t] ty #[v]) (.int .i64 n, m) := by
  cases x with
  | none =>
    obtain ⟨rfl, rfl, rfl⟩ := hx
    exact .same hm (v := .int .i64 0) (by simp [Builtin.len_, run_underlying ht, goInt]) rfl
  | some x =>
    obtain ⟨a', cap', rfl, _⟩ := hx
    exact .same hm (v := .int .i64 n) (by simp [Builtin.len_, run_underlying ht, goInt]) rfl

theorem run_capNil (hm : MemRel G base w0 j m w) {t ty e : TypeId} (ht : P.underlying t = some (.slice e)) {n c z : Nat} {v : Value} (hx : VRel j m (.slice none n c z) v) : Runs P G base w0 j m w (Builtin.cap_ #[t] ty #[v]) (.int .i64 0, m) := by
  obtain ⟨rfl, rfl, rfl⟩ := hx
  exact .same hm (v := .int .i64 0) (by simp [Builtin.cap_, run_underlying ht, goInt]) rfl

theorem run_lenNilMap (hm : MemRel G base w0 j m w) {t ty k e : TypeId} (ht : P.underlying t = some (.map k e)) {v : Value} (hx : VRel j m (.map none) v) : Runs P G base w0 j m w (Builtin.len_ #[t] ty #[v]) (.int .i64 0, m) := by
  cases hx
  exact .same hm (v := .int .i64 0) (by simp [Builtin.len_, run_underlying ht, goInt]) rfl

theorem run_lenMap (hm : MemRel G base w0 j m w) {t ty k e : TypeId} (ht : P.underlying t = some (.map k e)) {r : Nat} {v : Value} (hx : VRel j m (.map (some r)) v) {es : List Ent} {ck : Nat} (hb : m.bl[r]? = some (.map es ck)) :
    Runs P G base w0 j m w (Builtin.len_ #[t] ty #[v]) (.int .i64 es.length, m) := by
  obtain ⟨r', rfl, _, hr⟩ := hx
  have := hr ⟨_, rfl, hb⟩
  subst this
  obtain ⟨_, es', hes, hl, _⟩ := hm.maps r es ck hb
  have hg : (getObj (j.blk r)).run P w = .ok (.map es' ck) w := by simp [getObj, Sem.run, hes]
  exact .same hm (v := .int .i64 es.length) (by simp [Builtin.len_, run_underlying ht, goInt, hg, hl]) rfl

theorem run_mkIface (hm : MemRel G base w0 j m w) {t : TypeId} {d : TypeDesc} (ht : P.underlying t = some d) (hd : ∀ ms, d ≠ .interface ms) {x : EV} {v : Value} (hx : VRel j m x v) : Runs P G base w0 j m w (Instr.makeInterface t v) (.iface t x, m) := by
  refine .same hm (v := .iface t v) ?_ ⟨_, rfl, hx⟩
  simp only [Instr.makeInterface, Sem.run_bind, underlying, run_program, Result.andThen_ok, ht, Sem.run_pure]

end
end Go.Ev
