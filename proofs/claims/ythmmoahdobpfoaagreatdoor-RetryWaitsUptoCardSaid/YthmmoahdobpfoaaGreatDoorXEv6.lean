/- The engine, part 6: conversions, slicing, lengths, composite values and appends in the machine. There are no conditions. -/
import Derived.Test.YthmmoahdobpfoaaGreatDoorXEv5
set_option linter.unusedSectionVars false
set_option linter.unusedVariables false
set_option linter.unusedSimpArgs false
namespace Go.Ev
open Go.RowKit (Below)

section
variable {P : Program} {G : Globs} {base : Nat} {w0 w : World} {j : Inj} {m : Mem} {nt : Nat} {A : Fr} {a : Act}

theorem run_toInt (hm : MemRel G base w0 j m w) {src dst : TypeId} {k k0 : IntKind} {n : Int} (hs : (P.underlying src).isSome = true) (hd : P.underlying dst = some (.int k)) {v : Value} (hx : VRel j m (.int k0 n) v) :
    Runs P G base w0 j m w (convert src dst v) (.int k (k.wrap n), m) := by
  cases hx
  obtain ⟨d, hs⟩ := Option.isSome_iff_exists.1 hs
  exact .same hm (v := .int k (k.wrap n)) (by simp [convert, underlying, hs, hd, Conv.intToInt]) rfl

theorem run_sameStr (hm : MemRel G base w0 j m w) {src dst : TypeId} (hs : P.underlying src = some .string) (hd : P.underlying dst = some .string) {s : List UInt8} {v : Value} (hx : VRel j m (.str s) v) :
    Runs P G base w0 j m w (convert src dst v) (.str s, m) := by
  cases hx
  exact .same hm (v := .string ⟨s.toArray⟩) (by simp [convert, underlying, hs, hd]) rfl

theorem freeze_new (w : World) (c : Array Value) (ty : TypeId) (n : Nat) : (w.alloc (.cells c ty)).freeze ⟨w.heap.size, n, none⟩ 1 = w.alloc (.cells c ty (n, n + 1)) := by
  unfold World.freeze World.alloc
  simp only [Nat.succ_ne_zero, if_false]
  congr 1
  apply Array.ext
  · simp
  · intro i h1 h2
    simp only [Array.getElem_modify, Array.getElem_push]
    by_cases e : i < w.heap.size
    · have : ¬ w.heap.size = i := by omega
      simp [e, this]
    · have : w.heap.size = i := by simp at h2; omega
      simp [this]

theorem bytes_rel (j : Inj) (m : Mem) (s : List UInt8) : VsRel j m (bytesE s) (s.map fun b => .int .u8 b.toNat) ∧ (bytesE s).all cellOk = true := by
  induction s with
  | nil => exact ⟨rfl, rfl⟩
  | cons b s ih => exact ⟨⟨_, _, rfl, rfl, ih.1⟩, by simp [bytesE, byteE, cellOk]⟩

theorem run_toBytes (hm : MemRel G base w0 j m w) {src dst e : TypeId} (hs : P.underlying src = some .string) (hd : P.underlying dst = some (.slice e)) (he : P.underlying e = some (.int .u8)) {s : List UInt8} {v : Value} (hx : VRel j m (.str s) v) :
    Runs P G base w0 j m w (convert src dst v) (.slice (some m.fresh) s.length s.length 1, m.push (.cells (bytesE s) 0 true)) := by
  cases hx
  obtain ⟨cap, hcap, hch⟩ : ∃ cap, s.length ≤ cap ∧ (choose (.appendCap s.length 0 e)).run P w = .ok cap w.drew := by
    refine ⟨s.length + w.tape w.drawn (.appendCap s.length 0 e) % (2 ^ 63 - s.length), by omega, ?_⟩
    simp [Question.forced, Question.cut]
  let c : Array Value := (s.toArray.map fun b => Value.int .u8 b.toNat) ++ Array.replicate (cap - s.length) (.int .u8 0)
  have hcs : c.size = cap := by simp [c]; omega
  have hrun : (convert src dst (.string ⟨s.toArray⟩)).run P w = .ok (.slice (some ⟨w.heap.size, 0, none⟩) s.length cap) (w.drew.alloc (.cells c e (cap, cap + 1))) := by
    have hsz : (w.drew).heap.size = w.heap.size := rfl
    simp only [convert, Sem.run_bind, underlying, run_program, Result.andThen_ok, hs, hd, he, Sem.run_pure, Conv.stringToBytes, str_size, hch, newRow, run_newObj, World.alloc_eq, markStringish, run_shape]
    have h1 : (w.drew.alloc (.cells c e)).shape? w.heap.size = some (e, cap) := by
      have : (w.drew.alloc (.cells c e)).heap[w.heap.size]? = some (.cells c e) := by rw [heap_new, if_pos hsz.symm]
      simp only [World.shape?, this, hcs]
    have h2 : ((Array.map (fun b => Value.int IntKind.u8 (b.toNat : Int)) s.toArray) ++ Array.replicate (cap - s.length) (Value.int IntKind.u8 0)) = c := rfl
    rw [h2, hsz, h1]
    simp only [run_freeze, Result.andThen_ok]
    have := freeze_new w.drew c e cap
    rw [hsz] at this
    rw [this]
  refine ⟨_, _, _, hrun, Ext.push j m _ w.heap.size cap, hm.drew.push (s := cap) ⟨(bytes_rel j m s).2, c, e, _, rfl, hcs, ⟨by simp [bytesE, hcs]; exact hcap, fun i x hi => ?_⟩, fun _ => .inr (Nat.le_of_eq hcs), fun h => absurd h (by decide)⟩, _, cap, rfl, hcap, Nat.le_refl _, fresh_sl _ _ _ _ _ _ _ (by omega)⟩
  obtain ⟨u, hu, hr⟩ := (bytes_rel j m s).1.get i x hi
  refine ⟨u, ?_, hr⟩
  have hi' : i < s.length := by
    have := (List.getElem?_eq_some_iff.1 hi).1
    simpa [bytesE] using this
  simp only [Nat.zero_add, c]
  rw [Array.getElem?_append_left (by simpa using hi')]
  simpa using hu

theorem strE_rel {j : Inj} {m : Mem} : ∀ {cs : List EV} {s : List UInt8} {vs : List Value}, strE cs = some s → VsRel j m cs vs → ∃ ns : List Int, vs = ns.map (Value.int .u8) ∧ s = ns.map fun n => UInt8.ofNat n.toNat
  | [], _, _, h, r => by
    simp only [strE] at h
    cases h
    simp only [VsRel] at r
    subst r
    exact ⟨[], rfl, rfl⟩
  | x :: xs, _, _, h, r => by
    simp only [strE] at h
    obtain ⟨v, vs, rfl, r1, rs⟩ := r
    split at h
    · rename_i b s hb hs
      cases h
      obtain ⟨ns, rfl, rfl⟩ := strE_rel hs rs
      unfold byteOfE at hb
      split at hb
      · rename_i n
        cases hb
        cases r1
        exact ⟨n :: ns, rfl, rfl⟩
      · cases hb
    · cases h

theorem foldl_push' : ∀ (ns : List Int) (s : ByteArray), ns.foldl (fun r n => r.push (UInt8.ofNat n.toNat)) s = ⟨s.data ++ (ns.map fun n => UInt8.ofNat n.toNat).toArray⟩
  | [], s => by simp
  | n :: ns, s => by
    rw [List.foldl_cons, foldl_push' ns]
    simp [ByteArray.push]

theorem run_toStr (hm : MemRel G base w0 j m w) {src dst e : TypeId} (hs : P.underlying src = some (.slice e)) (hd : P.underlying dst = some .string) (he : P.underlying e = some (.int .u8)) {x : Ad} {n cap esz : Nat} {v : Value}
    (hx : VRel j m (.slice (some x) n cap esz) v) {cs : List EV} (hg : m.getN G x n = some cs) {s : List UInt8} (hstr : strE cs = some s) : Runs P G base w0 j m w (convert src dst v) (.str s, m) := by
  obtain ⟨a', cap', rfl, hc, hl, ha⟩ := hx
  obtain ⟨hlen, ho, vs, hr, _, hrun⟩ := hm.getN (P := P) (a' := a') hg (by
    rcases Nat.eq_zero_or_pos n with h | h
    · exact .inl h
    · exact .inr (ha.ad (by omega)))
  obtain ⟨ns, rfl, rfl⟩ := strE_rel hstr hr
  refine .same hm (v := .string ⟨(ns.map fun n : Int => UInt8.ofNat n.toNat).toArray⟩) ?_ rfl
  rw [run_convert_bytes_string w src dst e _ n cap' hs he hd, run_bytesToString w a' n cap' ns hrun, foldl_push']
  simp [ByteArray.empty, ByteArray.emptyWithCapacity]
  rfl

theorem run_toStr_nil (hm : MemRel G base w0 j m w) {src dst e : TypeId} (hs : P.underlying src = some (.slice e)) (hd : P.underlying dst = some .string) (he : P.underlying e = some (.int .u8)) {n cap esz : Nat} {v : Value}
    (hx : VRel j m (.slice none n cap esz) v) : Runs P G base w0 j m w (convert src dst v) (.str [], m) := by
  obtain ⟨rfl, _⟩ := hx
  refine .same hm (v := .string ⟨#[]⟩) ?_ rfl
  rw [run_convert_bytes_string w src dst e _ 0 0 hs he hd]
  simp [Conv.bytesToString]
  rfl

theorem bound_run (hf : FRel j m nt A a.tmps) {o : Option Operand} {q : Option Opd} (hq : optC o = some q) {d n : Nat} (h : bound A d q = some n) {y : Nat} (hy : n ≤ y) (code : BoundsCode) (w : World) :
    match o.map a.eval with
    | some v => (Instr.sliceBound v y code).run P w = .ok n w
    | none => n = d := by
  cases o with
  | none =>
    simp only [optC] at hq
    cases hq
    simp only [bound] at h
    cases h
    rfl
  | some x =>
    simp only [optC] at hq
    obtain ⟨z, hz, rfl⟩ := Option.map_eq_some_iff.1 hq
    have hr := opdC_rel hf hz
    simp only [bound] at h
    split at h
    · rename_i k i hi
      split at h
      · rename_i h0
        cases h
        rw [hi] at hr
        have hv : a.eval x = .int k i := hr
        simp only [Option.map_some, hv]
        simp only [Instr.sliceBound, Sem.run_bind, asIntOf, Sem.run_pure, Result.andThen_ok]
        rw [if_pos ⟨h0, by omega⟩]
        rfl
      · cases h
    · cases h

theorem bounds_run (hf : FRel j m nt A a.tmps) {lo hi : Option Operand} {ql qh : Option Opd} (hl : optC lo = some ql) (hh : optC hi = some qh) {len cap h l : Nat} (h1 : bound A len qh = some h) (h2 : bound A 0 ql = some l)
    (h3 : l ≤ h) (h4 : h ≤ cap) (isSlice : Bool) (w : World) : (Instr.sliceBounds isSlice len cap (lo.map a.eval) (hi.map a.eval) none).run P w = .ok (l, h, cap) w := by
  have b1 := bound_run (P := P) hf hh h1 h4 (if isSlice then .sliceAcap else .sliceAlen) w
  have b2 := bound_run (P := P) hf hl h2 h3 .sliceB w
  unfold Instr.sliceBounds
  cases hhi : hi.map a.eval with
  | none =>
    rw [hhi] at b1
    simp only at b1
    subst b1
    cases hlo : lo.map a.eval with
    | none => rw [hlo] at b2; simp only at b2; subst b2; rfl
    | some v => rw [hlo] at b2; simp only at b2; simp [b2]
  | some u =>
    rw [hhi] at b1
    simp only at b1
    cases hlo : lo.map a.eval with
    | none => rw [hlo] at b2; simp only at b2; subst b2; simp [b1]
    | some v => rw [hlo] at b2; simp only at b2; simp [b1, b2]

theorem extract_str (s : List UInt8) (l h : Nat) : (⟨s.toArray⟩ : ByteArray).extract l h = ⟨((s.drop l).take (h - l)).toArray⟩ := by
  apply ByteArray.ext
  simp [List.drop_take, List.extract_eq_take_drop]

theorem run_slStr (hm : MemRel G base w0 j m w) (hf : FRel j m nt A a.tmps) {t : TypeId} (ht : P.underlying t = some .string) {s : List UInt8} {v : Value} (hx : VRel j m (.str s) v) {lo hi : Option Operand} {ql qh : Option Opd}
    (hl : optC lo = some ql) (hh : optC hi = some qh) {h l : Nat} (h1 : bound A s.length qh = some h) (h2 : bound A 0 ql = some l) (h3 : l ≤ h) (h4 : h ≤ s.length) :
    Runs P G base w0 j m w (Instr.sliceAt t v (lo.map a.eval) (hi.map a.eval) none) (.str ((s.drop l).take (h - l)), m) := by
  cases hx
  have hb := bounds_run (P := P) hf hl hh h1 h2 h3 h4 false w
  refine .same hm (v := .string ⟨((s.drop l).take (h - l)).toArray⟩) ?_ rfl
  simp only [Instr.sliceAt, Instr.slice, Sem.run_bind, underlying, run_program, Result.andThen_ok, ht, Sem.run_pure, str_size, hb, Option.isSome_none, Bool.false_eq_true, if_false, extract_str]

theorem SlRel.plus {x : Ad} {a' : Addr} {c e : Nat} (h : SlRel j m x a' c e) {l : Nat} (hl : l ≤ c) : SlRel j m (x.plus (l * e)) (if c = l then a' else a'.add (l * e)) (c - l) e := by
  unfold SlRel at *
  simp only [Ad.plus]
  split
  · rename_i g hg
    rw [hg] at h
    simp only at h
    by_cases hc : c = l
    · exact .inl (by omega)
    · rw [if_neg hc]
      refine .inr ?_
      rw [h.resolve_left (by omega), add_plain']
  · rename_i b gen hg
    rw [hg] at h
    simp only at h
    refine ⟨h.1, h.2.1, fun hlv => ?_⟩
    by_cases hc : c = l
    · exact .inl (by omega)
    · rw [if_neg hc]
      obtain ⟨e1, e2⟩ := (h.2.2 hlv).resolve_left (by omega)
      refine .inr ⟨by rw [e1, add_plain', Nat.add_assoc], ?_⟩
      have : (c - l) * e + l * e = c * e := by rw [← Nat.add_mul]; congr 1; omega
      omega
  · rename_i wk hg
    rw [hg] at h
    by_cases hc : c = l
    · exact .inl (by omega)
    · rw [if_neg hc]
      obtain ⟨R, d, n, h1, rfl, h2, h3⟩ := h.resolve_left (by omega)
      refine .inr ⟨R, d, n, h1, by rw [add_plain', Nat.add_assoc], h2, ?_⟩
      have : (c - l) * e + l * e = c * e := by rw [← Nat.add_mul]; congr 1; omega
      omega

theorem run_slSlice (hm : MemRel G base w0 j m w) (hf : FRel j m nt A a.tmps) {t e : TypeId} {n : Nat} (ht : P.underlying t = some (.slice e)) (hn : sizeC P e = some n) {x : Ad} {len cap : Nat} {v : Value} (hx : VRel j m (.slice (some x) len cap n) v)
    {lo hi : Option Operand} {ql qh : Option Opd} (hl : optC lo = some ql) (hh : optC hi = some qh) {h l : Nat} (h1 : bound A len qh = some h) (h2 : bound A 0 ql = some l) (h3 : l ≤ h) (h4 : h ≤ cap) :
    Runs P G base w0 j m w (Instr.sliceAt t v (lo.map a.eval) (hi.map a.eval) none) (.slice (some (x.plus (l * n))) (h - l) (cap - l) n, m) := by
  obtain ⟨a', cap', rfl, hc, hlen, ha⟩ := hx
  have hb := bounds_run (P := P) hf hl hh h1 h2 h3 (Nat.le_trans h4 hc) true w
  refine .same hm (v := .slice (some (if cap' = l then a' else a'.add (l * n))) (h - l) (cap' - l)) ?_ ⟨_, _, rfl, by omega, by omega, ha.plus (by omega)⟩
  simp only [Instr.sliceAt, Instr.slice, Sem.run_bind, underlying, run_program, Result.andThen_ok, ht, Sem.run_pure, hb, run_size hn]
  split <;> rfl

theorem run_slNil (hm : MemRel G base w0 j m w) (hf : FRel j m nt A a.tmps) {t e : TypeId} {n : Nat} (ht : P.underlying t = some (.slice e)) (hn : sizeC P e = some n) {len cap ez : Nat} {v : Value} (hx : VRel j m (.slice none len cap ez) v)
    {lo hi : Option Operand} {ql qh : Option Opd} (hl : optC lo = some ql) (hh : optC hi = some qh) {h l : Nat} (h1 : bound A len qh = some h) (h2 : bound A 0 ql = some l) (h3 : l ≤ h) (h4 : h ≤ cap) :
    Runs P G base w0 j m w (Instr.sliceAt t v (lo.map a.eval) (hi.map a.eval) none) (.slice none (h - l) (cap - l) ez, m) := by
  obtain ⟨rfl, rfl, rfl⟩ := hx
  have hb := bounds_run (P := P) hf hl hh h1 h2 h3 h4 true w
  refine .same hm (v := .slice none 0 0) ?_ ⟨rfl, by omega, by omega⟩
  have e1 : h = 0 := by omega
  have e2 : l = 0 := by omega
  subst e1
  subst e2
  simp only [Instr.sliceAt, Instr.slice, Sem.run_bind, underlying, run_program, Result.andThen_ok, ht, Sem.run_pure, hb, run_size hn]
  rfl

theorem run_slArr (hm : MemRel G base w0 j m w) (hf : FRel j m nt A a.tmps) {t e : TypeId} {k n : Nat} (ht : P.underlying t = some (.array k e)) (hn : sizeC P e = some n) {x : Ad} {v : Value} (hx : VRel j m (.ptr (some x)) v)
    {cs : List EV} (hrow : m.row G x.base = some cs) (hfit : x.off + k * n ≤ cs.length)
    {lo hi : Option Operand} {ql qh : Option Opd} (hl : optC lo = some ql) (hh : optC hi = some qh) {h l : Nat} (h1 : bound A k qh = some h) (h2 : bound A 0 ql = some l) (h3 : l ≤ h) (h4 : h ≤ k) :
    Runs P G base w0 j m w (Instr.sliceAt t v (lo.map a.eval) (hi.map a.eval) none) (.slice (some (x.plus (l * n))) (h - l) (k - l) n, m) := by
  obtain ⟨a', rfl, ha⟩ := hx
  have hb := bounds_run (P := P) hf hl hh h1 h2 h3 h4 false w
  have hs : SlRel j m x a' k n := by
    unfold AdRel at ha
    unfold SlRel
    unfold Mem.row at hrow
    split
    · rename_i g hg
      rw [hg] at ha
      exact .inr ha
    · rename_i b gen hg
      rw [hg] at ha hrow
      simp only at ha hrow
      refine ⟨ha.1, ha.2.1, fun hlv => .inr ⟨ha.2.2 hlv, ?_⟩⟩
      split at hrow
      · rename_i cs' gen' rw' hbl
        split at hrow
        · cases hrow
          obtain ⟨_, c, ty, fr, _, hsz, hr, _⟩ := hm.cells b _ _ _ hbl
          have := hr.1
          omega
        · cases hrow
      · cases hrow
    · rename_i wk hg
      rw [hg] at hrow
      cases hrow
  refine .same hm (v := .slice (some (if k = l then a' else a'.add (l * n))) (h - l) (k - l)) ?_ ⟨_, _, rfl, Nat.le_refl _, by omega, hs.plus (by omega)⟩
  simp only [Instr.sliceAt, Sem.run_bind, underlying, run_program, Result.andThen_ok, ht, Sem.run_pure, Instr.sureAddr, hb, run_size hn]

end
end Go.Ev
