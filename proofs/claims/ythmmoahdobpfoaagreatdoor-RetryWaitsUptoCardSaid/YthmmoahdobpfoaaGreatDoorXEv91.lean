/- The engine, part 9b: variables that may point to themselves, bytes told as a text without being copied: what strings.Builder does. There are no conditions. -/
import Derived.Test.YthmmoahdobpfoaaGreatDoorXEv9
import Derived.Lib.Builder
import Derived.Lib.UnsafeStr
set_option linter.unusedSectionVars false
set_option linter.unusedVariables false
set_option linter.unusedSimpArgs false
namespace Go.Ev
open Go.RowKit (Below)

section
variable {P : Program} {G : Globs} {base : Nat} {w0 w : World} {j : Inj} {m : Mem}

theorem run_newT (hm : MemRel G base w0 j m w) {t : TypeId} {z : EV} {n : Nat} (hz : zeroC P t = some z) (ho : z.cells.all cellOk = true) :
    Runs P G base w0 j m w (Instr.alloc t true (.tuple #[])) (.ptr (some ⟨.mem m.bl.length (typeK * (1 + t)), 0⟩), m.push (.cells z.cells (typeK * (1 + t)) true)) := by
  obtain ⟨v, hv, hr⟩ := run_zero hz
  have hx := (constE_rel (j := j) (m := m) hv).cells
  have hl : v.cells.size = z.cells.length := by simpa using hx.length
  refine ⟨_, .pointer (some ⟨w.heap.size, 0, none⟩), w.alloc (.cells v.cells t), by simp [Instr.alloc, hr, newVar, newRow], Ext.push j m _ w.heap.size v.cells.size, hm.push ⟨ho, v.cells, t, (0, 0), rfl, rfl, ⟨by omega, fun i x hi => ?_⟩, fun _ => .inl rfl, fun _ => ⟨?_, fun _ => hl⟩⟩, _, rfl, fresh_adT _ _ _ _ _ _ rfl⟩
  · obtain ⟨u, hu, hxu⟩ := hx.get i x hi
    exact ⟨u, by simpa using hu, hxu⟩
  · rw [Nat.mul_div_cancel_left _ (by decide)]
    exact Nat.add_comm t 1

theorem shape_of {g : Nat} {c : Array Value} {ty : TypeId} {fr : Nat × Nat} (h : w.heap[g]? = some (.cells c ty fr)) : w.shape? g = some (ty, c.size) := by
  simp [World.shape?, h]

theorem run_unsafeTo (hm : MemRel G base w0 j m w) {src dst t : TypeId} {n : Nat} (hs : P.underlying src = some (.pointer t)) (hd : P.underlying dst = some .unsafePointer) (hn : sizeC P t = some n) (hn0 : n ≠ 0)
    {b gen : Nat} {cs : List EV} {rw : Bool} (hb : m.bl[b]? = some (.cells cs gen rw)) (hne : cs ≠ []) {v : Value} (hx : VRel j m (.ptr (some ⟨.mem b gen, 0⟩)) v) :
    Runs P G base w0 j m w (convert src dst v) (.ptr (some ⟨.mem b gen, 0⟩), m) := by
  obtain ⟨a', rfl, ha⟩ := hx
  obtain ⟨i, hi, rfl⟩ := info_of hn
  obtain ⟨_, c, ty, fr, hc, hsz, hrow, _⟩ := hm.cells b cs gen rw hb
  have ha' := ha.2.2 ⟨cs, rw, hb⟩
  have hl : 0 < cs.length := List.length_pos_iff.2 hne
  have := hrow.1
  refine .same hm (v := .pointer (some a')) ?_ ⟨a', rfl, ha⟩
  refine Lib.run_to_unsafe w a' hs hd hi hn0 (e := ty) (cells := c.size) ?_ ?_
  · rw [ha']; exact shape_of hc
  · rw [ha']; simp only; omega

theorem run_unsafeFrom (hm : MemRel G base w0 j m w) {src dst u : TypeId} {n : Nat} (hs : P.underlying src = some .unsafePointer) (hd : P.underlying dst = some (.pointer u)) (hn : sizeC P u = some n)
    (hlies : liesAt P P.depth u (n / P.cellsOf u) 0 u 1 = true) {b gen : Nat} {cs : List EV} {rw : Bool} (hb : m.bl[b]? = some (.cells cs gen rw)) (hg : gen = typeK * (1 + u)) (hl : cs.length = n)
    {v : Value} (hx : VRel j m (.ptr (some ⟨.mem b gen, 0⟩)) v) : Runs P G base w0 j m w (convert src dst v) (.ptr (some ⟨.mem b gen, 0⟩), m) := by
  obtain ⟨a', rfl, ha⟩ := hx
  obtain ⟨i, hi, _⟩ := info_of hn
  obtain ⟨_, c, ty, fr, hc, hsz, hrow, _⟩ := hm.cells b cs gen rw hb
  have ha' := ha.2.2 ⟨cs, rw, hb⟩
  obtain ⟨t1, t2, t3⟩ := hm.typed b cs gen rw c ty fr hb hc (by rw [hg]; exact Nat.le_mul_of_pos_right _ (by omega))
  have hty : ty = u := by rw [hg, Nat.mul_div_cancel_left _ (by decide)] at t1; exact Nat.succ.inj (t1.trans (Nat.add_comm 1 u))
  have hcs : c.size = n := by rw [t3 (by rw [hg]; exact Nat.mul_mod_right ..), hl]
  subst hty
  refine .same hm (v := .pointer (some a')) ?_ ⟨a', rfl, ha⟩
  refine Lib.run_from_unsafe w a' hs hd hi (e := ty) (cells := c.size) ?_ ?_
  · rw [ha']; exact shape_of hc
  · rw [ha', hcs]; simp only [t2]; exact hlies

theorem run_unsafe_nil (hm : MemRel G base w0 j m w) {src dst : TypeId} (h : (∃ t, P.underlying src = some (.pointer t) ∧ P.underlying dst = some .unsafePointer) ∨ ∃ u, P.underlying src = some .unsafePointer ∧ P.underlying dst = some (.pointer u)) {v : Value} (hx : VRel j m (.ptr none) v) :
    Runs P G base w0 j m w (convert src dst v) (.ptr none, m) := by
  cases hx
  refine .same hm (v := .pointer none) ?_ rfl
  rcases h with ⟨t, hs, hd⟩ | ⟨u, hs, hd⟩ <;> simp [convert, run_underlying hs, run_underlying hd, Conv.unsafePointer]

theorem run_sliceData (hm : MemRel G base w0 j m w) (ts : Array TypeId) (ty : TypeId) {ad : Option Ad} {n c e : Nat} (hc : ad.isSome = true → c ≠ 0) {v : Value} (hx : VRel j m (.slice ad n c e) v) :
    Runs P G base w0 j m w (Builtin.unsafeSliceData_ ts ty #[v]) (.ptr ad, m) := by
  cases ad with
  | none =>
    obtain ⟨rfl, _⟩ := hx
    exact .same hm (v := .pointer none) (Lib.run_unsafeSliceData_nil w ts ty 0 0) rfl
  | some x =>
    obtain ⟨a', cap', rfl, h1, h2, ha⟩ := hx
    have hc0 := hc rfl
    exact .same hm (v := .pointer (some a')) (Lib.run_unsafeSliceData_row w ts ty a' n cap' (by omega)) ⟨a', rfl, ha.ad (by omega)⟩

/-- Cells of a block are kept from writing. -/
theorem MemRel.frozen (h : MemRel G base w0 j m w) {b : Nat} {cs : List EV} {gen : Nat} (hb : m.bl[b]? = some (.cells cs gen true)) (p : Addr) (hp : p.block = j.blk b) (n low : Nat) :
    MemRel G base w0 j ⟨m.bl.set b (.cells cs gen false), low⟩ (w.freeze p n) ∧ Ext j m j ⟨m.bl.set b (.cells cs gen false), low⟩ := by
  have hlt : b < m.bl.length := (List.getElem?_eq_some_iff.1 hb).1
  obtain ⟨_, c0, ty0, fr0, hc0, _, _, hw0⟩ := h.cells b _ _ _ hb
  have hbase := (hw0 rfl).1
  have hext : Ext j m j ⟨m.bl.set b (.cells cs gen false), low⟩ := by
    refine ⟨by simp, fun k hk => ?_, fun k gk hk hgk hl => ?_, fun k hk hl => ?_, fun _ _ h => h⟩
    · rw [genAt_set hlt]
      split
      · rename_i e
        subst e
        simp only [genAt, hb, Blk.gen]
        exact Nat.le_refl _
      · exact Nat.le_refl _
    · obtain ⟨cs', rw', hl⟩ := hl
      simp only [bl_set hlt] at hl
      split at hl
      · rename_i e
        subst e
        cases hl
        exact ⟨⟨cs, true, hb⟩, rfl, rfl, rfl⟩
      · exact ⟨⟨cs', rw', hl⟩, rfl, rfl, rfl⟩
    · obtain ⟨es, ck, hl⟩ := hl
      simp only [bl_set hlt] at hl
      split at hl
      · cases hl; cases ck
      · exact ⟨⟨es, ck, hl⟩, rfl⟩
  have hother : ∀ g, g ≠ j.blk b → (w.freeze p n).heap[g]? = w.heap[g]? := by
    intro g hg
    unfold World.freeze
    split
    · rfl
    · simp only [Array.getElem?_modify]
      rw [if_neg (by rw [hp]; exact fun e => hg e.symm)]
  have hhere : ∀ c ty fr, w.heap[j.blk b]? = some (.cells c ty fr) → ∃ fr', (w.freeze p n).heap[j.blk b]? = some (.cells c ty fr') := by
    intro c ty fr hc
    unfold World.freeze
    split
    · exact ⟨fr, hc⟩
    · simp only [Array.getElem?_modify, hp, if_true, hc, Option.map_some]
      exact ⟨_, rfl⟩
  have hne : ∀ k, k ≠ b → (∃ cs gen rw, m.bl[k]? = some (.cells cs gen rw)) ∨ liveMap m k → (w.freeze p n).heap[j.blk k]? = w.heap[j.blk k]? := fun k hk hl =>
    hother _ (fun e => h.inj b k (Ne.symm hk) (.inl ⟨cs, gen, hb⟩) hl e.symm)
  have hsize : w.heap.size ≤ (w.freeze p n).heap.size := by
    unfold World.freeze
    split
    · exact Nat.le_refl _
    · simp
  refine ⟨⟨Lib.below_freeze h.below (by rw [hp]; exact hbase) n, Nat.le_trans h.big hsize, fun g' cs' hg' => ?_, fun k cs' gen' rw' hk => ?_, fun k es ck hk => ?_, fun k k' hkk h1 h2 => ?_, fun k s p hk => ?_, fun k cs' gen' rw' ck tyk frk hk hh hty => ?_, fun R z hR => ?_⟩, hext⟩
  · obtain ⟨hlt', ho, cg, tyg, frg, hcg, hrg⟩ := h.globs g' cs' hg'
    exact ⟨hlt', ho, cg, tyg, frg, (hother _ (by omega)).trans hcg, hrg.ext hext⟩
  · simp only [bl_set hlt] at hk
    split at hk
    · rename_i e
      subst e
      cases hk
      obtain ⟨ho, c, ty, fr, hc, hs, hr, _⟩ := h.cells b cs gen true hb
      obtain ⟨fr', hc'⟩ := hhere c ty fr hc
      exact ⟨ho, c, ty, fr', hc', hs, hr.ext hext, fun e => by cases e⟩
    · rename_i e
      obtain ⟨ho, c, ty, fr, hc, hs, hr, hw⟩ := h.cells k cs' gen' rw' hk
      exact ⟨ho, c, ty, fr, (hne k (Ne.symm e) (.inl ⟨cs', gen', rw', hk⟩)).trans hc, hs, hr.ext hext, hw⟩
  · simp only [bl_set hlt] at hk
    split at hk
    · cases hk
    · rename_i e
      obtain ⟨hb1, es', hes, hl, hel⟩ := h.maps k es ck hk
      refine ⟨hb1, es', (hne k (Ne.symm e) (.inr ⟨_, rfl, hk⟩)).trans hes, hl, fun i x hi => ?_⟩
      obtain ⟨e', h1, h2, h3, h4⟩ := hel i x hi
      exact ⟨e', h1, VRel.ext hext _ h2, VRel.ext hext _ h3, h4⟩
  · have r1 : (∃ cs gen, m.bl[k]? = some (.cells cs gen true)) ∨ liveMap m k := by
      rcases h1 with ⟨cs', gen', h1⟩ | ⟨es, ck, h1⟩
      · simp only [bl_set hlt] at h1
        split at h1
        · cases h1
        · exact .inl ⟨cs', gen', h1⟩
      · simp only [bl_set hlt] at h1
        split at h1
        · cases h1; cases ck
        · exact .inr ⟨es, ck, h1⟩
    have r2 : (∃ cs gen rw, m.bl[k']? = some (.cells cs gen rw)) ∨ liveMap m k' := by
      rcases h2 with ⟨cs', gen', rw', h2⟩ | ⟨es, ck, h2⟩
      · simp only [bl_set hlt] at h2
        split at h2
        · rename_i e; subst e; exact .inl ⟨cs, gen, true, hb⟩
        · exact .inl ⟨cs', gen', rw', h2⟩
      · simp only [bl_set hlt] at h2
        split at h2
        · cases h2; cases ck
        · exact .inr ⟨es, ck, h2⟩
    exact h.inj k k' hkk r1 r2
  · simp only [bl_set hlt] at hk
    split at hk
    · cases hk
    · rename_i e
      obtain ⟨q1, q2⟩ := h.other k s p hk
      exact ⟨q1, (hne k (Ne.symm e) (.inr ⟨_, rfl, hk⟩)).trans q2⟩
  · simp only [bl_set hlt] at hk
    split at hk
    · rename_i e
      subst e
      cases hk
      obtain ⟨fr', hc'⟩ := hhere c0 ty0 fr0 hc0
      rw [hc'] at hh
      cases hh
      exact h.typed b cs gen true c0 ty0 fr0 hb hc0 hty
    · rename_i e
      rw [hne k (Ne.symm e) (.inl ⟨cs', gen', rw', hk⟩)] at hh
      exact h.typed k cs' gen' rw' ck tyk frk hk hh hty
  · obtain ⟨r1, ⟨cR, tR, fR, r2, r3⟩, r4⟩ := h.garb R z hR
    refine ⟨r1, ⟨cR, tR, fR, (hother R fun e => r4 b (.inl ⟨cs, gen, true, hb⟩) e.symm).trans r2, r3⟩, fun k hk => r4 k ?_⟩
    rcases hk with ⟨cs', gen', rw', hk⟩ | ⟨es, ck, hk⟩
    · simp only [bl_set hlt] at hk
      split at hk
      · rename_i e; subst e; exact .inl ⟨cs, gen, true, hb⟩
      · exact .inl ⟨cs', gen', rw', hk⟩
    · simp only [bl_set hlt] at hk
      split at hk
      · cases hk; cases ck
      · exact .inr ⟨es, ck, hk⟩

theorem run_loadBytes' : ∀ (l : List Int) (a : Addr) (acc : ByteArray) (w : World), (∀ (j : Nat) (x : Int), l[j]? = some x → w.cell? (a.add j) = some (.int .u8 x)) →
    (loadBytes a acc l.length).run P w = .ok ⟨acc.data ++ (l.map fun n => UInt8.ofNat n.toNat).toArray⟩ w
  | [], a, acc, w, h => by simp [loadBytes]
  | x :: l, a, acc, w, h => by
    have h0 : w.cell? a = some (.int .u8 x) := by
      have := h 0 x rfl
      simpa [Addr.add] using this
    have ih := run_loadBytes' l (a.add 1) (acc.push (UInt8.ofNat x.toNat)) w (fun j y hy => by
      have := h (j + 1) y (by simpa using hy)
      have e : (a.add 1).add j = a.add (j + 1) := by
        unfold Addr.add
        by_cases hj : j = 0
        · subst hj; simp
        · simp [hj]; omega
      rw [e]; exact this)
    simp only [List.length_cons, loadBytes, Sem.run_bind, run_load, h0, Result.andThen]
    have e : (x.toNat.toUInt8 : UInt8) = UInt8.ofNat x.toNat := rfl
    rw [e, ih]
    congr 1
    apply ByteArray.ext
    simp [ByteArray.push]

theorem run_unsafeStr_row (pt it ty e : TypeId) (hp : P.underlying pt = some (.pointer e)) (hc : P.cellsOf e = 1) (g cells : Nat) (w : World) (hsh : w.shape? g = some (e, cells)) (l : List Int) (h0 : l ≠ []) (hn : l.length ≤ cells) (h63 : l.length ≤ 9223372036854775807)
    (hcell : ∀ (j : Nat) (x : Int), l[j]? = some x → w.cell? ((⟨g, 0, none⟩ : Addr).add j) = some (.int .u8 x)) :
    (Builtin.unsafeString_ #[pt, it] ty #[.pointer (some ⟨g, 0, none⟩), .int .i64 l.length]).run P w = .ok (.string ⟨(l.map fun n => UInt8.ofNat n.toNat).toArray⟩) (w.freeze ⟨g, 0, none⟩ l.length) := by
  have hl : l.length ≠ 0 := by simpa using h0
  have hlb := run_loadBytes' (P := P) l ⟨g, 0, none⟩ .empty w hcell
  have hlies := Lib.liesAt_bytes (P := P) hc (cells / P.cellsOf e) l.length (by rw [hc]; simpa using hn)
  have h63' : ¬ (9223372036854775807 : Int) < (l.length : Int) := by omega
  have hdef : Builtin.unsafeString_ #[pt, it] ty #[.pointer (some ⟨g, 0, none⟩), .int .i64 l.length] =
      (do
        let n ← asInt (.int .i64 l.length)
        if n < 0 then runtimePanic (.error "unsafe.String: len out of range")
        if n > IntKind.i64.max then unsupported (.unsafePointer "String: a length above the largest int")
        if n = 0 then pure (.string .empty)
        else if ← variablesAt ⟨g, 0, none⟩ (← elemOf pt) n.toNat then do
          let s ← loadBytes ⟨g, 0, none⟩ .empty n.toNat
          freeze ⟨g, 0, none⟩ n.toNat
          pure (.string s)
        else unsupported (.unsafePointer "String: not so many bytes at ptr")) := rfl
  rw [hdef]
  have hmax : IntKind.i64.max = 9223372036854775807 := rfl
  have hneg : ¬ (l.length : Int) < 0 := by omega
  simp [asInt, asIntOf, hmax, h63', hneg, hl, variablesAt, hsh, elemOf, run_underlying hp, hlies, hlb]

theorem run_unsafeStr (hm : MemRel G base w0 j m w) (pt it ty : TypeId) {u : TypeId} (hp : P.underlying pt = some (.pointer u)) (hc : sizeC P u = some 1) {gt n b gen : Nat} (hgt : gt = typeK * (1 + u) + 1) {cs ds : List EV} (hn : n ≠ 0) (h63 : n ≤ 9223372036854775807)
    (hb : m.bl[b]? = some (.cells cs gen true)) (hq : gen / typeK = gt / typeK) (hk : typeK ≤ gen) (hg : m.getN G ⟨.mem b gen, 0⟩ n = some ds) {s : List UInt8} (hs : strE ds = some s) {v : Value} (hx : VRel j m (.ptr (some ⟨.mem b gen, 0⟩)) v) (low : Nat) :
    Runs P G base w0 j m w (Builtin.unsafeString_ #[pt, it] ty #[v, .int .i64 n]) (.str s, ⟨m.bl.set b (.cells cs gen false), low⟩) := by
  obtain ⟨a', rfl, ha⟩ := hx
  obtain ⟨hlen, ho, vs, hr, hcell, _⟩ := hm.getN (P := P) hg (.inr ha)
  obtain ⟨ns, rfl, rfl⟩ := strE_rel hs hr
  have hnl : ns.length = n := by have := hr.length; simp at this; omega
  have ha' := ha.2.2 ⟨cs, true, hb⟩
  obtain ⟨_, c, tyc, fr, hc0, hsz, hrow, _⟩ := hm.cells b cs gen true hb
  obtain ⟨t1, t2, _⟩ := hm.typed b cs gen true c tyc fr hb hc0 hk
  have hty : tyc = u := by
    rw [hq, hgt, Nat.mul_add_div (by decide)] at t1
    have h1 : 1 / typeK = 0 := by decide
    rw [h1, Nat.add_zero] at t1
    exact Nat.succ.inj (t1.trans (Nat.add_comm 1 u))
  subst hty
  have hcell1 : P.cellsOf tyc = 1 := by
    obtain ⟨i, hi, h1⟩ := info_of hc
    simp [Program.cellsOf, hi, h1]
  have e : a' = ⟨j.blk b, 0, none⟩ := by rw [ha', t2, Nat.zero_add]
  subst e
  have hle : ns.length ≤ c.size := by
    have h1 := hrow.1
    have : n ≤ cs.length := by
      unfold Mem.getN at hg
      rw [if_neg hn] at hg
      simp only [Mem.row, hb, if_true, Option.bind_some] at hg
      split at hg
      · omega
      · cases hg
    omega
  have hrun := run_unsafeStr_row (P := P) pt it ty tyc hp hcell1 (j.blk b) c.size w (shape_of hc0) ns (by intro e; subst e; simp at hnl; omega) hle (by omega) fun k x hk => hcell k _ (by simp [hk])
  rw [hnl] at hrun
  obtain ⟨h1, h2⟩ := hm.frozen hb ⟨j.blk b, 0, none⟩ rfl n low
  exact ⟨j, _, _, hrun, h2, h1, rfl⟩

theorem run_unsafeStr_none (hm : MemRel G base w0 j m w) (pt it ty : TypeId) {ad : Option Ad} {v : Value} (hx : VRel j m (.ptr ad) v) :
    Runs P G base w0 j m w (Builtin.unsafeString_ #[pt, it] ty #[v, .int .i64 0]) (.str [], m) := by
  cases ad with
  | none =>
    cases hx
    exact .same hm (v := .string ⟨#[]⟩) (Lib.run_unsafeString_none w pt it ty none) rfl
  | some x =>
    obtain ⟨a', rfl, _⟩ := hx
    exact .same hm (v := .string ⟨#[]⟩) (Lib.run_unsafeString_none w pt it ty (some a')) rfl

theorem equal_ptr {t u : TypeId} {n : Nat} (hu : P.underlying t = some (.pointer u)) (hn : sizeC P u = some n) (w : World) (a b : Option Addr) (h : a = none ∨ b = none ∨ a = b) :
    (Op.equal t (.pointer a) (.pointer b)).run P w = .ok (decide (a = b)) w := by
  obtain ⟨i, hi, _⟩ := info_of hn
  have key : ∀ d : Nat, (Op.equalIn (d + 1) t (.pointer a) (.pointer b)).run P w = .ok (decide (a = b)) w := fun d => by
   cases a with
   | none => cases b <;> simp [Op.equalIn, run_underlying hu]
   | some x =>
    cases b with
    | none => simp [Op.equalIn, run_underlying hu]
    | some y =>
      have e : x = y := by rcases h with h | h | h <;> cases h; rfl
      subst e
      simp [Op.equalIn, run_underlying hu, sizeOf, typeInfo, hi, run_sameAddr_same]
  exact equal_run (key 9999)

theorem run_ptrEq {t u : TypeId} {n : Nat} (hu : P.underlying t = some (.pointer u)) (hn : sizeC P u = some n) {op : BinOp} (hop : isEq op = true) (xo yo : Operand) (w : World) (a b : Option Addr) (h : a = none ∨ b = none ∨ a = b) :
    (do eqGuard op t xo yo (.pointer a) (.pointer b); binOp op t (.pointer a) (.pointer b) : Sem Value).run P w = .ok (.bool (if isNeq op then !decide (a = b) else decide (a = b))) w := by
  have he := equal_ptr hu hn w a b h
  have hg : eqGuard op t xo yo (.pointer a) (.pointer b) = pure () := eqGuard_at_pointer ..
  rw [hg]
  cases op <;> simp only [isEq] at hop <;> first | (cases hop; done) | skip
  · have hb : binOp .eql t (.pointer a) (.pointer b) = (do pure (.bool (← Op.equal t (.pointer a) (.pointer b)))) := rfl
    simp [hb, he, isNeq]
  · have hb : binOp .neq t (.pointer a) (.pointer b) = (do pure (.bool (!(← Op.equal t (.pointer a) (.pointer b))))) := rfl
    simp [hb, he, isNeq]

end
end Go.Ev
