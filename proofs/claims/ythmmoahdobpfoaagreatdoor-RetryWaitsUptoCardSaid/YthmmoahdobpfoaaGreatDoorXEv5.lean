/- The engine, part 5: more operations in the machine. There are no conditions. -/
import Derived.Test.YthmmoahdobpfoaaGreatDoorXEv3
import Derived.Laws.Strings
set_option linter.unusedSectionVars false
set_option linter.unusedVariables false
set_option linter.unusedSimpArgs false
namespace Go.Ev
open Go.RowKit (Below)

section
variable {P : Program} {G : Globs} {base : Nat} {w0 w : World} {j : Inj} {m : Mem} {nt : Nat} {A : Fr} {a : Act}

theorem run_storeAt (hm : MemRel G base w0 j m w) {t : TypeId} {n : Nat} (ht : sizeC P t = some n) {x : Ad} {pv v : Value} (hx : VRel j m (.ptr (some x)) pv) {y : EV} (hy : VRel j m y v)
    (hn : y.cells.length = n) (ho : y.cells.all cellOk = true) {m' : Mem} (hp : m.putN x y.cells = some m') :
    ∃ j' w', (Instr.storeAt t pv v).run P w = .ok () w' ∧ Ext j m j' m' ∧ MemRel G base w0 j' m' w' := by
  obtain ⟨a', rfl, ha⟩ := hx
  have hc := hy.cells
  have hl : v.cells.size = n := by rw [← hn]; simpa using hc.length
  obtain ⟨j', w', hr, h1, h2⟩ := hm.store (P := P) (fun _ => ha) hp hc ho
  exact ⟨j', w', by simp [Instr.storeAt, Instr.sureAddr, storeVar, run_size ht, hl, hr], h1, h2⟩

theorem int_inv {k : IntKind} {n : Int} {v : Value} (h : VRel j m (.int k n) v) : v = .int k n := h
theorem bool_inv {b : Bool} {v : Value} (h : VRel j m (.bool b) v) : v = .bool b := h
theorem str_inv {s : List UInt8} {v : Value} (h : VRel j m (.str s) v) : v = .string ⟨s.toArray⟩ := h

theorem binInt_run {op : BinOp} {k : IntKind} {x y : Int} {r : EV} (h : binInt op k x y = some r) (t : TypeId) (w : World) :
    ∃ v, (binOp op t (.int k x) (.int k y)).run P w = .ok v w ∧ ∀ j m, VRel j m r v := by
  unfold binInt at h
  cases op <;> simp only at h <;> first
    | (split at h; · cases h
       cases h
       rename_i hz
       refine ⟨_, ?_, fun _ _ => rfl⟩
       simp [binOp, Op.intDiv, hz]; done)
    | (cases h; refine ⟨_, ?_, fun _ _ => rfl⟩; simp [binOp, Op.intArith, Op.intCmp]; done)
    | (cases h; refine ⟨_, ?_, fun _ _ => rfl⟩; simp [binOp]; rfl)
    | cases h

theorem shift_run {op : BinOp} {k k' : IntKind} {x y : Int} {r : EV} (h : shiftE op k x y = some r) (t : TypeId) (w : World) :
    ∃ v, (binOp op t (.int k x) (.int k' y)).run P w = .ok v w ∧ ∀ j m, VRel j m r v := by
  unfold shiftE at h
  split at h
  · cases h
  rename_i hy
  cases op <;> simp only at h <;> first
    | cases h; done
    | (cases h; exact ⟨_, by simp [binOp, Op.shift, hy], fun _ _ => rfl⟩)

theorem str_append (a b : List UInt8) : (⟨a.toArray⟩ : ByteArray) ++ ⟨b.toArray⟩ = ⟨(a ++ b).toArray⟩ := by
  apply ByteArray.ext
  simp

theorem str_size (a : List UInt8) : (⟨a.toArray⟩ : ByteArray).size = a.length := by simp [ByteArray.size]

theorem binStr_run {op : BinOp} {x y : List UInt8} {r : EV} (h : binStr op x y = some r) (t : TypeId) (w : World) :
    ∃ v, (binOp op t (.string ⟨x.toArray⟩) (.string ⟨y.toArray⟩)).run P w = .ok v w ∧ ∀ j m, VRel j m r v := by
  unfold binStr at h
  cases op <;> simp only at h <;> first
    | (split at h
       · rename_i hl
         cases h
         refine ⟨_, ?_, fun _ _ => rfl⟩
         simp only [binOp, Op.stringOp, str_size, IntKind.max_i64]
         rw [if_neg (by omega), str_append]
         rfl
       · cases h)
    | (cases h; exact ⟨_, by simp [binOp, Op.stringOp], fun _ _ => rfl⟩)
    | cases h

theorem equal_run {t : TypeId} {u c : Value} {b : Bool} {w : World} (h : (Op.equalIn (9999 + 1) t u c).run P w = .ok b w) : (Op.equal t u c).run P w = .ok b w := h

theorem isNil_equal {t : TypeId} {x : EV} {b : Bool} {c : Value} (hk : nilV c = nilC P t) (h0 : nilV c ≠ 0) (h : isNil (nilC P t) x = some b) {u : Value} (hx : VRel j m x u) (w : World) :
    (Op.equal t u c).run P w = .ok b w := by
  apply equal_run
  rw [← hk] at h
  unfold nilC at hk
  rw [Op.equalIn]
  unfold nilV at hk h
  split at hk
  · split at hk <;> first | (cases hk; done) | skip
    rename_i e hu
    simp only [Sem.run_bind, underlying, run_program, Result.andThen_ok, hu, Sem.run_pure]
    cases x <;> simp only [isNil] at h <;> first | (cases h; done) | skip
    rename_i q
    cases q with
    | none => cases h; cases hx; rfl
    | some q => cases h; obtain ⟨a', rfl, _⟩ := hx; rfl
  · split at hk <;> first | (cases hk; done) | skip
    rename_i e hu
    simp only [Sem.run_bind, underlying, run_program, Result.andThen_ok, hu, Sem.run_pure]
    cases x <;> simp only [isNil] at h <;> first | (cases h; done) | skip
    rename_i q _ _ _
    cases q with
    | none => cases h; obtain ⟨rfl, _⟩ := hx; rfl
    | some q => cases h; obtain ⟨a', _, rfl, _⟩ := hx; rfl
  · split at hk <;> first | (cases hk; done) | skip
    rename_i e1 e2 hu
    simp only [Sem.run_bind, underlying, run_program, Result.andThen_ok, hu, Sem.run_pure]
    cases x <;> simp only [isNil] at h <;> first | (cases h; done) | skip
    rename_i q
    cases q with
    | none => cases h; cases hx; rfl
    | some q => cases h; obtain ⟨a', rfl, _⟩ := hx; rfl
  · split at hk <;> first | (cases hk; done) | skip
    rename_i e1 e2 e3 hu
    simp only [Sem.run_bind, underlying, run_program, Result.andThen_ok, hu, Sem.run_pure]
    cases x <;> simp only [isNil] at h <;> first | (cases h; done) | skip
    · cases h; obtain ⟨a', rfl, _⟩ := hx; rfl
    · cases h; cases hx; rfl
  · split at hk <;> first | (cases hk; done) | skip
    rename_i e hu
    simp only [Sem.run_bind, underlying, run_program, Result.andThen_ok, hu, Sem.run_pure]
    cases x <;> simp only [isNil] at h <;> first | (cases h; done) | skip
    · cases h; obtain ⟨a', rfl, _⟩ := hx; rfl
    · cases h; cases hx; rfl
  · rename_i n1 n2 n3 n4 n5
    refine absurd ?_ h0
    unfold nilV
    split
    · exact (n1 rfl).elim
    · exact (n2 rfl).elim
    · exact (n3 rfl).elim
    · exact (n4 rfl).elim
    · exact (n5 rfl).elim
    · rfl

theorem isNil_guard {t : TypeId} {x : EV} {b : Bool} {k : Nat} (h : isNil k x = some b) {u c : Value} (hc : nilV c ≠ 0) (hx : VRel j m x u) (op : BinOp) (xo : Operand) : eqGuard op t xo (.const c) u c = pure () := by
  cases x with
  | ptr q => cases q with
    | none => cases hx; exact eqGuard_at_pointer ..
    | some q => obtain ⟨a', rfl, _⟩ := hx; exact eqGuard_at_pointer ..
  | slice q _ _ _ => cases q with
    | none => obtain ⟨rfl, _⟩ := hx; exact eqGuard_at_slice ..
    | some q => obtain ⟨a', _, rfl, _⟩ := hx; exact eqGuard_at_slice ..
  | map q => cases q with
    | none => cases hx; exact eqGuard_at_map ..
    | some q => obtain ⟨a', rfl, _⟩ := hx; exact eqGuard_at_map ..
  | func _ _ => obtain ⟨a', rfl, _⟩ := hx; exact eqGuard_at_func ..
  | nilFunc => cases hx; exact eqGuard_at_nilFunc ..
  | iface _ _ => obtain ⟨a', rfl, _⟩ := hx; exact eqGuard_at_iface ..
  | nilIface =>
    cases hx
    cases c <;> first | exact eqGuard_nil_constR .. | (cases op <;> rfl)
  | _ => simp [isNil] at h

theorem isNil_run {t : TypeId} {x : EV} {b : Bool} {c : Value} (hk : nilV c = nilC P t) (h0 : nilV c ≠ 0) (h : isNil (nilC P t) x = some b) {u : Value} (hx : VRel j m x u) {op : BinOp} (hop : isEq op = true) (xo : Operand) (w : World) :
    (do eqGuard op t xo (.const c) u c; binOp op t u c : Sem Value).run P w = .ok (.bool (if isNeq op then !b else b)) w := by
  have he := isNil_equal hk h0 h hx w
  have hb : binOp op t u c = (if isNeq op then do pure (.bool (!(← Op.equal t u c))) else do pure (.bool (← Op.equal t u c))) := by
    cases op <;> simp only [isEq] at hop <;> first | (cases hop; done) | skip
    · simp only [isNeq, Bool.false_eq_true, if_false]
      cases x with
      | ptr q => cases q with
        | none => cases hx; rfl
        | some q => obtain ⟨a', rfl, _⟩ := hx; rfl
      | slice q _ _ _ => cases q with
        | none => obtain ⟨rfl, _⟩ := hx; rfl
        | some q => obtain ⟨a', _, rfl, _⟩ := hx; rfl
      | map q => cases q with
        | none => cases hx; rfl
        | some q => obtain ⟨a', rfl, _⟩ := hx; rfl
      | func _ _ => obtain ⟨a', rfl, _⟩ := hx; rfl
      | nilFunc => cases hx; rfl
      | iface _ _ => obtain ⟨a', rfl, _⟩ := hx; rfl
      | nilIface => cases hx; rfl
      | _ => simp [isNil] at h
    · simp only [isNeq, if_true]
      cases x with
      | ptr q => cases q with
        | none => cases hx; rfl
        | some q => obtain ⟨a', rfl, _⟩ := hx; rfl
      | slice q _ _ _ => cases q with
        | none => obtain ⟨rfl, _⟩ := hx; rfl
        | some q => obtain ⟨a', _, rfl, _⟩ := hx; rfl
      | map q => cases q with
        | none => cases hx; rfl
        | some q => obtain ⟨a', rfl, _⟩ := hx; rfl
      | func _ _ => obtain ⟨a', rfl, _⟩ := hx; rfl
      | nilFunc => cases hx; rfl
      | iface _ _ => obtain ⟨a', rfl, _⟩ := hx; rfl
      | nilIface => cases hx; rfl
      | _ => simp [isNil] at h
  rw [isNil_guard h h0 hx, hb]
  simp only [Sem.run_bind, Sem.run_pure, Result.andThen_ok]
  cases isNeq op <;> simp [he]

theorem unE_run {op : UnOp} {x r : EV} (h : unE op x = some r) {u : Value} (hx : VRel j m x u) (w : World) : ∃ v, (Op.unary op u).run P w = .ok v w ∧ VRel j m r v := by
  unfold unE at h
  split at h
  · cases hx
    cases op <;> simp only at h <;> first
      | (cases h; refine ⟨_, ?_, rfl⟩; simp [Op.unary, Op.intArith]; done)
      | (cases h; refine ⟨_, ?_, rfl⟩; simp [Op.unary]; rfl)
      | cases h
  · cases hx
    cases op <;> simp only at h <;> first
      | (cases h; exact ⟨_, by simp [Op.unary], rfl⟩)
      | cases h
  · cases h

theorem run_mkMap (hm : MemRel G base w0 j m w) (t : TypeId) : Runs P G base w0 j m w (Instr.makeMap t none) (.map (some m.bl.length), m.push (.map [] 0)) :=
  ⟨_, .map (some w.heap.size), w.alloc (.map #[] 0), by simp [Instr.makeMap], Ext.push j m _ w.heap.size 0, hm.push (x := .map [] 0) ⟨rfl, rfl⟩, _, rfl, by simp [genAt, Mem.push, Blk.gen], fun _ => by simp [Inj.lay]⟩

theorem run_fieldAt (hm : MemRel G base w0 j m w) {s : TypeId} {fs : Array Field} (hs : P.underlying s = some (.struct fs)) {f : Nat} {g : Field} (hf : fs[f]? = some g) {n : Nat} (hn : sizeC P g.type = some n) (hn0 : n ≠ 0)
    {x : Ad} {v : Value} (hx : VRel j m (.ptr (some x)) v) : Runs P G base w0 j m w (Instr.fieldAt s v f) (.ptr (some (x.plus g.offset)), m) := by
  obtain ⟨a', rfl, ha⟩ := hx
  have hrun : (Instr.fieldAt s (.pointer (some a')) f).run P w = .ok (.pointer (some (a'.add g.offset))) w := by
    simp [Instr.fieldAt, underlying, hs, hf, Instr.sureAddr, fieldPlace, run_size hn, hn0]
  refine .same hm hrun ⟨_, rfl, ?_⟩
  unfold AdRel at *
  simp only [Ad.plus]
  split
  · rename_i g' hg
    rw [hg] at ha
    simp only at ha
    rw [ha, add_plain']
  · rename_i b gen hg
    rw [hg] at ha
    simp only at ha
    refine ⟨ha.1, ha.2.1, fun hl => ?_⟩
    rw [ha.2.2 hl, add_plain', Nat.add_assoc]
  · rename_i wk hg
    rw [hg] at ha
    obtain ⟨R, d, n', h1, rfl, h2⟩ := ha
    exact ⟨R, d, n', h1, by rw [add_plain', Nat.add_assoc], h2⟩

theorem AdRel.plus {x : Ad} {a' : Addr} (h : AdRel j m x a') (n : Nat) : AdRel j m (x.plus n) (a'.add n) := by
  unfold AdRel at *
  simp only [Ad.plus]
  split
  · rename_i g' hg
    rw [hg] at h
    simp only at h
    rw [h, add_plain']
  · rename_i b gen hg
    rw [hg] at h
    simp only at h
    refine ⟨h.1, h.2.1, fun hl => ?_⟩
    rw [h.2.2 hl, add_plain', Nat.add_assoc]
  · rename_i wk hg
    rw [hg] at h
    obtain ⟨R, d, n', h1, rfl, h2⟩ := h
    exact ⟨R, d, n', h1, by rw [add_plain', Nat.add_assoc], h2⟩

theorem run_ixAddrArr (hm : MemRel G base w0 j m w) {t e : TypeId} {len n : Nat} (ht : P.underlying t = some (.array len e)) (hn : sizeC P e = some n) {x : Ad} {v : Value} (hx : VRel j m (.ptr (some x)) v)
    {k : IntKind} {i : Int} (h0 : 0 ≤ i) (h1 : i < len) : Runs P G base w0 j m w (Instr.indexAt t v (.int k i)) (.ptr (some (x.plus (i.toNat * n))), m) := by
  obtain ⟨a', rfl, ha⟩ := hx
  refine .same hm (v := .pointer (some (a'.add (i.toNat * n)))) ?_ ⟨_, rfl, ha.plus _⟩
  simp [Instr.indexAt, asIntOf, underlying, ht, Instr.sureAddr, h0, h1, run_size hn]

theorem SlRel.ad {x : Ad} {a' : Addr} {c e : Nat} (h : SlRel j m x a' c e) (hc : c ≠ 0) : AdRel j m x a' := by
  unfold SlRel at h
  unfold AdRel
  split
  · rename_i g hg
    rw [hg] at h
    exact h.resolve_left hc
  · rename_i b gen hg
    rw [hg] at h
    exact ⟨h.1, h.2.1, fun hl => ((h.2.2 hl).resolve_left hc).1⟩
  · rename_i wk hg
    rw [hg] at h
    obtain ⟨R, d, n', h1, h2, h3, _⟩ := h.resolve_left hc
    exact ⟨R, d, n', h1, h2, h3⟩

theorem run_ixAddr (hm : MemRel G base w0 j m w) {t e : TypeId} {n : Nat} (ht : P.underlying t = some (.slice e)) (hn : sizeC P e = some n) {x : Ad} {len cap esz : Nat} {v : Value} (hx : VRel j m (.slice (some x) len cap esz) v)
    {k : IntKind} {i : Int} (h0 : 0 ≤ i) (h1 : i < len) : Runs P G base w0 j m w (Instr.indexAt t v (.int k i)) (.ptr (some (x.plus (i.toNat * n))), m) := by
  obtain ⟨a', cap', rfl, hc, hl, ha⟩ := hx
  refine .same hm (v := .pointer (some (a'.add (i.toNat * n)))) ?_ ⟨_, rfl, (ha.ad (by omega)).plus _⟩
  simp [Instr.indexAt, asIntOf, underlying, ht, h0, h1, run_size hn]

theorem run_part (hm : MemRel G base w0 j m w) {t : TypeId} {n : Option Nat} (ht : aggC P t = some n) {cs : List EV} {c : Array Value} (hr : VsRel j m cs c.toList) (ho : cs.all cellOk = true) {off : Nat} {y : EV} (hp : partE cs off n = some y) :
    ∃ v, (part t c off).run P w = .ok v w ∧ VRel j m y v := by
  unfold partE at hp
  split at hp
  · obtain ⟨v, hv, hx⟩ := hr.get _ _ hp
    refine ⟨v, ?_, hx⟩
    have : c[off]? = some v := by simpa using hv
    simp [part, aggC_none ht, this]
  · rename_i n
    split at hp
    · rename_i hle
      cases hp
      obtain ⟨h1, h2⟩ := aggC_some ht
      refine ⟨.agg (c.extract off (off + n)), by simp [part, h1, run_size h2], _, rfl, ?_, ?_⟩
      · have := (hr.drop off).take n
        simpa [List.drop_take] using this
      · exact List.all_eq_true.2 fun x hx => List.all_eq_true.1 ho x (List.mem_of_mem_drop (List.mem_of_mem_take hx))
    · cases hp

theorem run_field (hm : MemRel G base w0 j m w) {s : TypeId} {fs : Array Field} (hs : P.underlying s = some (.struct fs)) {f : Nat} {g : Field} (hf : fs[f]? = some g) {n : Option Nat} (hn : aggC P g.type = some n)
    {cs : List EV} {v : Value} (hx : VRel j m (.agg cs) v) {y : EV} (hp : partE cs g.offset n = some y) : Runs P G base w0 j m w (Instr.field s v f) (y, m) := by
  obtain ⟨c, rfl, hr, ho⟩ := hx
  obtain ⟨u, hu, hxu⟩ := run_part (P := P) hm hn hr ho hp
  exact .same hm (by simp [Instr.field, underlying, hs, hf, asAgg, hu]) hxu

theorem run_ixArr (hm : MemRel G base w0 j m w) {t e : TypeId} {len n : Nat} (ht : P.underlying t = some (.array len e)) (hn : sizeC P e = some n) {q : Option Nat} (hq : aggC P e = some q) {cs : List EV} {v : Value} (hx : VRel j m (.agg cs) v)
    {k : IntKind} {i : Int} (h0 : 0 ≤ i) (h1 : i < len) {y : EV} (hp : partE cs (i.toNat * n) q = some y) : Runs P G base w0 j m w (Instr.index t v (.int k i)) (y, m) := by
  obtain ⟨c, rfl, hr, ho⟩ := hx
  obtain ⟨u, hu, hxu⟩ := run_part (P := P) hm hq hr ho hp
  exact .same hm (by simp [Instr.index, asIntOf, underlying, ht, h0, h1, run_size hn, hu]) hxu

theorem run_ixStr (hm : MemRel G base w0 j m w) {t : TypeId} (ht : P.underlying t = some .string) {s : List UInt8} {v : Value} (hx : VRel j m (.str s) v) {k : IntKind} {i : Int} (h0 : 0 ≤ i) {b : UInt8} (hb : s[i.toNat]? = some b) :
    Runs P G base w0 j m w (Instr.index t v (.int k i)) (byteE b, m) := by
  cases hx
  have h1 : (⟨s.toArray⟩ : ByteArray)[i.toNat]? = some b := by
    obtain ⟨hl, e⟩ := List.getElem?_eq_some_iff.1 hb
    have hl' : i.toNat < (⟨s.toArray⟩ : ByteArray).size := by rw [str_size]; exact hl
    rw [getElem?_pos (⟨s.toArray⟩ : ByteArray) i.toNat hl']
    show some (s.toArray[i.toNat]'_) = some b
    simp [e]
  exact .same hm (v := .int .u8 b.toNat) (by simp [Instr.index, asIntOf, underlying, ht, h0, h1]) rfl

theorem run_extract (hm : MemRel G base w0 j m w) {vs : List EV} {v : Value} (hx : VRel j m (.tuple vs) v) {i : Nat} {y : EV} (hy : vs[i]? = some y) : Runs P G base w0 j m w (Instr.extract v i) (y, m) := by
  obtain ⟨c, rfl, hr⟩ := hx
  obtain ⟨u, hu, hxu⟩ := hr.get _ _ hy
  have : c[i]? = some u := by simpa using hu
  exact .same hm (v := u) (by simp [Instr.extract, this]) hxu

end
end Go.Ev
