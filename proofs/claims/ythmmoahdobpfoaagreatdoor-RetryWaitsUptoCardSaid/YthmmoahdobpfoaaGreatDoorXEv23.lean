/- The engine, part 23: a frame as a list, so that the kernel can reckon what closed calls come to; what was reckoned in an empty memory holds in every world. There are no conditions. -/
import Derived.Test.YthmmoahdobpfoaaGreatDoorXEv15
import Derived.Test.YthmmoahdobpfoaaGreatDoorXEv16
set_option linter.unusedSectionVars false
set_option linter.unusedVariables false
set_option linter.unusedSimpArgs false
namespace Go.Ev
open Go.RowKit (Below)

/-! ### Frames as trees -/
inductive FT where
  | e
  | n (l : FT) (v : EV) (r : FT)
def FT.get : FT → Nat → EV
  | .e, _ => undefE
  | .n l v r, i => bif Nat.beq i 0 then v else bif Nat.beq (i % 2) 1 then l.get (i / 2) else r.get (i / 2 - 1)
def FT.mk (v : EV) : Nat → Nat → FT
  | 0, _ => .n .e v .e
  | f + 1, i => bif Nat.beq i 0 then .n .e v .e else bif Nat.beq (i % 2) 1 then .n (FT.mk v f (i / 2)) undefE .e else .n .e undefE (FT.mk v f (i / 2 - 1))
def FT.set : FT → Nat → EV → FT
  | .e, i, v => FT.mk v i i
  | .n l w r, i, v => bif Nat.beq i 0 then .n l v r else bif Nat.beq (i % 2) 1 then .n (l.set (i / 2) v) w r else .n l w (r.set (i / 2 - 1) v)
def frL (t : FT) : Fr := fun i => t.get i

theorem nb {a b : Nat} (h : a ≠ b) : Nat.beq a b = false := by
  cases e : Nat.beq a b with
  | false => rfl
  | true => exact absurd (Nat.eq_of_beq_eq_true e) h
theorem nbt {a b : Nat} (h : a = b) : Nat.beq a b = true := by
  subst h
  exact Nat.beq_refl a

theorem FT.get_mk (v : EV) : ∀ (f i k : Nat), i ≤ f → (FT.mk v f i).get k = if k = i then v else undefE
  | 0, i, k, h => by
    have : i = 0 := by omega
    subst this
    simp only [FT.mk, FT.get]
    by_cases hk : k = 0
    · subst hk; simp
    · have : Nat.beq k 0 = false := nb hk
      simp [this, hk]
  | f + 1, i, k, h => by
    simp only [FT.mk]
    by_cases hi : i = 0
    · subst hi
      simp only [Nat.beq_eq_true_eq, cond_true, show Nat.beq 0 0 = true from rfl, FT.get]
      by_cases hk : k = 0
      · subst hk; simp
      · have : Nat.beq k 0 = false := nb hk
        simp [this, hk]
    · have h0 : Nat.beq i 0 = false := nb hi
      rw [h0, cond_false]
      by_cases h1 : i % 2 = 1
      · have hb : Nat.beq (i % 2) 1 = true := nbt h1
        rw [hb, cond_true]
        simp only [FT.get]
        by_cases hk : k = 0
        · subst hk
          have : ¬ 0 = i := by omega
          simp [this]
        · have hk0 : Nat.beq k 0 = false := nb hk
          rw [hk0, cond_false]
          by_cases hk1 : k % 2 = 1
          · have : Nat.beq (k % 2) 1 = true := nbt hk1
            rw [this, cond_true, FT.get_mk v f (i / 2) (k / 2) (by omega)]
            by_cases e : k = i
            · subst e; simp
            · rw [if_neg (by omega), if_neg e]
          · have : Nat.beq (k % 2) 1 = false := nb hk1
            rw [this, cond_false, if_neg (by omega)]
      · have hb : Nat.beq (i % 2) 1 = false := nb h1
        rw [hb, cond_false]
        simp only [FT.get]
        by_cases hk : k = 0
        · subst hk
          have : ¬ 0 = i := by omega
          simp [this]
        · have hk0 : Nat.beq k 0 = false := nb hk
          rw [hk0, cond_false]
          by_cases hk1 : k % 2 = 1
          · have : Nat.beq (k % 2) 1 = true := nbt hk1
            rw [this, cond_true, if_neg (by omega)]
          · have : Nat.beq (k % 2) 1 = false := nb hk1
            rw [this, cond_false, FT.get_mk v f (i / 2 - 1) (k / 2 - 1) (by omega)]
            by_cases e : k = i
            · subst e; simp
            · rw [if_neg (by omega), if_neg e]

theorem FT.get_set : ∀ (t : FT) (i : Nat) (v : EV) (k : Nat), (t.set i v).get k = if k = i then v else t.get k
  | .e, i, v, k => by
    rw [FT.set, FT.get_mk v i i k (Nat.le_refl _)]
    rfl
  | .n l w r, i, v, k => by
    simp only [FT.set]
    by_cases hi : i = 0
    · subst hi
      simp only [show Nat.beq 0 0 = true from rfl, cond_true, FT.get]
      by_cases hk : k = 0
      · subst hk; simp
      · have : Nat.beq k 0 = false := nb hk
        simp [this, hk]
    · have h0 : Nat.beq i 0 = false := nb hi
      rw [h0, cond_false]
      by_cases h1 : i % 2 = 1
      · have hb : Nat.beq (i % 2) 1 = true := nbt h1
        rw [hb, cond_true]
        simp only [FT.get]
        by_cases hk : k = 0
        · subst hk
          have : ¬ 0 = i := by omega
          simp [this]
        · have hk0 : Nat.beq k 0 = false := nb hk
          rw [hk0, cond_false, cond_false]
          by_cases hk1 : k % 2 = 1
          · have : Nat.beq (k % 2) 1 = true := nbt hk1
            rw [this, cond_true, cond_true, FT.get_set l]
            by_cases e : k = i
            · subst e; simp
            · rw [if_neg (by omega), if_neg e]
          · have : Nat.beq (k % 2) 1 = false := nb hk1
            rw [this, cond_false, cond_false, if_neg (by omega)]
      · have hb : Nat.beq (i % 2) 1 = false := nb h1
        rw [hb, cond_false]
        simp only [FT.get]
        by_cases hk : k = 0
        · subst hk
          have : ¬ 0 = i := by omega
          simp [this]
        · have hk0 : Nat.beq k 0 = false := nb hk
          rw [hk0, cond_false, cond_false]
          by_cases hk1 : k % 2 = 1
          · have : Nat.beq (k % 2) 1 = true := nbt hk1
            rw [this, cond_true, cond_true, if_neg (by omega)]
          · have : Nat.beq (k % 2) 1 = false := nb hk1
            rw [this, cond_false, cond_false, FT.get_set r]
            by_cases e : k = i
            · subst e; simp
            · rw [if_neg (by omega), if_neg e]

theorem frL_set (t : FT) (d : Nat) (v : EV) : frL (t.set d v) = upd (frL t) d v := by
  funext i
  simp only [frL, FT.get_set, upd]

/-- Arguments laid into a frame. -/
def argsT : List EV → Nat → FT → FT
  | [], _, t => t
  | x :: xs, i, t => argsT xs (i + 1) (t.set i x)
theorem argsT_get : ∀ (xs : List EV) (i : Nat) (t : FT) (k : Nat), (argsT xs i t).get k = if i ≤ k ∧ k < i + xs.length then xs.getD (k - i) undefE else t.get k
  | [], i, t, k => by
    simp only [argsT, List.length_nil]
    rw [if_neg (by omega)]
  | x :: xs, i, t, k => by
    simp only [argsT, List.length_cons]
    rw [argsT_get xs (i + 1), FT.get_set]
    by_cases h1 : i + 1 ≤ k ∧ k < i + 1 + xs.length
    · rw [if_pos h1, if_pos (by omega), show k - i = (k - (i + 1)) + 1 by omega]
      rfl
    · rw [if_neg h1]
      by_cases h2 : k = i
      · subst h2
        rw [if_pos rfl, if_pos (by omega), Nat.sub_self]
        rfl
      · rw [if_neg h2, if_neg (by omega)]
theorem argsT_frame (xs : List EV) : frL (argsT xs 0 .e) = argsE xs := by
  funext k
  simp only [frL, argsT_get, argsE]
  by_cases h : k < xs.length
  · rw [if_pos (by omega), Nat.sub_zero]
  · rw [if_neg (by omega)]
    simp [FT.get, List.getD, List.getElem?_eq_none (Nat.le_of_not_lt h)]

structure StL where
  L : FT
  m : Mem
  d : List (FuncId × List EV)
  p : Option (Option EV)
def StL.st (s : StL) : St := ⟨frL s.L, s.m, s.d, s.p⟩
def StL.put (s : StL) (dst : Option Nat) (v : EV) : StL :=
  match dst with
  | some d => { s with L := s.L.set d v }
  | none => s
theorem StL.put_st (s : StL) (dst : Option Nat) (v : EV) : (s.put dst v).st = s.st.put dst v := by
  cases dst with
  | none => rfl
  | some d => simp only [StL.put, StL.st, St.put, frL_set]

/-- As evVal, the operation ahead: the kernel need not copy what the other operations do. -/
def evVal2 (o : EOp) : Globs → Fr → Mem → Option (EV × Mem) :=
  match o with
  | .mov x => fun G A m => some (opd A x, m)
  | .pick c a b => fun G A m => match opd A c with
    | .bool t => some (if t then opd A a else opd A b, m)
    | _ => none
  | .new z => fun G A m => some (.ptr (some m.fresh), m.push (.cells z 0 true))
  | .box n x => fun G A m => if (opd A x).cells.length = n ∧ single (opd A x) = true then some (.ptr (some m.fresh), m.push (.cells (opd A x).cells 0 true)) else none
  | .build z ps => fun G A m => (fillE z (parts A ps)).map fun cs => (.agg cs, m)
  | .mklit len esz z ps => fun G A m => (fillE z (parts A ps)).map fun cs => (.slice (some m.fresh) len len esz, m.push (.cells cs 0 true))
  | .load n a => fun G A m => match opd A a with
    | .ptr (some a) => match n with
      | none => (m.get G a).map fun v => (v, m)
      | some n => (m.getN G a n).map fun cs => (.agg cs, m)
    | _ => none
  | .store n a x => fun G A m => match opd A a with
    | .ptr (some a) => match opd A x with
      | .agg cs => if cs.length = n then (m.putN a cs).map fun m => (undefE, m) else none
      | .tuple _ => none
      | .iter _ => none
      | v => if n = 1 then (m.put1 a v).map fun m => (undefE, m) else none
    | _ => none
  | .nilchk x => fun G A m => match opd A x with
    | .ptr (some a) => some (.ptr (some a), m)
    | .func f c => some (.func f c, m)
    | _ => none
  | .bin op q x y => fun G A m => (binE op q (opd A x) (opd A y)).map fun v => (v, m)
  | .isnil k neg x => fun G A m => (isNil k (opd A x)).map fun b => (.bool (if neg then !b else b), m)
  | .un op x => fun G A m => (unE op (opd A x)).map fun v => (v, m)
  | .toInt k x => fun G A m => match opd A x with
    | .int _ n => some (.int k (k.wrap n), m)
    | _ => none
  | .same x => fun G A m => match opd A x with
    | .str t => some (.str t, m)
    | _ => none
  | .newT gen z => fun G A m => some (.ptr (some ⟨.mem m.bl.length gen, 0⟩), m.push (.cells z gen true))
  | .unsafeTo x => fun G A m => match opd A x with
    | .ptr none => some (.ptr none, m)
    | .ptr (some ⟨.mem b gen, 0⟩) => match m.bl[b]? with
      | some (.cells cs gen' rw) => if gen' = gen ∧ cs ≠ [] then some (.ptr (some ⟨.mem b gen, 0⟩), m) else none
      | _ => none
    | _ => none
  | .unsafeFrom gt n x => fun G A m => match opd A x with
    | .ptr none => some (.ptr none, m)
    | .ptr (some ⟨.mem b gen, 0⟩) => match m.bl[b]? with
      | some (.cells cs gen' rw) => if gen' = gen ∧ gen = gt ∧ cs.length = n then some (.ptr (some ⟨.mem b gen, 0⟩), m) else none
      | _ => none
    | _ => none
  | .ptrEq neg x y => fun G A m => match opd A x, opd A y with
    | .ptr none, .ptr b => some (.bool (if neg then !b.isNone else b.isNone), m)
    | .ptr (some _), .ptr none => some (.bool neg, m)
    | .ptr (some ⟨.mem b gen, o⟩), .ptr (some ⟨.mem b' gen', o'⟩) => match m.bl[b]? with
      | some (.cells cs g rw) => if b = b' ∧ gen = gen' ∧ g = gen ∧ o = o' then some (.bool !neg, m) else none
      | _ => none
    | _, _ => none
  | .sliceData x => fun G A m => match opd A x with
    | .slice none _ _ _ => some (.ptr none, m)
    | .slice (some a) _ c _ => if c ≠ 0 then some (.ptr (some a), m) else none
    | _ => none
  | .unsafeStr gt x n => fun G A m => match opd A x, opd A n with
    | .ptr none, .int .i64 n => if n = 0 then some (.str [], m) else none
    | .ptr (some a), .int .i64 n => if n = 0 then some (.str [], m) else if n < 0 ∨ 9223372036854775807 < n then none else
      match a.base with
      | .mem b gen => match m.bl[b]? with
        | some (.cells cs gen' true) => if gen' = gen ∧ gen / typeK = gt / typeK ∧ typeK ≤ gen ∧ a.off = 0 then
            ((m.getN G a n.toNat).bind strE).map fun t => (.str t, ⟨m.bl.set b (.cells cs gen false), min m.low b⟩) else none
        | _ => none
      | _ => none
    | _, _ => none
  | .toBytes x => fun G A m => match opd A x with
    | .str t => some (.slice (some m.fresh) t.length t.length 1, m.push (.cells (bytesE t) 0 true))
    | _ => none
  | .toStr x => fun G A m => match opd A x with
    | .slice none _ _ _ => some (.str [], m)
    | .slice (some a) n _ _ => ((m.getN G a n).bind strE).map fun t => (.str t, m)
    | _ => none
  | .mkIface t x => fun G A m => some (.iface t (opd A x), m)
  | .mkFunc f cap => fun G A m => some (.func f (cap.map (opd A)), m)
  | .mkMap => fun G A m => some (.map (some m.bl.length), m.push (.map [] 0))
  | .mkMapN h => fun G A m => match opd A h with
    | .int _ _ => some (.map (some m.bl.length), m.push (.map [] 0))
    | _ => none
  | .mkSlice esz bytes z l c => fun G A m => match opd A l, opd A c with
    | .int .i64 l, .int .i64 c => if 0 ≤ l ∧ l ≤ c ∧ bytes * c ≤ 281474976710656 then
        some (.slice (some m.fresh) l.toNat c.toNat esz, m.push (.cells (repE c.toNat z) 0 true)) else none
    | _, _ => none
  | .slStr x lo hi => fun G A m => match opd A x with
    | .str t => match bound A t.length hi with
      | some h => match bound A 0 lo with
        | some l => if l ≤ h ∧ h ≤ t.length then some (.str ((t.drop l).take (h - l)), m) else none
        | none => none
      | none => none
    | _ => none
  | .sl esz x lo hi => fun G A m => match opd A x with
    | .slice a len cap e => match bound A len hi with
      | some h => match bound A 0 lo with
        | some l => if l ≤ h ∧ h ≤ cap ∧ (e = esz ∨ a.isNone) then some (.slice (a.map (·.plus (l * esz))) (h - l) (cap - l) e, m) else none
        | none => none
      | none => none
    | _ => none
  | .slArr n esz x lo hi => fun G A m => match opd A x with
    | .ptr (some a) => match bound A n hi with
      | some h => match bound A 0 lo with
        | some l => match m.row G a.base with
          | some cs => if l ≤ h ∧ h ≤ n ∧ a.off + n * esz ≤ cs.length then some (.slice (some (a.plus (l * esz))) (h - l) (n - l) esz, m) else none
          | none => none
        | none => none
      | none => none
    | _ => none
  | .fldAddr off x => fun G A m => match opd A x with
    | .ptr (some a) => some (.ptr (some (a.plus off)), m)
    | _ => none
  | .fld off n x => fun G A m => match opd A x with
    | .agg cs => (partE cs off n).map fun v => (v, m)
    | _ => none
  | .ixAddrArr len esz x i => fun G A m => match opd A x, opd A i with
    | .ptr (some a), .int _ i => if 0 ≤ i ∧ i < len then some (.ptr (some (a.plus (i.toNat * esz))), m) else none
    | _, _ => none
  | .ixAddr esz x i => fun G A m => match opd A x, opd A i with
    | .slice (some a) len _ _, .int _ i => if 0 ≤ i ∧ i < len then some (.ptr (some (a.plus (i.toNat * esz))), m) else none
    | _, _ => none
  | .ixArr len esz n x i => fun G A m => match opd A x, opd A i with
    | .agg cs, .int _ i => if 0 ≤ i ∧ i < len then (partE cs (i.toNat * esz) n).map fun v => (v, m) else none
    | _, _ => none
  | .ixStr x i => fun G A m => match opd A x, opd A i with
    | .str t, .int _ i => if 0 ≤ i then (t[i.toNat]?).map fun b => (byteE b, m) else none
    | _, _ => none
  | .ext x i => fun G A m => match opd A x with
    | .tuple vs => (vs[i]?).map fun v => (v, m)
    | _ => none
  | .lenStr x => fun G A m => match opd A x with
    | .str t => some (.int .i64 t.length, m)
    | _ => none
  | .lenSl x => fun G A m => match opd A x with
    | .slice _ n _ _ => some (.int .i64 n, m)
    | _ => none
  | .capSl x => fun G A m => match opd A x with
    | .slice none _ _ _ => some (.int .i64 0, m)
    | _ => none
  | .lenMap x => fun G A m => match opd A x with
    | .map none => some (.int .i64 0, m)
    | .map (some r) => match m.bl[r]? with
      | some (.map es _) => some (.int .i64 es.length, m)
      | _ => none
    | _ => none
  | .append esz bytes tag x y => fun G A m => match srcCells G m esz (opd A y) with
    | some (new, n) => appendE G m esz bytes tag (opd A x) new n
    | none => none
  | .copy esz x y => fun G A m => match opd A x with
    | .slice a len _ _ => match srcCells G m esz (opd A y) with
      | some (new, n) => match a with
        | none => some (.int .i64 0, m)
        | some a => if min n len = 0 then some (.int .i64 0, m) else (m.putN a (new.take (min n len * esz))).map fun m => (.int .i64 (min n len : Nat), m)
      | none => none
    | _ => none
  | .clear z x => fun G A m => match opd A x with
    | .slice none _ _ _ => some (.tuple [], m)
    | .slice (some a) n _ _ => if n = 0 then some (.tuple [], m) else (m.putN a (repE n z)).map fun m => (.tuple [], m)
    | _ => none
  | .minmax mx x y => fun G A m => match opd A x, opd A y with
    | .int k a, .int k' b => if k = k' then some (.int k (if mx then (if b > a then b else a) else (if b < a then b else a)), m) else none
    | _, _ => none
  | .assert t z x ok => fun G A m => match opd A x with
    | .iface u v => if u = t then some (if ok then .tuple [v, .bool true] else v, m) else if ok then some (.tuple [z, .bool false], m) else none
    | .nilIface => if ok then some (.tuple [z, .bool false], m) else none
    | _ => none
  | .lookup q z x k ok => fun G A m => match opd A x with
    | .map none => (lookE q (opd A k) []).map fun f => (lookR z ok f, m)
    | .map (some r) => match m.bl[r]? with
      | some (.map es _) => (lookE q (opd A k) es).map fun f => (lookR z ok f, m)
      | _ => none
    | _ => none
  | .mapSet q x k v => fun G A m => match opd A x with
    | .map (some r) => match m.bl[r]? with
      | some (.map es ck) => if single (opd A v) = true then (lookE q (opd A k) es).map fun f => (undefE, ⟨m.bl.set r (entPut (opd A k) (opd A v) es ck f), min m.low r⟩) else none
      | _ => none
    | _ => none
  | .delete q x k => fun G A m => match opd A x with
    | .map none => (lookE q (opd A k) []).map fun _ => (undefE, m)
    | .map (some r) => match m.bl[r]? with
      | some (.map es ck) => (lookE q (opd A k) es).map fun f => (undefE, ⟨m.bl.set r (entDel es ck f), min m.low r⟩)
      | _ => none
    | _ => none
  | .range x => fun G A m => match opd A x with
    | .str s => some (.iter m.bl.length, m.push (.striter s 0))
    | _ => none
  | .next x => fun G A m => match opd A x with
    | .iter b => match m.bl[b]? with
      | some (.striter s p) => if p < s.length then some (.tuple [.bool true, .int .i64 p, .int .i32 (Utf8.decode ⟨s.toArray⟩ p).1], ⟨m.bl.set b (.striter s (p + (Utf8.decode ⟨s.toArray⟩ p).2)), min m.low b⟩)
        else some (.tuple [.bool false], m)
      | _ => none
    | _ => none
  | .mark x => fun G A m => match opd A x with
    | .slice (some ⟨.mem b gen, o⟩) n c z => match m.bl[b]? with
      | some (.cells _ gen' true) => if gen' = gen ∧ c ≠ 0 then some (.slice (some ⟨.mem b gen, o⟩) n c z, m) else none
      | _ => none
    | _ => none
  | .toFlt k x => fun G A m => match opd A x with
    | .int _ n => some (.flt k (k.nearest n), m)
    | _ => none
  | .fltInt k x => fun G A m => match opd A x with
    | .flt s b => match (s.decode b).toInt .zero with
      | some n => if k.min ≤ n ∧ n ≤ k.max then some (.int k n, m) else none
      | none => none
    | _ => none
  | _ => fun G A m => none

theorem evVal2_eq (o : EOp) (G : Globs) (A : Fr) (m : Mem) : evVal2 o G A m = evVal G o A m := by cases o <;> rfl

def evOp2 (o : EOp) : CallE → Globs → St → Option (Res × St) :=
  match o with
  | .call f args => fun call G s => match opd s.A f with
    | .func f cap => match call f (args.map (opd s.A) ++ cap) s.m none with
      | some r => some (r.res, { s with m := r.m })
      | none => none
    | _ => none
  | .panic x => fun call G s => match opd s.A x with
    | .iface t v => some (.pan (.iface t v), s)
    | _ => none
  | .recover => fun call G s => match s.p with
    | some (some v) => some (.val v, { s with p := some none })
    | some none => some (.val .nilIface, s)
    | none => none
  | .defer f args => fun call G s => match opd s.A f with
    | .func f cap => some (.val undefE, { s with d := (f, args.map (opd s.A) ++ cap) :: s.d })
    | _ => none
  | o => fun call G s => (evVal2 o G s.A s.m).map fun r => (.val r.1, { s with m := r.2 })

theorem evOp2_eq (o : EOp) (call : CallE) (G : Globs) (s : St) : evOp2 o call G s = evOp call G o s := by
  cases o <;> first | rfl | (simp only [evOp2, evOp, evVal2_eq])

def evOpsL (call : CallE) (G : Globs) : List EOper → StL → Option (Ex × StL)
  | [], s => some (.normal, s)
  | o :: os, s =>
    if wantedE (frL s.L) o.guard then
      match evOp2 o.op call G s.st with
      | some (.val v, s') => evOpsL call G os (StL.put ⟨s.L, s'.m, s'.d, s'.p⟩ o.dst v)
      | some (.pan v, s') => some (.pan v, ⟨s.L, s'.m, s'.d, s'.p⟩)
      | none => none
    else evOpsL call G os (s.put o.dst undefE)

def outL (r : Option (Ex × StL)) : Option (Ex × St) := r.map fun q => (q.1, q.2.st)

theorem evOpsL_ok {call : CallE} {G : Globs} : ∀ {os : List EOper} {s : StL}, evOps call G os s.st = outL (evOpsL call G os s)
  | [], s => rfl
  | o :: os, s => by
    simp only [evOps, evOpsL, evOp2_eq]
    have hw : s.st.A = frL s.L := rfl
    rw [hw]
    split
    · cases h : evOp call G o.op s.st with
      | none => rfl
      | some r =>
        obtain ⟨x, s'⟩ := r
        have hA : s'.A = frL s.L := evOp_A h
        have e : s' = (StL.st ⟨s.L, s'.m, s'.d, s'.p⟩) := by
          cases s'
          simp only at hA
          subst hA
          rfl
        cases x with
        | val v =>
          simp only
          rw [e, ← StL.put_st]
          exact evOpsL_ok
        | pan v =>
          simp only [outL, Option.map_some]
          rw [← e]
    · rw [← StL.put_st]
      exact evOpsL_ok

def stepDL (call : CallE) (G : Globs) (n0 : Nat) (o : EOper) (fl : Bool) (s : StL) : Option StL :=
  if wantedE (frL s.L) o.guard then
    if fl then
      if floatOk n0 (frL s.L) o.op then (evVal2 o.op G (frL s.L) s.m).map fun r => s.put o.dst r.1 else none
    else match evOp2 o.op call G s.st with
      | some (.val v, s') => some (StL.put ⟨s.L, s'.m, s'.d, s'.p⟩ o.dst v)
      | _ => none
  else some (s.put o.dst undefE)
def evDL (call : CallE) (G : Globs) (n0 : Nat) : List EOper → List Bool → StL → Option StL
  | [], _, s => some s
  | o :: os, f :: fs, s => match stepDL call G n0 o f s with
    | some s' => evDL call G n0 os fs s'
    | none => none
  | _ :: _, [], _ => none

theorem stepDL_ok {call : CallE} {G : Globs} {n0 : Nat} {o : EOper} {fl : Bool} {s : StL} : stepD call G n0 o fl s.st = (stepDL call G n0 o fl s).map StL.st := by
  unfold stepD stepDL
  simp only [evVal2_eq, evOp2_eq]
  have hw : s.st.A = frL s.L := rfl
  have hm : s.st.m = s.m := rfl
  rw [hw, hm]
  split
  · split
    · split
      · cases evVal G o.op (frL s.L) s.m with
        | none => rfl
        | some r => simp only [Option.map_some, StL.put_st]
      · rfl
    · cases h : evOp call G o.op s.st with
      | none => rfl
      | some r =>
        obtain ⟨x, s'⟩ := r
        have hA : s'.A = frL s.L := evOp_A h
        have e : s' = (StL.st ⟨s.L, s'.m, s'.d, s'.p⟩) := by
          cases s'
          simp only at hA
          subst hA
          rfl
        cases x with
        | val v =>
          simp only [Option.map_some]
          rw [e, ← StL.put_st]
          rfl
        | pan v => rfl
  · simp only [Option.map_some, StL.put_st]

theorem evDL_ok {call : CallE} {G : Globs} {n0 : Nat} : ∀ {os : List EOper} {fl : List Bool} {s : StL}, evD call G n0 os fl s.st = (evDL call G n0 os fl s).map StL.st
  | [], _, s => rfl
  | o :: os, [], s => rfl
  | o :: os, f :: fl, s => by
    simp only [evD, evDL, stepDL_ok]
    cases stepDL call G n0 o f s with
    | none => rfl
    | some s' => exact evDL_ok

def regionNL (call : CallE) (G : Globs) (N : Nat) (ops : List EOper) (fl : List Bool) (cut : Nat) (s : StL) : Option (Ex × StL) :=
  if s.p.isSome = true then none else
  match evDL call G N (ops.take cut) (fl.take cut) { s with m := ⟨s.m.bl, s.m.bl.length⟩ } with
  | some s1 => if N ≤ s1.m.low then
      match evDL call G N (ops.drop cut) (fl.drop cut) s1 with
      | some s' => some (.normal, { s' with m := ⟨s'.m.bl, lowD s.m s'.m⟩ })
      | none => none
    else none
  | none => none
def regionDL (call : CallE) (G : Globs) (ops : List EOper) (fl : List Bool) (cut : Nat) (s : StL) : Option (Ex × StL) :=
  match evDL call G s.m.bl.length (ops.take cut) (fl.take cut) { s with m := ⟨s.m.bl, s.m.bl.length⟩ } with
  | some s1 => match regionNL call G s.m.bl.length ops fl cut s with
    | some r => some r
    | none => regionNL call G s1.m.low ops fl cut s
  | none => none

theorem regionNL_ok {call : CallE} {G : Globs} {N : Nat} {ops : List EOper} {fl : List Bool} {cut : Nat} {s : StL} : regionN call G N ops fl cut s.st = outL (regionNL call G N ops fl cut s) := by
  obtain ⟨L, m, d, p⟩ := s
  show regionN call G N ops fl cut ⟨frL L, m, d, p⟩ = outL (regionNL call G N ops fl cut ⟨L, m, d, p⟩)
  unfold regionN regionNL
  have e := evDL_ok (call := call) (G := G) (n0 := N) (os := ops.take cut) (fl := fl.take cut) (s := ⟨L, ⟨m.bl, m.bl.length⟩, d, p⟩)
  replace e : evD call G N (ops.take cut) (fl.take cut) ⟨frL L, ⟨m.bl, m.bl.length⟩, d, p⟩ = _ := e
  by_cases hp : p.isSome = true
  · rw [if_pos hp, if_pos hp]
    rfl
  · rw [if_neg hp, if_neg hp, e]
    cases evDL call G N (ops.take cut) (fl.take cut) ⟨L, ⟨m.bl, m.bl.length⟩, d, p⟩ with
    | none => rfl
    | some s1 =>
      have e2 := evDL_ok (call := call) (G := G) (n0 := N) (os := ops.drop cut) (fl := fl.drop cut) (s := s1)
      simp only [Option.map_some]
      have hm1 : s1.st.m = s1.m := rfl
      by_cases hl : N ≤ s1.m.low
      · rw [if_pos (show N ≤ s1.st.m.low from hl), if_pos hl, e2]
        cases evDL call G N (ops.drop cut) (fl.drop cut) s1 with
        | none => rfl
        | some s' => rfl
      · rw [if_neg (show ¬ N ≤ s1.st.m.low from hl), if_neg hl]
        rfl
theorem regionDL_ok {call : CallE} {G : Globs} {ops : List EOper} {fl : List Bool} {cut : Nat} {s : StL} : regionD call G ops fl cut s.st = outL (regionDL call G ops fl cut s) := by
  unfold regionD regionDL
  have e : evD call G s.st.m.bl.length (ops.take cut) (fl.take cut) { s.st with m := ⟨s.st.m.bl, s.st.m.bl.length⟩ } = _ := evDL_ok (call := call) (G := G) (n0 := s.m.bl.length) (os := ops.take cut) (fl := fl.take cut) (s := { s with m := ⟨s.m.bl, s.m.bl.length⟩ })
  rw [e]
  cases evDL call G s.m.bl.length (ops.take cut) (fl.take cut) { s with m := ⟨s.m.bl, s.m.bl.length⟩ } with
  | none => rfl
  | some s1 =>
    simp only [Option.map_some, regionNL_ok]
    have h1 : s.st.m.bl.length = s.m.bl.length := rfl
    rw [h1]
    cases regionNL call G s.m.bl.length ops fl cut s with
    | none => rfl
    | some r => rfl

def regionLL (call : CallE) (G : Globs) (js : List Nat) (ops : List EOper) (fl : List Bool) (cut : Nat) (s : StL) : Option (Ex × StL) :=
  if s.p.isSome = true then none else
  match lates ops js with
  | none => none
  | some bs =>
    match evDL call G s.m.bl.length ((subL s.m.bl.length js ops).take cut) (fl.take cut) { s with m := ⟨s.m.bl ++ List.replicate bs.length (.dead 0), s.m.bl.length + bs.length⟩ } with
    | some s1 => if s.m.bl.length + bs.length ≤ s1.m.low then
        match commitE bs s.m.bl.length s1.m with
        | some m1 => match evDL call G s.m.bl.length ((subL s.m.bl.length js ops).drop cut) (fl.drop cut) { s1 with m := m1 } with
          | some s' => some (.normal, { s' with m := ⟨s'.m.bl, lowD s.m s'.m⟩ })
          | none => none
        | none => none
      else none
    | none => none
theorem regionLL_ok {call : CallE} {G : Globs} {js : List Nat} {ops : List EOper} {fl : List Bool} {cut : Nat} {s : StL} : regionL call G js ops fl cut s.st = outL (regionLL call G js ops fl cut s) := by
  obtain ⟨L, m, d, p⟩ := s
  show regionL call G js ops fl cut ⟨frL L, m, d, p⟩ = outL (regionLL call G js ops fl cut ⟨L, m, d, p⟩)
  unfold regionL regionLL
  by_cases hp : p.isSome = true
  · rw [if_pos hp, if_pos hp]
    rfl
  · rw [if_neg hp, if_neg hp]
    cases lates ops js with
    | none => rfl
    | some bs =>
      simp only
      have e := evDL_ok (call := call) (G := G) (n0 := m.bl.length) (os := (subL m.bl.length js ops).take cut) (fl := fl.take cut) (s := ⟨L, ⟨m.bl ++ List.replicate bs.length (.dead 0), m.bl.length + bs.length⟩, d, p⟩)
      replace e : evD call G m.bl.length ((subL m.bl.length js ops).take cut) (fl.take cut) ⟨frL L, ⟨m.bl ++ List.replicate bs.length (.dead 0), m.bl.length + bs.length⟩, d, p⟩ = _ := e
      rw [e]
      cases evDL call G m.bl.length ((subL m.bl.length js ops).take cut) (fl.take cut) ⟨L, ⟨m.bl ++ List.replicate bs.length (.dead 0), m.bl.length + bs.length⟩, d, p⟩ with
      | none => rfl
      | some s1 =>
        simp only [Option.map_some]
        by_cases hl : m.bl.length + bs.length ≤ s1.m.low
        · rw [if_pos (show m.bl.length + bs.length ≤ s1.st.m.low from hl), if_pos hl]
          have hm1 : s1.st.m = s1.m := rfl
          rw [hm1]
          cases commitE bs m.bl.length s1.m with
          | none => rfl
          | some m1 =>
            simp only
            have e2 : evD call G m.bl.length ((subL m.bl.length js ops).drop cut) (fl.drop cut) { s1.st with m := m1 } = _ := evDL_ok (call := call) (G := G) (n0 := m.bl.length) (os := (subL m.bl.length js ops).drop cut) (fl := fl.drop cut) (s := { s1 with m := m1 })
            rw [e2]
            cases evDL call G m.bl.length ((subL m.bl.length js ops).drop cut) (fl.drop cut) { s1 with m := m1 } with
            | none => rfl
            | some s' => rfl
        · rw [if_neg (show ¬ m.bl.length + bs.length ≤ s1.st.m.low from hl), if_neg hl]
          rfl

def iterL (step : StL → Option (Ex × StL)) : Nat → StL → Option (Ex × StL)
  | 0, _ => none
  | n + 1, s => match step s with
    | some (.normal, s') => iterL step n s'
    | r => r

theorem iterL_ok {f : St → Option (Ex × St)} {g : StL → Option (Ex × StL)} (h : ∀ s, f s.st = outL (g s)) : ∀ (n : Nat) (s : StL), iterE f n s.st = outL (iterL g n s)
  | 0, s => rfl
  | n + 1, s => by
    simp only [iterE, iterL, h]
    cases g s with
    | none => rfl
    | some r =>
      obtain ⟨x, s'⟩ := r
      cases x with
      | normal => exact iterL_ok h n s'
      | _ => rfl

def evCodeL (call : CallE) (G : Globs) (rounds : Nat) : ECode → StL → Option (Ex × StL)
  | .skip, s => some (.normal, s)
  | .reg ops, s => evOpsL call G ops s
  | .regD ops fl cut, s => regionDL call G ops fl cut s
  | .regL js ops fl cut, s => regionLL call G js ops fl cut s
  | .seq a b, s => match evCodeL call G rounds a s with
    | some (.normal, s') => evCodeL call G rounds b s'
    | r => r
  | .cond c a b, s => match opd (frL s.L) c with
    | .bool true => evCodeL call G rounds a s
    | .bool false => evCodeL call G rounds b s
    | _ => none
  | .block id c, s => match evCodeL call G rounds c s with
    | some (.exit i, s') => if i = id then some (.normal, s') else some (.exit i, s')
    | r => r
  | .loop c, s => iterL (evCodeL call G rounds c) rounds s
  | .exit id, s => some (.exit id, s)
  | .ret, s => some (.ret, s)

theorem evCodeL_ok {call : CallE} {G : Globs} {n : Nat} : ∀ (c : ECode) (s : StL), evCode call G n c s.st = outL (evCodeL call G n c s) := by
  intro c
  induction c with
  | skip => intro s; rfl
  | reg ops => intro s; exact evOpsL_ok
  | regD ops fl cut => intro s; exact regionDL_ok
  | regL js ops fl cut => intro s; exact regionLL_ok
  | seq a b iha ihb =>
    intro s
    simp only [evCode, evCodeL, iha]
    cases evCodeL call G n a s with
    | none => rfl
    | some r =>
      obtain ⟨x, s'⟩ := r
      cases x with
      | normal => exact ihb s'
      | _ => rfl
  | cond q a b iha ihb =>
    intro s
    simp only [evCode, evCodeL]
    have hw : s.st.A = frL s.L := rfl
    rw [hw]
    cases opd (frL s.L) q with
    | bool t => cases t <;> first | exact iha s | exact ihb s
    | _ => rfl
  | block id a iha =>
    intro s
    simp only [evCode, evCodeL, iha]
    cases evCodeL call G n a s with
    | none => rfl
    | some r =>
      obtain ⟨x, s'⟩ := r
      cases x with
      | exit i =>
        simp only [outL, Option.map_some]
        split <;> rfl
      | _ => rfl
  | loop a iha => intro s; exact iterL_ok (fun s => iha s) n s
  | exit id => intro s; rfl
  | ret => intro s; rfl

def evFunL (T : FuncId → Option EFunc) (G : Globs) : Nat → FuncId → List EV → Mem → Option (Option EV) → Option CR
  | 0, _, _, _, _ => none
  | k + 1, f, args, m, p => match T f with
    | none => none
    | some ef => match ef.prim with
      | some .weak => if p.isSome = true then none else match weakE args m with
        | none => none
        | some q => match evCodeL (evFunL T G k) G k ef.body ⟨argsT q.1 0 .e, ⟨q.2.bl, q.2.bl.length⟩, [], none⟩ with
          | some (.normal, s) => finE (evFunL T G k) G ef.res q.2 none s.st
          | some (.ret, s) => finE (evFunL T G k) G ef.res q.2 none s.st
          | some (.pan v, s) => finE (evFunL T G k) G ef.res q.2 (some v) s.st
          | _ => none
      | some n => if p.isSome = true then none else (primE n G args m).map fun r => ⟨.val r.1, r.2, p⟩
      | none => match evCodeL (evFunL T G k) G k ef.body ⟨argsT args 0 .e, ⟨m.bl, m.bl.length⟩, [], p⟩ with
        | some (.normal, s) => finE (evFunL T G k) G ef.res m none s.st
        | some (.ret, s) => finE (evFunL T G k) G ef.res m none s.st
        | some (.pan v, s) => finE (evFunL T G k) G ef.res m (some v) s.st
        | _ => none

theorem evFunL_ok (T : FuncId → Option EFunc) (G : Globs) : ∀ k, evFun T G k = evFunL T G k
  | 0 => by funext f args m p; rfl
  | k + 1 => by
    funext f args m p
    have ih := evFunL_ok T G k
    rw [evFun, evFunL]
    cases T f with
    | none => rfl
    | some ef =>
      simp only
      cases ef.prim with
      | some n =>
        cases n with
        | num n => rfl
        | orc o => rfl
        | mnz t => rfl
        | weak =>
          simp only
          split
          · rfl
          cases weakE args m with
          | none => rfl
          | some q =>
            simp only
            rw [ih]
            have e : (⟨argsE q.1, ⟨q.2.bl, q.2.bl.length⟩, [], none⟩ : St) = StL.st ⟨argsT q.1 0 .e, ⟨q.2.bl, q.2.bl.length⟩, [], none⟩ := by simp only [StL.st, argsT_frame]
            rw [e, evCodeL_ok]
            cases evCodeL (evFunL T G k) G k ef.body ⟨argsT q.1 0 .e, ⟨q.2.bl, q.2.bl.length⟩, [], none⟩ with
            | none => rfl
            | some r =>
              obtain ⟨x, s'⟩ := r
              cases x <;> rfl
      | none =>
        simp only
        rw [ih]
        have e : (⟨argsE args, ⟨m.bl, m.bl.length⟩, [], p⟩ : St) = StL.st ⟨argsT args 0 .e, ⟨m.bl, m.bl.length⟩, [], p⟩ := by simp only [StL.st, argsT_frame]
        rw [e, evCodeL_ok]
        cases evCodeL (evFunL T G k) G k ef.body ⟨argsT args 0 .e, ⟨m.bl, m.bl.length⟩, [], p⟩ with
        | none => rfl
        | some r =>
          obtain ⟨x, s'⟩ := r
          cases x <;> rfl

theorem comes_of_run {T : FuncId → Option EFunc} {G : Globs} {k : Nat} {f : FuncId} {args : List EV} {m : Mem} {r : CR} (h : evFunL T G k f args m none = some r) : Comes T G f args m none r :=
  ⟨k, by rw [evFunL_ok]; exact h⟩

/-! ### What holds in the empty memory holds everywhere -/
/-- Values that lead nowhere. -/
def plainV : EV → Bool
  | .bool _ | .int _ _ | .flt _ _ | .str _ | .ptr none | .slice none _ _ _ | .map none | .nilFunc | .nilIface => true
  | _ => false
def plainT : EV → Bool
  | .agg cs => cs.all plainV
  | .tuple vs => vs.all fun v => match v with
    | .agg cs => cs.all plainV
    | v => plainV v
  | v => plainV v

theorem plainV_rel {j j' : Inj} {m m' : Mem} : ∀ {x : EV} {v : Value}, plainV x = true → VRel j m x v → VRel j' m' x v
  | .bool _, _, _, h => h
  | .int _ _, _, _, h => h
  | .flt _ _, _, _, h => h
  | .str _, _, _, h => h
  | .ptr none, _, _, h => h
  | .slice none _ _ _, _, _, h => h
  | .map none, _, _, h => h
  | .nilFunc, _, _, h => h
  | .nilIface, _, _, h => h
  | .ptr (some _), _, h, _ => by cases h
  | .slice (some _) _ _ _, _, h, _ => by cases h
  | .map (some _), _, h, _ => by cases h
  | .func _ _, _, h, _ => by cases h
  | .iface _ _, _, h, _ => by cases h
  | .iter _, _, h, _ => by cases h
  | .agg _, _, h, _ => by cases h
  | .tuple _, _, h, _ => by cases h
theorem plainVs_rel {j j' : Inj} {m m' : Mem} : ∀ {xs : List EV} {l : List Value}, xs.all plainV = true → VsRel j m xs l → VsRel j' m' xs l
  | [], _, _, h => h
  | x :: xs, l, hp, h => by
    simp only [List.all_cons, Bool.and_eq_true] at hp
    obtain ⟨y, ys, e, r, rs⟩ := h
    exact ⟨y, ys, e, plainV_rel hp.1 r, plainVs_rel hp.2 rs⟩
theorem plainA_rel {j j' : Inj} {m m' : Mem} {x : EV} {v : Value} (hp : (match x with | .agg cs => cs.all plainV | v => plainV v) = true) (h : VRel j m x v) : VRel j' m' x v := by
  cases x with
  | agg cs =>
    obtain ⟨c', e, r, k⟩ := h
    exact ⟨c', e, plainVs_rel hp r, k⟩
  | _ => exact plainV_rel hp h
theorem plainAs_rel {j j' : Inj} {m m' : Mem} : ∀ {xs : List EV} {l : List Value}, (xs.all fun v => match v with | .agg cs => cs.all plainV | v => plainV v) = true → VsRel j m xs l → VsRel j' m' xs l
  | [], _, _, h => h
  | x :: xs, l, hp, h => by
    simp only [List.all_cons, Bool.and_eq_true] at hp
    obtain ⟨y, ys, e, r, rs⟩ := h
    exact ⟨y, ys, e, plainA_rel hp.1 r, plainAs_rel hp.2 rs⟩
theorem plainT_rel {j j' : Inj} {m m' : Mem} {x : EV} {v : Value} (hp : plainT x = true) (h : VRel j m x v) : VRel j' m' x v := by
  cases x with
  | agg cs => exact plainA_rel (x := .agg cs) hp h
  | tuple vs =>
    obtain ⟨c', e, r⟩ := h
    exact ⟨c', e, plainAs_rel hp r⟩
  | _ => exact plainV_rel hp h

theorem MemRel.later {G : Globs} {base : Nat} {w0 w w' : World} {j : Inj} {m : Mem} (h : MemRel G base w0 j m w) (hb : Below w.heap.size w w') : MemRel G base w0 j m w' := by
  have keep : ∀ k, k < w.heap.size → w'.heap[k]? = w.heap[k]? := hb.block
  refine ⟨h.below.trans (hb.mono h.big), Nat.le_trans h.big hb.size, fun g cs hg => ?_, fun b cs gen rw' hk => ?_, fun b es ck hk => ?_, h.inj, fun b s p hk => ?_, fun b cs gen rw' c ty fr hk hh => ?_, fun R n hR => ?_⟩
  · obtain ⟨h1, h2, c, ty, fr, h3, h4⟩ := h.globs g cs hg
    exact ⟨h1, h2, c, ty, fr, (keep g (Nat.lt_of_lt_of_le h1 h.big)).trans h3, h4⟩
  · obtain ⟨h1, c, ty, fr, h2, h3⟩ := h.cells b cs gen rw' hk
    exact ⟨h1, c, ty, fr, (keep _ (h.blk_lt (.inl ⟨cs, gen, rw', hk⟩))).trans h2, h3⟩
  · obtain ⟨h1, es', h2, h3⟩ := h.maps b es ck hk
    exact ⟨h1, es', (keep _ (h.blk_lt (.inr ⟨_, rfl, hk⟩))).trans h2, h3⟩
  · obtain ⟨q1, q2⟩ := h.other b s p hk
    exact ⟨q1, (keep _ (h.blk_lt (.inr ⟨_, rfl, hk⟩))).trans q2⟩
  · rw [keep _ (h.blk_lt (.inl ⟨cs, gen, rw', hk⟩))] at hh
    exact h.typed b cs gen rw' c ty fr hk hh
  · obtain ⟨r1, ⟨c, ty, fr, r2, r3⟩, r4⟩ := h.garb R n hR
    exact ⟨r1, ⟨c, ty, fr, (keep R (Array.getElem?_eq_some_iff.1 r2).1).trans r2, r3⟩, r4⟩

/-- What tables hold leads nowhere. -/
def GPlain (G : Globs) : Prop := ∀ g cs, G g = some cs → cs.all plainV = true

/-- Known answers: reckoned in the empty memory. -/
def OrcRun (T0 : FuncId → Option EFunc) (G : Globs) (f : FuncId) (o : List EV → Option EV) : Prop :=
  ∀ args v, o args = some v → (args.all fun v => match v with | .agg cs => cs.all plainV | v => plainV v) = true ∧ plainT v = true ∧ ∃ m' p', Comes T0 G f args ⟨[], 0⟩ none ⟨.val v, m', p'⟩

theorem orc_run {P : Program} {T0 : FuncId → Option EFunc} (hmix : P.follows .mixedOrders = true) (hT : FitsO P T0) {G : Globs} (hG : GPlain G) (horc : ∀ base w0, OrcOk P T0 G base w0) {f : FuncId} {ef : EFunc} (hf : T0 f = some ef) (hp : ef.prim = none) {o : List EV → Option EV} (ho : OrcRun T0 G f o)
    {base : Nat} {w0 : World} {args : List EV} {m : Mem} {v : EV} {j : Inj} {w : World} {vs : Array Value} (hov : o args = some v) (hm : MemRel G base w0 j m w) (hvs : VsRel j m args vs.toList) :
    (callFunc f vs).run P w = .ok (.enter f vs) w ∧ Calls P f vs w (Ends G base w0 j m ⟨.val v, m, none⟩) := by
  obtain ⟨ha, hv, m', p', hc⟩ := ho args v hov
  obtain ⟨fn, hfn, hfc⟩ := Option.bind_eq_some_iff.1 ((hT f ef hf).resolve_right (by rintro ⟨o, ho⟩; rw [hp] at ho; cases ho))
  obtain ⟨c, hb, hname, _, _⟩ := funC_body hfc (.inl hp)
  refine ⟨by simp only [callFunc, Sem.run_bind, run_program, Result.andThen_ok, hfn, hname, hb, Bool.false_eq_true, if_false, Option.isNone_some, Sem.run_pure], ?_⟩
  have hm0 : MemRel G w.heap.size w ⟨id, id, id, fun _ => none⟩ ⟨[], 0⟩ w := by
    refine ⟨Below.refl _ _, Nat.le_refl _, fun g cs hg => ?_, ?_, ?_, ?_, ?_, fun b cs gen rw c ty fr hb => by simp at hb, fun R n hR => by cases hR⟩
    · obtain ⟨h1, h2, c, ty, fr, h3, h4⟩ := hm.globs g cs hg
      have hpl := hG g cs hg
      exact ⟨Nat.lt_of_lt_of_le h1 hm.big, h2, c, ty, fr, h3, h4.1, fun i x hx => by
        obtain ⟨v, hv, hr⟩ := h4.2 i x hx
        exact ⟨v, hv, plainV_rel (List.all_eq_true.1 hpl x (List.mem_of_getElem? hx)) hr⟩⟩
    · intro b cs gen rw hb; simp at hb
    · intro b es ck hb; simp at hb
    · intro b b' hne h1; rcases h1 with ⟨cs, gen, h1⟩ | ⟨es, c, h1⟩ <;> simp at h1
    · intro b s p hb; simp at hb
  refine (calls_of_evO hmix hT (horc _ _) hf hp hc hm0 (plainAs_rel ha hvs)).mono fun e w' he => ?_
  cases e with
  | returned u =>
    obtain ⟨x, j', hx, _, hm', hr⟩ := he
    cases hx
    exact ⟨v, j, rfl, Ext.refl j m, hm.later hm'.below, plainT_rel hv hr⟩
  | panicked chain =>
    obtain ⟨x, j', u, hx, _⟩ := he
    cases hx
  | outgrown => exact he.elim
end Go.Ev
