/- A part of the proof of the statement that this claim hands in: what single functions come to. There are no conditions. -/
import Derived.Test.YtjomofcdanpdgabGreatDoorPcFuns
import Derived.Test.YtjomofcdanpdgabGreatDoorPcEv22
set_option linter.unusedSectionVars false
set_option linter.unusedVariables false
set_option linter.unusedSimpArgs false
namespace Go.Proofs.YtjomofcdanpdgabGreatDoor.paramCarried
open Go.Ev hiding Comes
variable {G : Globs}

theorem wrap_ok {z : Int} {n : Nat} (h : z = n) (hn : n ≤ 9223372036854775807) : IntKind.i64.wrap z = ((n : Nat) : Int) := by
  subst h
  simp only [IntKind.wrap, IntKind.bits, IntKind.signed]
  simp
  omega

/-- The counts that rows of strings.Builder, and of bytes, begin with. -/
def genB : Nat := 54975581388800
def tagB : Nat := 6597069766657
theorem tag_next {n : Nat} (h : n < 1099511627000) : (tagB + n + 1) / typeK = (tagB + n) / typeK ∧ tagB / typeK = (tagB + n) / typeK ∧ (tagB + n) % typeK ≠ 0 := by
  simp only [tagB, typeK]
  omega

/-- A variable of strings.Builder: its block, where its bytes lie (k: in which block, if any), the bytes, how often it was written. -/
def Bld (m : Mem) (b : Nat) (k : Option Nat) (s : List UInt8) (n : Nat) : Prop :=
  ∃ p v, m.bl[b]? = some (.cells [p, v] genB true) ∧ (p = .ptr none ∨ p = .ptr (some ⟨.mem b genB, 0⟩)) ∧
    match k with
    | none => v = .slice none 0 0 0 ∧ s = []
    | some k => k ≠ b ∧ ∃ g, g < n ∧ v = .slice (some ⟨.mem k (tagB + g), 0⟩) s.length s.length 1 ∧ m.bl[k]? = some (.cells (bytesE s) (tagB + g) true)

theorem row2_get {m : Mem} {b g i : Nat} {p v x : EV} (h : m.bl[b]? = some (.cells [p, v] g true)) (hx : [p, v][i]? = some x) : m.get G ⟨.mem b g, i⟩ = some x := by
  simp only [Mem.get, Mem.row, h, if_true, Option.bind_some, hx]
theorem row2_put {m : Mem} {b g i : Nat} {p v x : EV} (h : m.bl[b]? = some (.cells [p, v] g true)) (hi : i < 2) : m.put1 ⟨.mem b g, i⟩ x = some ⟨m.bl.set b (.cells ([p, v].set i x) g true), min m.low b⟩ := by
  simp only [Mem.put1, Mem.write, h, true_and]
  rw [if_pos (by simp; omega)]

theorem begin_eq {m M : Mem} (h : Grown m M) (hl : M.bl.length = m.bl.length) : M.bl = m.bl := by
  obtain ⟨l, e⟩ := h
  have : l = [] := by
    rw [e] at hl
    simpa using hl
  rw [e, this, List.append_nil]
theorem leave_wrote {m M : Mem} {v : EV} (h : M.low < m.bl.length) : leaveE m v M = ⟨M.bl, min m.low M.low⟩ := by
  simp only [leaveE]
  rw [if_neg (by omega)]
theorem genB_eq : (genB = 54975581388800) = True := eq_true rfl

theorem c54 (m : Mem) (x : EV) : Go.Ev.Comes T G 54 [x] m none ⟨.val x, m, none⟩ := ⟨1, by simp only [evFun, T54, F54, Option.isSome_none, Bool.false_eq_true, if_false, primE, noeE, Option.map_some]⟩

/-- Nothing but one block is changed, and nothing is new. -/
theorem c36 (m : Mem) (b : Nat) (k : Option Nat) (s : List UInt8) (n : Nat) (h : Bld m b k s n) :
    ∃ r, Go.Ev.Comes T G 36 [.ptr (some ⟨.mem b genB, 0⟩)] m none r ∧ ∃ m', r = ⟨.val (.tuple []), m', none⟩ ∧ But1 b m m' ∧ min m.low b ≤ m'.low ∧ Bld m' b k s n ∧ ∃ v, m'.bl[b]? = some (.cells [.ptr (some ⟨.mem b genB, 0⟩), v] genB true) := by
  obtain ⟨p, v, hb, hp, hk⟩ := h
  have hlt : b < m.bl.length := (List.getElem?_eq_some_iff.1 hb).1
  refine comes_ofP T36 rfl fun M hg hlen hlow => ?_
  have hB : M.bl[b]? = some (.cells [p, v] genB true) := by
    obtain ⟨l, e⟩ := hg
    rw [e, List.getElem?_append_left hlt, hb]
  have g0 := row2_get (G := G) (i := 0) hB rfl
  refine wpC_seq (wpC_reg ?_)
  rcases hp with rfl | rfl
  · repeat (first
      | (refine wpOps_plain rfl ?_
         simp only [stepE, evVal, opd, upd, setO, argsE, List.getD, binE, binInt, binStr, unE, wantedE, w0, w1, w2, Nat.reduceEqDiff, ↓reduceIte, Nat.reduceAdd, reduceCtorEq, eq_self, decide_true, decide_false, Bool.false_eq_true, Int.reduceBEq, Int.reduceBNe, Int.reduceLT, Int.reduceLE, Int.reduceGE, Int.reduceGT, Int.reduceEq, g0, isNil, Option.isNone_none])
      | (apply wpOps_on
         · simp only [wantedE, upd, setO, w0, w1, ↓reduceIte, Nat.reduceEqDiff, reduceCtorEq, Bool.false_eq_true, Int.reduceBEq, eq_self, decide_true, decide_false])
      | (apply wpOps_off
         · simp only [wantedE, upd, setO, w0, w1, ↓reduceIte, Nat.reduceEqDiff, reduceCtorEq, Bool.false_eq_true, Int.reduceBEq, eq_self, decide_true, decide_false]
         try dsimp only)
      | (apply wpOps_if
         · rfl
         · simp only [stepE, evVal, opd, upd, setO, argsE, List.getD, binE, binInt, binStr, unE, wantedE, w0, w1, w2, Nat.reduceEqDiff, ↓reduceIte, Nat.reduceAdd, reduceCtorEq, eq_self, decide_true, decide_false, Bool.false_eq_true, Int.reduceBEq, Int.reduceBNe, Int.reduceLT, Int.reduceLE, Int.reduceGE, Int.reduceGT, Int.reduceEq]; exact rfl
         · intro hb; simp only [stepE, evVal, opd, upd, setO, argsE, List.getD, binE, binInt, binStr, unE, wantedE, w0, w1, w2, Nat.reduceEqDiff, ↓reduceIte, Nat.reduceAdd, reduceCtorEq, eq_self, decide_true, decide_false, Bool.false_eq_true, Int.reduceBEq, Int.reduceBNe, Int.reduceLT, Int.reduceLE, Int.reduceGE, Int.reduceGT, Int.reduceEq, hb, g0, isNil, Option.isNone_none]; exact rfl))
    refine wpOps_nil (wpC_cond (t := true) (by simp only [stepE, evVal, opd, upd, setO, argsE, List.getD, binE, binInt, binStr, unE, wantedE, w0, w1, w2, Nat.reduceEqDiff, ↓reduceIte, Nat.reduceAdd, reduceCtorEq, eq_self, decide_true, decide_false, Bool.false_eq_true, Int.reduceBEq, Int.reduceBNe, Int.reduceLT, Int.reduceLE, Int.reduceGE, Int.reduceGT, Int.reduceEq]) (fun _ => ?_) (fun h => by cases h))
    refine wpC_reg ?_
    repeat (first
      | (refine wpOps_plain rfl ?_
         simp only [stepE, evVal, opd, upd, setO, argsE, List.getD, binE, binInt, binStr, unE, wantedE, w0, w1, w2, Nat.reduceEqDiff, ↓reduceIte, Nat.reduceAdd, reduceCtorEq, eq_self, decide_true, decide_false, Bool.false_eq_true, Int.reduceBEq, Int.reduceBNe, Int.reduceLT, Int.reduceLE, Int.reduceGE, Int.reduceGT, Int.reduceEq])
      | (apply wpOps_on
         · simp only [wantedE, upd, setO, w0, w1, ↓reduceIte, Nat.reduceEqDiff, reduceCtorEq, Bool.false_eq_true, Int.reduceBEq, eq_self, decide_true, decide_false])
      | (apply wpOps_off
         · simp only [wantedE, upd, setO, w0, w1, ↓reduceIte, Nat.reduceEqDiff, reduceCtorEq, Bool.false_eq_true, Int.reduceBEq, eq_self, decide_true, decide_false]
         try dsimp only)
      | (apply wpOps_if
         · rfl
         · simp only [stepE, evVal, opd, upd, setO, argsE, List.getD, binE, binInt, binStr, unE, wantedE, w0, w1, w2, Nat.reduceEqDiff, ↓reduceIte, Nat.reduceAdd, reduceCtorEq, eq_self, decide_true, decide_false, Bool.false_eq_true, Int.reduceBEq, Int.reduceBNe, Int.reduceLT, Int.reduceLE, Int.reduceGE, Int.reduceGT, Int.reduceEq]; exact rfl
         · intro hb; simp only [stepE, evVal, opd, upd, setO, argsE, List.getD, binE, binInt, binStr, unE, wantedE, w0, w1, w2, Nat.reduceEqDiff, ↓reduceIte, Nat.reduceAdd, reduceCtorEq, eq_self, decide_true, decide_false, Bool.false_eq_true, Int.reduceBEq, Int.reduceBNe, Int.reduceLT, Int.reduceLE, Int.reduceGE, Int.reduceGT, Int.reduceEq, hb]; exact rfl))
    refine wpOps_step rfl ?_
    simp only [stepE, evVal, opd, upd, setO, argsE, List.getD, binE, binInt, binStr, unE, wantedE, w0, w1, w2, Nat.reduceEqDiff, ↓reduceIte, Nat.reduceAdd, reduceCtorEq, eq_self, decide_true, decide_false, Bool.false_eq_true, Int.reduceBEq, Int.reduceBNe, Int.reduceLT, Int.reduceLE, Int.reduceGE, Int.reduceGT, Int.reduceEq, hB, ne_eq]
    apply wpOps_call
    · first | rfl | (simp only [stepE, evVal, opd, upd, setO, argsE, List.getD, binE, binInt, binStr, unE, wantedE, w0, w1, w2, Nat.reduceEqDiff, ↓reduceIte, Nat.reduceAdd, reduceCtorEq, eq_self, decide_true, decide_false, Bool.false_eq_true, Int.reduceBEq, Int.reduceBNe, Int.reduceLT, Int.reduceLE, Int.reduceGE, Int.reduceGT, Int.reduceEq]; exact rfl)
    · (try simp only [stepE, evVal, opd, upd, setO, argsE, List.getD, binE, binInt, binStr, unE, wantedE, w0, w1, w2, Nat.reduceEqDiff, ↓reduceIte, Nat.reduceAdd, reduceCtorEq, eq_self, decide_true, decide_false, Bool.false_eq_true, Int.reduceBEq, Int.reduceBNe, Int.reduceLT, Int.reduceLE, Int.reduceGE, Int.reduceGT, Int.reduceEq]); exact (c54 M _)
    simp only [stepE, evVal, opd, upd, setO, argsE, List.getD, binE, binInt, binStr, unE, wantedE, w0, w1, w2, Nat.reduceEqDiff, ↓reduceIte, Nat.reduceAdd, reduceCtorEq, eq_self, decide_true, decide_false, Bool.false_eq_true, Int.reduceBEq, Int.reduceBNe, Int.reduceLT, Int.reduceLE, Int.reduceGE, Int.reduceGT, Int.reduceEq]
    refine wpOps_step rfl ?_
    simp only [stepE, evVal, opd, upd, setO, argsE, List.getD, binE, binInt, binStr, unE, wantedE, w0, w1, w2, Nat.reduceEqDiff, ↓reduceIte, Nat.reduceAdd, reduceCtorEq, eq_self, decide_true, decide_false, Bool.false_eq_true, Int.reduceBEq, Int.reduceBNe, Int.reduceLT, Int.reduceLE, Int.reduceGE, Int.reduceGT, Int.reduceEq, hB, genB_eq, List.length_cons, List.length_nil]
    have hput := row2_put (x := .ptr (some ⟨.mem b genB, 0⟩)) (i := 0) hB (by omega)
    repeat (first
      | (refine wpOps_plain rfl ?_
         simp only [stepE, evVal, opd, upd, setO, argsE, List.getD, binE, binInt, binStr, unE, wantedE, w0, w1, w2, Nat.reduceEqDiff, ↓reduceIte, Nat.reduceAdd, reduceCtorEq, eq_self, decide_true, decide_false, Bool.false_eq_true, Int.reduceBEq, Int.reduceBNe, Int.reduceLT, Int.reduceLE, Int.reduceGE, Int.reduceGT, Int.reduceEq, hput])
      | (apply wpOps_on
         · simp only [wantedE, upd, setO, w0, w1, ↓reduceIte, Nat.reduceEqDiff, reduceCtorEq, Bool.false_eq_true, Int.reduceBEq, eq_self, decide_true, decide_false])
      | (apply wpOps_off
         · simp only [wantedE, upd, setO, w0, w1, ↓reduceIte, Nat.reduceEqDiff, reduceCtorEq, Bool.false_eq_true, Int.reduceBEq, eq_self, decide_true, decide_false]
         try dsimp only)
      | (apply wpOps_if
         · rfl
         · simp only [stepE, evVal, opd, upd, setO, argsE, List.getD, binE, binInt, binStr, unE, wantedE, w0, w1, w2, Nat.reduceEqDiff, ↓reduceIte, Nat.reduceAdd, reduceCtorEq, eq_self, decide_true, decide_false, Bool.false_eq_true, Int.reduceBEq, Int.reduceBNe, Int.reduceLT, Int.reduceLE, Int.reduceGE, Int.reduceGT, Int.reduceEq]; exact rfl
         · intro hb; simp only [stepE, evVal, opd, upd, setO, argsE, List.getD, binE, binInt, binStr, unE, wantedE, w0, w1, w2, Nat.reduceEqDiff, ↓reduceIte, Nat.reduceAdd, reduceCtorEq, eq_self, decide_true, decide_false, Bool.false_eq_true, Int.reduceBEq, Int.reduceBNe, Int.reduceLT, Int.reduceLE, Int.reduceGE, Int.reduceGT, Int.reduceEq, hb, hput]; exact rfl))
    have hbl := begin_eq hg hlen
    refine wpOps_nil ⟨_, ⟨rfl, [], rfl, rfl⟩, _, by rw [show oneE [] = EV.tuple [] from rfl, leave_wrote (by simp only; omega)], ⟨by simp [hbl], fun j hj => ?_⟩, by simp only; omega, ⟨.ptr (some ⟨.mem b genB, 0⟩), v, ?_, .inr rfl, ?_⟩, v, ?_⟩
    · simp only
      rw [List.getElem?_set_ne (by omega), hbl]
    · simp [List.getElem?_set, hbl, hlt]
    · cases k with
      | none => exact hk
      | some k =>
        obtain ⟨h1, g, h2, h3, h4⟩ := hk
        refine ⟨h1, g, h2, h3, ?_⟩
        simp only
        rw [List.getElem?_set_ne (by omega), hbl]
        exact h4
    · simp [List.getElem?_set, hbl, hlt]
  · repeat (first
      | (refine wpOps_plain rfl ?_
         simp only [stepE, evVal, opd, upd, setO, argsE, List.getD, binE, binInt, binStr, unE, wantedE, w0, w1, w2, Nat.reduceEqDiff, ↓reduceIte, Nat.reduceAdd, reduceCtorEq, eq_self, decide_true, decide_false, Bool.false_eq_true, Int.reduceBEq, Int.reduceBNe, Int.reduceLT, Int.reduceLE, Int.reduceGE, Int.reduceGT, Int.reduceEq, g0, isNil, Option.isNone_some])
      | (apply wpOps_on
         · simp only [wantedE, upd, setO, w0, w1, ↓reduceIte, Nat.reduceEqDiff, reduceCtorEq, Bool.false_eq_true, Int.reduceBEq, eq_self, decide_true, decide_false])
      | (apply wpOps_off
         · simp only [wantedE, upd, setO, w0, w1, ↓reduceIte, Nat.reduceEqDiff, reduceCtorEq, Bool.false_eq_true, Int.reduceBEq, eq_self, decide_true, decide_false]
         try dsimp only)
      | (apply wpOps_if
         · rfl
         · simp only [stepE, evVal, opd, upd, setO, argsE, List.getD, binE, binInt, binStr, unE, wantedE, w0, w1, w2, Nat.reduceEqDiff, ↓reduceIte, Nat.reduceAdd, reduceCtorEq, eq_self, decide_true, decide_false, Bool.false_eq_true, Int.reduceBEq, Int.reduceBNe, Int.reduceLT, Int.reduceLE, Int.reduceGE, Int.reduceGT, Int.reduceEq]; exact rfl
         · intro hb; simp only [stepE, evVal, opd, upd, setO, argsE, List.getD, binE, binInt, binStr, unE, wantedE, w0, w1, w2, Nat.reduceEqDiff, ↓reduceIte, Nat.reduceAdd, reduceCtorEq, eq_self, decide_true, decide_false, Bool.false_eq_true, Int.reduceBEq, Int.reduceBNe, Int.reduceLT, Int.reduceLE, Int.reduceGE, Int.reduceGT, Int.reduceEq, hb, g0, isNil, Option.isNone_some]; exact rfl))
    refine wpOps_nil (wpC_cond (t := false) (by simp only [stepE, evVal, opd, upd, setO, argsE, List.getD, binE, binInt, binStr, unE, wantedE, w0, w1, w2, Nat.reduceEqDiff, ↓reduceIte, Nat.reduceAdd, reduceCtorEq, eq_self, decide_true, decide_false, Bool.false_eq_true, Int.reduceBEq, Int.reduceBNe, Int.reduceLT, Int.reduceLE, Int.reduceGE, Int.reduceGT, Int.reduceEq]) (fun h => by cases h) (fun _ => ?_))
    refine wpC_seq (wpC_reg ?_)
    repeat (first
      | (refine wpOps_plain rfl ?_
         simp only [stepE, evVal, opd, upd, setO, argsE, List.getD, binE, binInt, binStr, unE, wantedE, w0, w1, w2, Nat.reduceEqDiff, ↓reduceIte, Nat.reduceAdd, reduceCtorEq, eq_self, decide_true, decide_false, Bool.false_eq_true, Int.reduceBEq, Int.reduceBNe, Int.reduceLT, Int.reduceLE, Int.reduceGE, Int.reduceGT, Int.reduceEq, g0])
      | (apply wpOps_on
         · simp only [wantedE, upd, setO, w0, w1, ↓reduceIte, Nat.reduceEqDiff, reduceCtorEq, Bool.false_eq_true, Int.reduceBEq, eq_self, decide_true, decide_false])
      | (apply wpOps_off
         · simp only [wantedE, upd, setO, w0, w1, ↓reduceIte, Nat.reduceEqDiff, reduceCtorEq, Bool.false_eq_true, Int.reduceBEq, eq_self, decide_true, decide_false]
         try dsimp only)
      | (apply wpOps_if
         · rfl
         · simp only [stepE, evVal, opd, upd, setO, argsE, List.getD, binE, binInt, binStr, unE, wantedE, w0, w1, w2, Nat.reduceEqDiff, ↓reduceIte, Nat.reduceAdd, reduceCtorEq, eq_self, decide_true, decide_false, Bool.false_eq_true, Int.reduceBEq, Int.reduceBNe, Int.reduceLT, Int.reduceLE, Int.reduceGE, Int.reduceGT, Int.reduceEq]; exact rfl
         · intro hb; simp only [stepE, evVal, opd, upd, setO, argsE, List.getD, binE, binInt, binStr, unE, wantedE, w0, w1, w2, Nat.reduceEqDiff, ↓reduceIte, Nat.reduceAdd, reduceCtorEq, eq_self, decide_true, decide_false, Bool.false_eq_true, Int.reduceBEq, Int.reduceBNe, Int.reduceLT, Int.reduceLE, Int.reduceGE, Int.reduceGT, Int.reduceEq, hb, g0]; exact rfl))
    refine wpOps_step rfl ?_
    simp only [stepE, evVal, opd, upd, setO, argsE, List.getD, binE, binInt, binStr, unE, wantedE, w0, w1, w2, Nat.reduceEqDiff, ↓reduceIte, Nat.reduceAdd, reduceCtorEq, eq_self, decide_true, decide_false, Bool.false_eq_true, Int.reduceBEq, Int.reduceBNe, Int.reduceLT, Int.reduceLE, Int.reduceGE, Int.reduceGT, Int.reduceEq, hB]
    refine wpOps_nil (wpC_cond (t := false) (by simp only [stepE, evVal, opd, upd, setO, argsE, List.getD, binE, binInt, binStr, unE, wantedE, w0, w1, w2, Nat.reduceEqDiff, ↓reduceIte, Nat.reduceAdd, reduceCtorEq, eq_self, decide_true, decide_false, Bool.false_eq_true, Int.reduceBEq, Int.reduceBNe, Int.reduceLT, Int.reduceLE, Int.reduceGE, Int.reduceGT, Int.reduceEq]) (fun h => by cases h) (fun _ => ?_))
    refine wpC_skip ⟨_, ⟨rfl, [], rfl, rfl⟩, m, by rw [show oneE [] = EV.tuple [] from rfl, leave_keep (show m.bl.length ≤ M.low by omega) rfl], But1.rfl', by omega, ⟨_, v, hb, .inr rfl, hk⟩, v, hb⟩

theorem getN_cells {m : Mem} {k g : Nat} {cs : List EV} {rw : Bool} (h : m.bl[k]? = some (.cells cs g rw)) : m.getN G ⟨.mem k g, 0⟩ cs.length = some cs := by
  unfold Mem.getN
  split
  · rename_i h0
    rw [List.length_eq_zero_iff.1 h0]
  · simp only [Mem.row, h, if_true, Option.bind_some, Nat.zero_add, Nat.le_refl, List.drop_zero, List.take_length]
theorem bytesE_len {s : List UInt8} : (bytesE s).length = s.length := by simp [bytesE]
theorem bytesE_append {s t : List UInt8} : bytesE (s ++ t) = bytesE s ++ bytesE t := by simp [bytesE]

/-- Where a builder's bytes lie after a write. -/
def nextK (m : Mem) : Option Nat → Nat
  | none => m.bl.length
  | some k => k

/-- What a write onto the buffer of a builder does. -/
theorem bld_append (m : Mem) (b : Nat) (k : Option Nat) (s t : List UInt8) (n : Nat) (p v : EV) (hb : m.bl[b]? = some (.cells [p, v] genB true)) (h : match k with
    | none => v = .slice none 0 0 0 ∧ s = []
    | some k => k ≠ b ∧ ∃ g, g < n ∧ v = .slice (some ⟨.mem k (tagB + g), 0⟩) s.length s.length 1 ∧ m.bl[k]? = some (.cells (bytesE s) (tagB + g) true))
    (ht : t ≠ []) (hn : n < 1099511627000) (hs : s.length + t.length ≤ 140737488355328) :
    ∃ g m', appendE G m 1 1 6597069766657 v (bytesE t) t.length = some (.slice (some ⟨.mem (nextK m k) (tagB + g), 0⟩) (s.length + t.length) (s.length + t.length) 1, m') ∧ g < n + 1 ∧ nextK m k ≠ b ∧ m'.bl[nextK m k]? = some (.cells (bytesE (s ++ t)) (tagB + g) true) ∧
      m'.bl[b]? = some (.cells [p, v] genB true) ∧ (∀ j, j < m.bl.length → j ≠ nextK m k → m'.bl[j]? = m.bl[j]?) ∧ m.bl.length ≤ m'.bl.length ∧ (m'.low = m.low ∧ k = none ∨ k ≠ none ∧ m'.low = min m.low (nextK m k)) := by
  have hlt : b < m.bl.length := (List.getElem?_eq_some_iff.1 hb).1
  have htl : t.length ≠ 0 := fun e => ht (List.length_eq_zero_iff.1 e)
  cases k with
  | none =>
    obtain ⟨rfl, rfl⟩ := h
    refine ⟨0, m.push (.cells (bytesE t) tagB true), ?_, by omega, by simp only [nextK]; omega, ?_, ?_, ?_, ?_, ?_⟩
    · simp only [appendE, if_neg htl, List.length_nil, Nat.zero_add]
      rw [if_pos (by simp at hs; omega)]
      rfl
    · simp [nextK, Mem.push]
    · simp only [Mem.push, List.getElem?_append_left hlt, hb]
    · intro j hj _
      simp only [Mem.push, List.getElem?_append_left hj]
    · simp [Mem.push]
    · exact .inl ⟨rfl, rfl⟩
  | some k =>
    obtain ⟨hkb, g, hg, rfl, hk⟩ := h
    have hklt : k < m.bl.length := (List.getElem?_eq_some_iff.1 hk).1
    obtain ⟨t1, t2, t3⟩ := tag_next (n := g) (by omega)
    refine ⟨g + 1, ⟨m.bl.set k (.cells (bytesE s ++ bytesE t) (tagB + g + 1) true), min m.low k⟩, ?_, by omega, hkb, ?_, ?_, ?_, ?_, ?_⟩
    · simp only [appendE, ne_eq, not_true_eq_false, if_false]
      rw [if_neg (by omega), if_pos (by omega)]
      simp only [hk, Nat.mul_one, Nat.zero_add, bytesE_len]
      rw [if_pos ⟨trivial, Nat.le_refl _, t1, .inr ⟨t2, t3, trivial⟩⟩]
      simp only [List.drop_zero, nextK, Option.some.injEq, Prod.mk.injEq]
      refine ⟨rfl, ?_⟩
      rw [← bytesE_len (s := s), List.take_length]
    · simp only [nextK, bytesE_append, List.getElem?_set, if_true, hklt]
      rfl
    · simp only
      rw [List.getElem?_set_ne hkb, hb]
    · intro j hj hjk
      simp only
      rw [List.getElem?_set_ne (show k ≠ j from fun e => hjk e.symm)]
    · simp
    · exact .inr ⟨by simp, rfl⟩

/-- What a write leaves. -/
structure Wrote (m m' : Mem) (b : Nat) (k : Option Nat) (s : List UInt8) (n : Nat) : Prop where
  bld : ∃ k', Bld m' b (some k') s n ∧ (k = some k' ∨ k = none ∧ m.bl.length ≤ k')
  same : ∀ j, j < m.bl.length → j ≠ b → some j ≠ k → m'.bl[j]? = m.bl[j]?
  len : m.bl.length ≤ m'.bl.length
  low : min m.low (min b (k.getD b)) ≤ m'.low

theorem c13 (m : Mem) (b : Nat) (k : Option Nat) (s : List UInt8) (n : Nat) (c : UInt8) (h : Bld m b k s n) (hn : n < 1099511627000) (hs : s.length + 1 ≤ 140737488355328) :
    ∃ r, Go.Ev.Comes T G 13 [.ptr (some ⟨.mem b genB, 0⟩), byteE c] m none r ∧ ∃ m', r = ⟨.val .nilIface, m', none⟩ ∧ Wrote m m' b k (s ++ [c]) (n + 1) := by
  refine comes_ofP T13 rfl fun M hg hlen hlow => ?_
  have hbl := begin_eq hg hlen
  have hM : Bld M b k s n := by
    unfold Bld at h ⊢
    rw [hbl]
    exact h
  refine wpC_seq (wpC_reg ?_)
  repeat (first
    | (refine wpOps_plain rfl ?_
       simp only [stepE, evVal, opd, upd, setO, argsE, List.getD, binE, binInt, binStr, unE, wantedE, w0, w1, w2, Nat.reduceEqDiff, ↓reduceIte, Nat.reduceAdd, reduceCtorEq, eq_self, decide_true, decide_false, Bool.false_eq_true, Int.reduceBEq, Int.reduceBNe, Int.reduceLT, Int.reduceLE, Int.reduceGE, Int.reduceGT, Int.reduceEq])
    | (apply wpOps_on
       · simp only [wantedE, upd, setO, w0, w1, ↓reduceIte, Nat.reduceEqDiff, reduceCtorEq, Bool.false_eq_true, Int.reduceBEq, eq_self, decide_true, decide_false])
    | (apply wpOps_off
       · simp only [wantedE, upd, setO, w0, w1, ↓reduceIte, Nat.reduceEqDiff, reduceCtorEq, Bool.false_eq_true, Int.reduceBEq, eq_self, decide_true, decide_false]
       try dsimp only)
    | (apply wpOps_if
       · rfl
       · simp only [stepE, evVal, opd, upd, setO, argsE, List.getD, binE, binInt, binStr, unE, wantedE, w0, w1, w2, Nat.reduceEqDiff, ↓reduceIte, Nat.reduceAdd, reduceCtorEq, eq_self, decide_true, decide_false, Bool.false_eq_true, Int.reduceBEq, Int.reduceBNe, Int.reduceLT, Int.reduceLE, Int.reduceGE, Int.reduceGT, Int.reduceEq]; exact rfl
       · intro hb; simp only [stepE, evVal, opd, upd, setO, argsE, List.getD, binE, binInt, binStr, unE, wantedE, w0, w1, w2, Nat.reduceEqDiff, ↓reduceIte, Nat.reduceAdd, reduceCtorEq, eq_self, decide_true, decide_false, Bool.false_eq_true, Int.reduceBEq, Int.reduceBNe, Int.reduceLT, Int.reduceLE, Int.reduceGE, Int.reduceGT, Int.reduceEq, hb]; exact rfl))
  refine wpOps_nil (wpC_seq (wpC_reg ?_))
  repeat (first
    | (refine wpOps_plain rfl ?_
       simp only [stepE, evVal, opd, upd, setO, argsE, List.getD, binE, binInt, binStr, unE, wantedE, w0, w1, w2, Nat.reduceEqDiff, ↓reduceIte, Nat.reduceAdd, reduceCtorEq, eq_self, decide_true, decide_false, Bool.false_eq_true, Int.reduceBEq, Int.reduceBNe, Int.reduceLT, Int.reduceLE, Int.reduceGE, Int.reduceGT, Int.reduceEq])
    | (apply wpOps_on
       · simp only [wantedE, upd, setO, w0, w1, ↓reduceIte, Nat.reduceEqDiff, reduceCtorEq, Bool.false_eq_true, Int.reduceBEq, eq_self, decide_true, decide_false])
    | (apply wpOps_off
       · simp only [wantedE, upd, setO, w0, w1, ↓reduceIte, Nat.reduceEqDiff, reduceCtorEq, Bool.false_eq_true, Int.reduceBEq, eq_self, decide_true, decide_false]
       try dsimp only)
    | (apply wpOps_if
       · rfl
       · simp only [stepE, evVal, opd, upd, setO, argsE, List.getD, binE, binInt, binStr, unE, wantedE, w0, w1, w2, Nat.reduceEqDiff, ↓reduceIte, Nat.reduceAdd, reduceCtorEq, eq_self, decide_true, decide_false, Bool.false_eq_true, Int.reduceBEq, Int.reduceBNe, Int.reduceLT, Int.reduceLE, Int.reduceGE, Int.reduceGT, Int.reduceEq]; exact rfl
       · intro hb; simp only [stepE, evVal, opd, upd, setO, argsE, List.getD, binE, binInt, binStr, unE, wantedE, w0, w1, w2, Nat.reduceEqDiff, ↓reduceIte, Nat.reduceAdd, reduceCtorEq, eq_self, decide_true, decide_false, Bool.false_eq_true, Int.reduceBEq, Int.reduceBNe, Int.reduceLT, Int.reduceLE, Int.reduceGE, Int.reduceGT, Int.reduceEq, hb]; exact rfl))
  obtain ⟨_, hc, M1, rfl, hB1, hl1, hD1, v1, hv1⟩ := c36 (G := G) M b k s n hM
  apply wpOps_call
  · first | rfl | (simp only [stepE, evVal, opd, upd, setO, argsE, List.getD, binE, binInt, binStr, unE, wantedE, w0, w1, w2, Nat.reduceEqDiff, ↓reduceIte, Nat.reduceAdd, reduceCtorEq, eq_self, decide_true, decide_false, Bool.false_eq_true, Int.reduceBEq, Int.reduceBNe, Int.reduceLT, Int.reduceLE, Int.reduceGE, Int.reduceGT, Int.reduceEq]; exact rfl)
  · (try simp only [stepE, evVal, opd, upd, setO, argsE, List.getD, binE, binInt, binStr, unE, wantedE, w0, w1, w2, Nat.reduceEqDiff, ↓reduceIte, Nat.reduceAdd, reduceCtorEq, eq_self, decide_true, decide_false, Bool.false_eq_true, Int.reduceBEq, Int.reduceBNe, Int.reduceLT, Int.reduceLE, Int.reduceGE, Int.reduceGT, Int.reduceEq]); exact (hc)
  simp only [stepE, evVal, opd, upd, setO, argsE, List.getD, binE, binInt, binStr, unE, wantedE, w0, w1, w2, Nat.reduceEqDiff, ↓reduceIte, Nat.reduceAdd, reduceCtorEq, eq_self, decide_true, decide_false, Bool.false_eq_true, Int.reduceBEq, Int.reduceBNe, Int.reduceLT, Int.reduceLE, Int.reduceGE, Int.reduceGT, Int.reduceEq]
  obtain ⟨p, v, hb, hp, hk⟩ := hD1
  rw [hb] at hv1
  cases hv1
  have hlt : b < M1.bl.length := (List.getElem?_eq_some_iff.1 hb).1
  have g1 := row2_get (G := G) (i := 1) hb rfl
  refine wpOps_nil (wpC_seq (wpC_reg ?_))
  repeat (first
    | (refine wpOps_plain rfl ?_
       simp only [stepE, evVal, opd, upd, setO, argsE, List.getD, binE, binInt, binStr, unE, wantedE, w0, w1, w2, Nat.reduceEqDiff, ↓reduceIte, Nat.reduceAdd, reduceCtorEq, eq_self, decide_true, decide_false, Bool.false_eq_true, Int.reduceBEq, Int.reduceBNe, Int.reduceLT, Int.reduceLE, Int.reduceGE, Int.reduceGT, Int.reduceEq, g1])
    | (apply wpOps_on
       · simp only [wantedE, upd, setO, w0, w1, ↓reduceIte, Nat.reduceEqDiff, reduceCtorEq, Bool.false_eq_true, Int.reduceBEq, eq_self, decide_true, decide_false])
    | (apply wpOps_off
       · simp only [wantedE, upd, setO, w0, w1, ↓reduceIte, Nat.reduceEqDiff, reduceCtorEq, Bool.false_eq_true, Int.reduceBEq, eq_self, decide_true, decide_false]
       try dsimp only)
    | (apply wpOps_if
       · rfl
       · simp only [stepE, evVal, opd, upd, setO, argsE, List.getD, binE, binInt, binStr, unE, wantedE, w0, w1, w2, Nat.reduceEqDiff, ↓reduceIte, Nat.reduceAdd, reduceCtorEq, eq_self, decide_true, decide_false, Bool.false_eq_true, Int.reduceBEq, Int.reduceBNe, Int.reduceLT, Int.reduceLE, Int.reduceGE, Int.reduceGT, Int.reduceEq]; exact rfl
       · intro hb; simp only [stepE, evVal, opd, upd, setO, argsE, List.getD, binE, binInt, binStr, unE, wantedE, w0, w1, w2, Nat.reduceEqDiff, ↓reduceIte, Nat.reduceAdd, reduceCtorEq, eq_self, decide_true, decide_false, Bool.false_eq_true, Int.reduceBEq, Int.reduceBNe, Int.reduceLT, Int.reduceLE, Int.reduceGE, Int.reduceGT, Int.reduceEq, hb, g1]; exact rfl))
  apply wpOps_mklit (cs := [byteE c])
  · rfl
  intro M2 e2
  have hk1 := hB1.1
  have hsame2 : ∀ j, j < M1.bl.length → M2.bl[j]? = M1.bl[j]? := by
    intro j hj
    subst e2
    simp only [Mem.push, List.getElem?_append_left hj]
  have len2 : M2.bl.length = M1.bl.length + 1 := by subst e2; simp [Mem.push]
  have low2 : M2.low = M1.low := by subst e2; rfl
  have hb2 : M2.bl[b]? = some (.cells [.ptr (some ⟨.mem b genB, 0⟩), v1] genB true) := by rw [hsame2 b hlt, hb]
  obtain ⟨g, M3, ha, hgn, hkb, hck, hbb, hsm, hln, hlw⟩ := bld_append (G := G) M2 b k s [c] n _ v1 hb2 (by
    cases k with
    | none => exact hk
    | some k =>
      obtain ⟨h1, g, h2, h3, h4⟩ := hk
      exact ⟨h1, g, h2, h3, by rw [hsame2 k (List.getElem?_eq_some_iff.1 h4).1]; exact h4⟩) (by simp) hn (by simpa using hs)
  refine wpOps_append (by simp only [stepE, evVal, opd, upd, setO, argsE, List.getD, binE, binInt, binStr, unE, wantedE, w0, w1, w2, Nat.reduceEqDiff, ↓reduceIte, Nat.reduceAdd, reduceCtorEq, eq_self, decide_true, decide_false, Bool.false_eq_true, Int.reduceBEq, Int.reduceBNe, Int.reduceLT, Int.reduceLE, Int.reduceGE, Int.reduceGT, Int.reduceEq]; exact src_lit e2 rfl) (by simp only [stepE, evVal, opd, upd, setO, argsE, List.getD, binE, binInt, binStr, unE, wantedE, w0, w1, w2, Nat.reduceEqDiff, ↓reduceIte, Nat.reduceAdd, reduceCtorEq, eq_self, decide_true, decide_false, Bool.false_eq_true, Int.reduceBEq, Int.reduceBNe, Int.reduceLT, Int.reduceLE, Int.reduceGE, Int.reduceGT, Int.reduceEq]; exact ha) ?_
  have hput := row2_put (x := .slice (some ⟨.mem (nextK M2 k) (tagB + g), 0⟩) (s.length + [c].length) (s.length + [c].length) 1) (i := 1) hbb (by omega)
  repeat (first
    | (refine wpOps_plain rfl ?_
       simp only [stepE, evVal, opd, upd, setO, argsE, List.getD, binE, binInt, binStr, unE, wantedE, w0, w1, w2, Nat.reduceEqDiff, ↓reduceIte, Nat.reduceAdd, reduceCtorEq, eq_self, decide_true, decide_false, Bool.false_eq_true, Int.reduceBEq, Int.reduceBNe, Int.reduceLT, Int.reduceLE, Int.reduceGE, Int.reduceGT, Int.reduceEq, hput])
    | (apply wpOps_on
       · simp only [wantedE, upd, setO, w0, w1, ↓reduceIte, Nat.reduceEqDiff, reduceCtorEq, Bool.false_eq_true, Int.reduceBEq, eq_self, decide_true, decide_false])
    | (apply wpOps_off
       · simp only [wantedE, upd, setO, w0, w1, ↓reduceIte, Nat.reduceEqDiff, reduceCtorEq, Bool.false_eq_true, Int.reduceBEq, eq_self, decide_true, decide_false]
       try dsimp only)
    | (apply wpOps_if
       · rfl
       · simp only [stepE, evVal, opd, upd, setO, argsE, List.getD, binE, binInt, binStr, unE, wantedE, w0, w1, w2, Nat.reduceEqDiff, ↓reduceIte, Nat.reduceAdd, reduceCtorEq, eq_self, decide_true, decide_false, Bool.false_eq_true, Int.reduceBEq, Int.reduceBNe, Int.reduceLT, Int.reduceLE, Int.reduceGE, Int.reduceGT, Int.reduceEq]; exact rfl
       · intro hb; simp only [stepE, evVal, opd, upd, setO, argsE, List.getD, binE, binInt, binStr, unE, wantedE, w0, w1, w2, Nat.reduceEqDiff, ↓reduceIte, Nat.reduceAdd, reduceCtorEq, eq_self, decide_true, decide_false, Bool.false_eq_true, Int.reduceBEq, Int.reduceBNe, Int.reduceLT, Int.reduceLE, Int.reduceGE, Int.reduceGT, Int.reduceEq, hb, hput]; exact rfl))
  refine wpOps_nil (wpC_seq (wpC_reg ?_))
  repeat (first
    | (refine wpOps_plain rfl ?_
       simp only [stepE, evVal, opd, upd, setO, argsE, List.getD, binE, binInt, binStr, unE, wantedE, w0, w1, w2, Nat.reduceEqDiff, ↓reduceIte, Nat.reduceAdd, reduceCtorEq, eq_self, decide_true, decide_false, Bool.false_eq_true, Int.reduceBEq, Int.reduceBNe, Int.reduceLT, Int.reduceLE, Int.reduceGE, Int.reduceGT, Int.reduceEq])
    | (apply wpOps_on
       · simp only [wantedE, upd, setO, w0, w1, ↓reduceIte, Nat.reduceEqDiff, reduceCtorEq, Bool.false_eq_true, Int.reduceBEq, eq_self, decide_true, decide_false])
    | (apply wpOps_off
       · simp only [wantedE, upd, setO, w0, w1, ↓reduceIte, Nat.reduceEqDiff, reduceCtorEq, Bool.false_eq_true, Int.reduceBEq, eq_self, decide_true, decide_false]
       try dsimp only)
    | (apply wpOps_if
       · rfl
       · simp only [stepE, evVal, opd, upd, setO, argsE, List.getD, binE, binInt, binStr, unE, wantedE, w0, w1, w2, Nat.reduceEqDiff, ↓reduceIte, Nat.reduceAdd, reduceCtorEq, eq_self, decide_true, decide_false, Bool.false_eq_true, Int.reduceBEq, Int.reduceBNe, Int.reduceLT, Int.reduceLE, Int.reduceGE, Int.reduceGT, Int.reduceEq]; exact rfl
       · intro hb; simp only [stepE, evVal, opd, upd, setO, argsE, List.getD, binE, binInt, binStr, unE, wantedE, w0, w1, w2, Nat.reduceEqDiff, ↓reduceIte, Nat.reduceAdd, reduceCtorEq, eq_self, decide_true, decide_false, Bool.false_eq_true, Int.reduceBEq, Int.reduceBNe, Int.reduceLT, Int.reduceLE, Int.reduceGE, Int.reduceGT, Int.reduceEq, hb]; exact rfl))
  have hltm : b < m.bl.length := by rw [← hbl]; have := hB1.1; omega
  have hm1 : M1.bl.length = m.bl.length := by rw [hB1.1, hlen]
  refine wpOps_nil (wpC_ret ⟨_, ⟨rfl, [.nilIface], ?_, rfl⟩, _, by rw [show oneE [EV.nilIface] = EV.nilIface from rfl, leave_wrote (show min M3.low b < m.bl.length by omega)], ⟨nextK M2 k, ⟨.ptr (some ⟨.mem b genB, 0⟩), .slice (some ⟨.mem (nextK M2 k) (tagB + g), 0⟩) (s.length + [c].length) (s.length + [c].length) 1, ?_, .inr rfl, ?_⟩, ?_⟩, ?_, ?_, ?_⟩)
  · simp only [F13, resultsE, resE, upd, ↓reduceIte]
  · simp only [List.getElem?_set, if_true, show b < M3.bl.length by omega]
    rfl
  · refine ⟨hkb, g, hgn, ?_, ?_⟩
    · simp
    · simp only
      rw [List.getElem?_set_ne (show b ≠ nextK M2 k from fun e => hkb e.symm)]
      exact hck
  · cases k with
    | none => exact .inr ⟨rfl, by simp only [nextK]; omega⟩
    | some k => exact .inl rfl
  · intro j hj hjb hjk
    simp only
    rw [List.getElem?_set_ne (show b ≠ j from fun e => hjb e.symm), hsm j (by omega) (by
      cases k with
      | none => simp only [nextK]; omega
      | some k => simp only [nextK]; exact fun e => hjk (by rw [e])), hsame2 j (by omega), hB1.2 j hjb, hbl]
  · simp only [List.length_set]; omega
  · simp only
    rcases hlw with ⟨h1, h2⟩ | ⟨h1, h2⟩
    · subst h2
      simp only [Option.getD_none]
      omega
    · cases k with
      | none => exact absurd rfl h1
      | some k =>
        simp only [nextK] at h2
        simp only [Option.getD_some]
        have := (List.getElem?_eq_some_iff.1 hck).1
        omega
end Go.Proofs.YtjomofcdanpdgabGreatDoor.paramCarried
