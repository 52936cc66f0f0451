/- A part of the proof of the statement that this claim hands in: what single functions come to. There are no conditions. -/
import Derived.Test.YtjomofcdanpdgabGreatDoorPcY
import Derived.Test.YtjomofcdanpdgabGreatDoorPcW
set_option linter.unusedSectionVars false
set_option linter.unusedVariables false
set_option linter.unusedSimpArgs false
namespace Go.Proofs.YtjomofcdanpdgabGreatDoor.paramCarried
open Go.Ev hiding Comes

theorem same2 (a b : Int) : eqCells [2, 2] [.int .i64 a, .int .i64 b] [.int .i64 a, .int .i64 b] = some true := by simp [eqCells, eqCell]

theorem law (m : Mem) (s : List UInt8) (hN : s.length ≤ 1048576) : Go.Ev.Comes T G 3 [.str s] m none ⟨.val (.bool true), m, none⟩ := by
  have hx3 := xtS_len s
  have hx1 := xtS_low s
  refine comes_ofM T3 rfl fun M hg hlen hlow => ?_
  refine wpC_seq (wpC_reg ?_)
  repeat (first
    | (refine wpOps_plain rfl ?_
       simp only [stepE, evVal, opd, upd, setO, argsE, List.getD, binE, binInt, binStr, unE, wantedE, w0, w1, w2, Nat.reduceEqDiff, ↓reduceIte, Nat.reduceAdd, reduceCtorEq, eq_self, decide_true, decide_false, Bool.false_eq_true, Int.reduceBEq, Int.reduceBNe, Int.reduceLT, Int.reduceLE, Int.reduceGE, Int.reduceGT, Int.reduceEq])
    | (apply wpOps_on
       · simp only [wantedE, upd, setO, w0, w1, ↓reduceIte, Nat.reduceEqDiff, reduceCtorEq, Bool.false_eq_true, Int.reduceBEq, eq_self, decide_true, decide_false])
    | (apply wpOps_off
       · simp only [wantedE, upd, setO, w0, w1, ↓reduceIte, Nat.reduceEqDiff, reduceCtorEq, Bool.false_eq_true, Int.reduceBEq, eq_self, decide_true, decide_false]
       try dsimp only)
    | (apply wpOps_if
       · rfl
       · simp only [stepE, evVal, opd, upd, setO, argsE, List.getD, binE, binInt, binStr, unE, wantedE, w0, w1, w2, Nat.reduceEqDiff, ↓reduceIte, Nat.reduceAdd, reduceCtorEq, eq_self, decide_true, decide_false, Bool.false_eq_true, Int.reduceBEq, Int.reduceBNe, Int.reduceLT, Int.reduceLE, Int.reduceGE, Int.reduceGT, Int.reduceEq]; exact rfl
       · intro hb; simp only [stepE, evVal, opd, upd, setO, argsE, List.getD, binE, binInt, binStr, unE, wantedE, w0, w1, w2, Nat.reduceEqDiff, ↓reduceIte, Nat.reduceAdd, reduceCtorEq, eq_self, decide_true, decide_false, Bool.false_eq_true, Int.reduceBEq, Int.reduceBNe, Int.reduceLT, Int.reduceLE, Int.reduceGE, Int.reduceGT, Int.reduceEq, hb]; exact rfl))
  refine wpOps_nil (wpC_seq (wpC_seq (wpC_reg ?_)))
  apply wpOps_call
  · first | rfl | (simp only [stepE, evVal, opd, upd, setO, argsE, List.getD, binE, binInt, binStr, unE, wantedE, w0, w1, w2, Nat.reduceEqDiff, ↓reduceIte, Nat.reduceAdd, reduceCtorEq, eq_self, decide_true, decide_false, Bool.false_eq_true, Int.reduceBEq, Int.reduceBNe, Int.reduceLT, Int.reduceLE, Int.reduceGE, Int.reduceGT, Int.reduceEq]; exact rfl)
  · (try simp only [stepE, evVal, opd, upd, setO, argsE, List.getD, binE, binInt, binStr, unE, wantedE, w0, w1, w2, Nat.reduceEqDiff, ↓reduceIte, Nat.reduceAdd, reduceCtorEq, eq_self, decide_true, decide_false, Bool.false_eq_true, Int.reduceBEq, Int.reduceBNe, Int.reduceLT, Int.reduceLE, Int.reduceGE, Int.reduceGT, Int.reduceEq]); exact (c4 M)
  simp only [stepE, evVal, opd, upd, setO, argsE, List.getD, binE, binInt, binStr, unE, wantedE, w0, w1, w2, Nat.reduceEqDiff, ↓reduceIte, Nat.reduceAdd, reduceCtorEq, eq_self, decide_true, decide_false, Bool.false_eq_true, Int.reduceBEq, Int.reduceBNe, Int.reduceLT, Int.reduceLE, Int.reduceGE, Int.reduceGT, Int.reduceEq]
  repeat (first
    | (refine wpOps_plain rfl ?_
       simp only [stepE, evVal, opd, upd, setO, argsE, List.getD, binE, binInt, binStr, unE, wantedE, w0, w1, w2, Nat.reduceEqDiff, ↓reduceIte, Nat.reduceAdd, reduceCtorEq, eq_self, decide_true, decide_false, Bool.false_eq_true, Int.reduceBEq, Int.reduceBNe, Int.reduceLT, Int.reduceLE, Int.reduceGE, Int.reduceGT, Int.reduceEq])
    | (apply wpOps_on
       · simp only [wantedE, upd, setO, w0, w1, ↓reduceIte, Nat.reduceEqDiff, reduceCtorEq, Bool.false_eq_true, Int.reduceBEq, eq_self, decide_true, decide_false])
    | (apply wpOps_off
       · simp only [wantedE, upd, setO, w0, w1, ↓reduceIte, Nat.reduceEqDiff, reduceCtorEq, Bool.false_eq_true, Int.reduceBEq, eq_self, decide_true, decide_false]
       try dsimp only)
    | (apply wpOps_if
       · rfl
       · simp only [stepE, evVal, opd, upd, setO, argsE, List.getD, binE, binInt, binStr, unE, wantedE, w0, w1, w2, Nat.reduceEqDiff, ↓reduceIte, Nat.reduceAdd, reduceCtorEq, eq_self, decide_true, decide_false, Bool.false_eq_true, Int.reduceBEq, Int.reduceBNe, Int.reduceLT, Int.reduceLE, Int.reduceGE, Int.reduceGT, Int.reduceEq]; exact rfl
       · intro hb; simp only [stepE, evVal, opd, upd, setO, argsE, List.getD, binE, binInt, binStr, unE, wantedE, w0, w1, w2, Nat.reduceEqDiff, ↓reduceIte, Nat.reduceAdd, reduceCtorEq, eq_self, decide_true, decide_false, Bool.false_eq_true, Int.reduceBEq, Int.reduceBNe, Int.reduceLT, Int.reduceLE, Int.reduceGE, Int.reduceGT, Int.reduceEq, hb]; exact rfl))
  refine wpOps_nil (wpC_cond (t := false) (by simp only [stepE, evVal, opd, upd, setO, argsE, List.getD, binE, binInt, binStr, unE, wantedE, w0, w1, w2, Nat.reduceEqDiff, ↓reduceIte, Nat.reduceAdd, reduceCtorEq, eq_self, decide_true, decide_false, Bool.false_eq_true, Int.reduceBEq, Int.reduceBNe, Int.reduceLT, Int.reduceLE, Int.reduceGE, Int.reduceGT, Int.reduceEq]) (fun h => by cases h) (fun _ => ?_))
  refine wpC_skip ?_
  simp only [thenE]
  refine wpC_seq (wpC_reg ?_)
  repeat (first
    | (refine wpOps_plain rfl ?_
       simp only [stepE, evVal, opd, upd, setO, argsE, List.getD, binE, binInt, binStr, unE, wantedE, w0, w1, w2, Nat.reduceEqDiff, ↓reduceIte, Nat.reduceAdd, reduceCtorEq, eq_self, decide_true, decide_false, Bool.false_eq_true, Int.reduceBEq, Int.reduceBNe, Int.reduceLT, Int.reduceLE, Int.reduceGE, Int.reduceGT, Int.reduceEq])
    | (apply wpOps_on
       · simp only [wantedE, upd, setO, w0, w1, ↓reduceIte, Nat.reduceEqDiff, reduceCtorEq, Bool.false_eq_true, Int.reduceBEq, eq_self, decide_true, decide_false])
    | (apply wpOps_off
       · simp only [wantedE, upd, setO, w0, w1, ↓reduceIte, Nat.reduceEqDiff, reduceCtorEq, Bool.false_eq_true, Int.reduceBEq, eq_self, decide_true, decide_false]
       try dsimp only)
    | (apply wpOps_if
       · rfl
       · simp only [stepE, evVal, opd, upd, setO, argsE, List.getD, binE, binInt, binStr, unE, wantedE, w0, w1, w2, Nat.reduceEqDiff, ↓reduceIte, Nat.reduceAdd, reduceCtorEq, eq_self, decide_true, decide_false, Bool.false_eq_true, Int.reduceBEq, Int.reduceBNe, Int.reduceLT, Int.reduceLE, Int.reduceGE, Int.reduceGT, Int.reduceEq]; exact rfl
       · intro hb; simp only [stepE, evVal, opd, upd, setO, argsE, List.getD, binE, binInt, binStr, unE, wantedE, w0, w1, w2, Nat.reduceEqDiff, ↓reduceIte, Nat.reduceAdd, reduceCtorEq, eq_self, decide_true, decide_false, Bool.false_eq_true, Int.reduceBEq, Int.reduceBNe, Int.reduceLT, Int.reduceLE, Int.reduceGE, Int.reduceGT, Int.reduceEq, hb]; exact rfl))
  apply wpOps_call
  · first | rfl | (simp only [stepE, evVal, opd, upd, setO, argsE, List.getD, binE, binInt, binStr, unE, wantedE, w0, w1, w2, Nat.reduceEqDiff, ↓reduceIte, Nat.reduceAdd, reduceCtorEq, eq_self, decide_true, decide_false, Bool.false_eq_true, Int.reduceBEq, Int.reduceBNe, Int.reduceLT, Int.reduceLE, Int.reduceGE, Int.reduceGT, Int.reduceEq]; exact rfl)
  · (try simp only [stepE, evVal, opd, upd, setO, argsE, List.getD, binE, binInt, binStr, unE, wantedE, w0, w1, w2, Nat.reduceEqDiff, ↓reduceIte, Nat.reduceAdd, reduceCtorEq, eq_self, decide_true, decide_false, Bool.false_eq_true, Int.reduceBEq, Int.reduceBNe, Int.reduceLT, Int.reduceLE, Int.reduceGE, Int.reduceGT, Int.reduceEq]); exact (c5 M s (by omega))
  simp only [stepE, evVal, opd, upd, setO, argsE, List.getD, binE, binInt, binStr, unE, wantedE, w0, w1, w2, Nat.reduceEqDiff, ↓reduceIte, Nat.reduceAdd, reduceCtorEq, eq_self, decide_true, decide_false, Bool.false_eq_true, Int.reduceBEq, Int.reduceBNe, Int.reduceLT, Int.reduceLE, Int.reduceGE, Int.reduceGT, Int.reduceEq]
  repeat (first
    | (refine wpOps_plain rfl ?_
       simp only [stepE, evVal, opd, upd, setO, argsE, List.getD, binE, binInt, binStr, unE, wantedE, w0, w1, w2, Nat.reduceEqDiff, ↓reduceIte, Nat.reduceAdd, reduceCtorEq, eq_self, decide_true, decide_false, Bool.false_eq_true, Int.reduceBEq, Int.reduceBNe, Int.reduceLT, Int.reduceLE, Int.reduceGE, Int.reduceGT, Int.reduceEq])
    | (apply wpOps_on
       · simp only [wantedE, upd, setO, w0, w1, ↓reduceIte, Nat.reduceEqDiff, reduceCtorEq, Bool.false_eq_true, Int.reduceBEq, eq_self, decide_true, decide_false])
    | (apply wpOps_off
       · simp only [wantedE, upd, setO, w0, w1, ↓reduceIte, Nat.reduceEqDiff, reduceCtorEq, Bool.false_eq_true, Int.reduceBEq, eq_self, decide_true, decide_false]
       try dsimp only)
    | (apply wpOps_if
       · rfl
       · simp only [stepE, evVal, opd, upd, setO, argsE, List.getD, binE, binInt, binStr, unE, wantedE, w0, w1, w2, Nat.reduceEqDiff, ↓reduceIte, Nat.reduceAdd, reduceCtorEq, eq_self, decide_true, decide_false, Bool.false_eq_true, Int.reduceBEq, Int.reduceBNe, Int.reduceLT, Int.reduceLE, Int.reduceGE, Int.reduceGT, Int.reduceEq]; exact rfl
       · intro hb; simp only [stepE, evVal, opd, upd, setO, argsE, List.getD, binE, binInt, binStr, unE, wantedE, w0, w1, w2, Nat.reduceEqDiff, ↓reduceIte, Nat.reduceAdd, reduceCtorEq, eq_self, decide_true, decide_false, Bool.false_eq_true, Int.reduceBEq, Int.reduceBNe, Int.reduceLT, Int.reduceLE, Int.reduceGE, Int.reduceGT, Int.reduceEq, hb]; exact rfl))
  refine wpOps_nil (wpC_seq (wpC_reg ?_))
  repeat (first
    | (refine wpOps_plain rfl ?_
       simp only [stepE, evVal, opd, upd, setO, argsE, List.getD, binE, binInt, binStr, unE, wantedE, w0, w1, w2, Nat.reduceEqDiff, ↓reduceIte, Nat.reduceAdd, reduceCtorEq, eq_self, decide_true, decide_false, Bool.false_eq_true, Int.reduceBEq, Int.reduceBNe, Int.reduceLT, Int.reduceLE, Int.reduceGE, Int.reduceGT, Int.reduceEq])
    | (apply wpOps_on
       · simp only [wantedE, upd, setO, w0, w1, ↓reduceIte, Nat.reduceEqDiff, reduceCtorEq, Bool.false_eq_true, Int.reduceBEq, eq_self, decide_true, decide_false])
    | (apply wpOps_off
       · simp only [wantedE, upd, setO, w0, w1, ↓reduceIte, Nat.reduceEqDiff, reduceCtorEq, Bool.false_eq_true, Int.reduceBEq, eq_self, decide_true, decide_false]
       try dsimp only)
    | (apply wpOps_if
       · rfl
       · simp only [stepE, evVal, opd, upd, setO, argsE, List.getD, binE, binInt, binStr, unE, wantedE, w0, w1, w2, Nat.reduceEqDiff, ↓reduceIte, Nat.reduceAdd, reduceCtorEq, eq_self, decide_true, decide_false, Bool.false_eq_true, Int.reduceBEq, Int.reduceBNe, Int.reduceLT, Int.reduceLE, Int.reduceGE, Int.reduceGT, Int.reduceEq]; exact rfl
       · intro hb; simp only [stepE, evVal, opd, upd, setO, argsE, List.getD, binE, binInt, binStr, unE, wantedE, w0, w1, w2, Nat.reduceEqDiff, ↓reduceIte, Nat.reduceAdd, reduceCtorEq, eq_self, decide_true, decide_false, Bool.false_eq_true, Int.reduceBEq, Int.reduceBNe, Int.reduceLT, Int.reduceLE, Int.reduceGE, Int.reduceGT, Int.reduceEq, hb]; exact rfl))
  have hc6 := c6 M (xtS s) (by omega)
  rw [unx_xt s _ (by omega)] at hc6
  apply wpOps_call
  · first | rfl | (simp only [stepE, evVal, opd, upd, setO, argsE, List.getD, binE, binInt, binStr, unE, wantedE, w0, w1, w2, Nat.reduceEqDiff, ↓reduceIte, Nat.reduceAdd, reduceCtorEq, eq_self, decide_true, decide_false, Bool.false_eq_true, Int.reduceBEq, Int.reduceBNe, Int.reduceLT, Int.reduceLE, Int.reduceGE, Int.reduceGT, Int.reduceEq]; exact rfl)
  · (try simp only [stepE, evVal, opd, upd, setO, argsE, List.getD, binE, binInt, binStr, unE, wantedE, w0, w1, w2, Nat.reduceEqDiff, ↓reduceIte, Nat.reduceAdd, reduceCtorEq, eq_self, decide_true, decide_false, Bool.false_eq_true, Int.reduceBEq, Int.reduceBNe, Int.reduceLT, Int.reduceLE, Int.reduceGE, Int.reduceGT, Int.reduceEq]); exact (hc6)
  simp only [stepE, evVal, opd, upd, setO, argsE, List.getD, binE, binInt, binStr, unE, wantedE, w0, w1, w2, Nat.reduceEqDiff, ↓reduceIte, Nat.reduceAdd, reduceCtorEq, eq_self, decide_true, decide_false, Bool.false_eq_true, Int.reduceBEq, Int.reduceBNe, Int.reduceLT, Int.reduceLE, Int.reduceGE, Int.reduceGT, Int.reduceEq]
  repeat (first
    | (refine wpOps_plain rfl ?_
       simp only [stepE, evVal, opd, upd, setO, argsE, List.getD, binE, binInt, binStr, unE, wantedE, w0, w1, w2, Nat.reduceEqDiff, ↓reduceIte, Nat.reduceAdd, reduceCtorEq, eq_self, decide_true, decide_false, Bool.false_eq_true, Int.reduceBEq, Int.reduceBNe, Int.reduceLT, Int.reduceLE, Int.reduceGE, Int.reduceGT, Int.reduceEq, resU])
    | (apply wpOps_on
       · simp only [wantedE, upd, setO, w0, w1, ↓reduceIte, Nat.reduceEqDiff, reduceCtorEq, Bool.false_eq_true, Int.reduceBEq, eq_self, decide_true, decide_false])
    | (apply wpOps_off
       · simp only [wantedE, upd, setO, w0, w1, ↓reduceIte, Nat.reduceEqDiff, reduceCtorEq, Bool.false_eq_true, Int.reduceBEq, eq_self, decide_true, decide_false]
       try dsimp only)
    | (apply wpOps_if
       · rfl
       · simp only [stepE, evVal, opd, upd, setO, argsE, List.getD, binE, binInt, binStr, unE, wantedE, w0, w1, w2, Nat.reduceEqDiff, ↓reduceIte, Nat.reduceAdd, reduceCtorEq, eq_self, decide_true, decide_false, Bool.false_eq_true, Int.reduceBEq, Int.reduceBNe, Int.reduceLT, Int.reduceLE, Int.reduceGE, Int.reduceGT, Int.reduceEq]; exact rfl
       · intro hb; simp only [stepE, evVal, opd, upd, setO, argsE, List.getD, binE, binInt, binStr, unE, wantedE, w0, w1, w2, Nat.reduceEqDiff, ↓reduceIte, Nat.reduceAdd, reduceCtorEq, eq_self, decide_true, decide_false, Bool.false_eq_true, Int.reduceBEq, Int.reduceBNe, Int.reduceLT, Int.reduceLE, Int.reduceGE, Int.reduceGT, Int.reduceEq, hb, resU]; exact rfl))
  refine wpOps_new fun M1 e1 => ?_
  obtain ⟨M2, p2, g2, r2, L2, w2⟩ := put_new e1 (cs := [.int .i64 0, .int .i64 0]) rfl
  repeat (first
    | (refine wpOps_plain rfl ?_
       simp only [stepE, evVal, opd, upd, setO, argsE, List.getD, binE, binInt, binStr, unE, wantedE, w0, w1, w2, Nat.reduceEqDiff, ↓reduceIte, Nat.reduceAdd, reduceCtorEq, eq_self, decide_true, decide_false, Bool.false_eq_true, Int.reduceBEq, Int.reduceBNe, Int.reduceLT, Int.reduceLE, Int.reduceGE, Int.reduceGT, Int.reduceEq, p2])
    | (apply wpOps_on
       · simp only [wantedE, upd, setO, w0, w1, ↓reduceIte, Nat.reduceEqDiff, reduceCtorEq, Bool.false_eq_true, Int.reduceBEq, eq_self, decide_true, decide_false])
    | (apply wpOps_off
       · simp only [wantedE, upd, setO, w0, w1, ↓reduceIte, Nat.reduceEqDiff, reduceCtorEq, Bool.false_eq_true, Int.reduceBEq, eq_self, decide_true, decide_false]
       try dsimp only)
    | (apply wpOps_if
       · rfl
       · simp only [stepE, evVal, opd, upd, setO, argsE, List.getD, binE, binInt, binStr, unE, wantedE, w0, w1, w2, Nat.reduceEqDiff, ↓reduceIte, Nat.reduceAdd, reduceCtorEq, eq_self, decide_true, decide_false, Bool.false_eq_true, Int.reduceBEq, Int.reduceBNe, Int.reduceLT, Int.reduceLE, Int.reduceGE, Int.reduceGT, Int.reduceEq]; exact rfl
       · intro hb; simp only [stepE, evVal, opd, upd, setO, argsE, List.getD, binE, binInt, binStr, unE, wantedE, w0, w1, w2, Nat.reduceEqDiff, ↓reduceIte, Nat.reduceAdd, reduceCtorEq, eq_self, decide_true, decide_false, Bool.false_eq_true, Int.reduceBEq, Int.reduceBNe, Int.reduceLT, Int.reduceLE, Int.reduceGE, Int.reduceGT, Int.reduceEq, hb, p2]; exact rfl))
  refine wpOps_nil (wpC_seq (wpC_seq (wpC_reg ?_)))
  have d2 := getN_row (G := G) r2 (sub_all (n := 2) rfl)
  have hw3 : IntKind.i64.wrap (3 * (s.length : Int)) = ((3 * s.length : Nat) : Int) := wrap_ok (by omega) (by omega)
  have k1 : (((xtS s).length : Int) < (s.length : Int)) = False := eq_false (by omega)
  have k2 : (((xtS s).length : Int) > ((3 * s.length : Nat) : Int)) = False := eq_false (by omega)
  repeat (first
    | (refine wpOps_plain rfl ?_
       simp only [stepE, evVal, opd, upd, setO, argsE, List.getD, binE, binInt, binStr, unE, wantedE, w0, w1, w2, Nat.reduceEqDiff, ↓reduceIte, Nat.reduceAdd, reduceCtorEq, eq_self, decide_true, decide_false, Bool.false_eq_true, Int.reduceBEq, Int.reduceBNe, Int.reduceLT, Int.reduceLE, Int.reduceGE, Int.reduceGT, Int.reduceEq, d2])
    | (apply wpOps_on
       · simp only [wantedE, upd, setO, w0, w1, ↓reduceIte, Nat.reduceEqDiff, reduceCtorEq, Bool.false_eq_true, Int.reduceBEq, eq_self, decide_true, decide_false])
    | (apply wpOps_off
       · simp only [wantedE, upd, setO, w0, w1, ↓reduceIte, Nat.reduceEqDiff, reduceCtorEq, Bool.false_eq_true, Int.reduceBEq, eq_self, decide_true, decide_false]
       try dsimp only)
    | (apply wpOps_if
       · rfl
       · simp only [stepE, evVal, opd, upd, setO, argsE, List.getD, binE, binInt, binStr, unE, wantedE, w0, w1, w2, Nat.reduceEqDiff, ↓reduceIte, Nat.reduceAdd, reduceCtorEq, eq_self, decide_true, decide_false, Bool.false_eq_true, Int.reduceBEq, Int.reduceBNe, Int.reduceLT, Int.reduceLE, Int.reduceGE, Int.reduceGT, Int.reduceEq]; exact rfl
       · intro hb; simp only [stepE, evVal, opd, upd, setO, argsE, List.getD, binE, binInt, binStr, unE, wantedE, w0, w1, w2, Nat.reduceEqDiff, ↓reduceIte, Nat.reduceAdd, reduceCtorEq, eq_self, decide_true, decide_false, Bool.false_eq_true, Int.reduceBEq, Int.reduceBNe, Int.reduceLT, Int.reduceLE, Int.reduceGE, Int.reduceGT, Int.reduceEq, hb, d2]; exact rfl))
  refine wpOps_build (cs := [.int .i64 0, .int .i64 0]) rfl ?_
  repeat (first
    | (refine wpOps_plain rfl ?_
       simp only [stepE, evVal, opd, upd, setO, argsE, List.getD, binE, binInt, binStr, unE, wantedE, w0, w1, w2, Nat.reduceEqDiff, ↓reduceIte, Nat.reduceAdd, reduceCtorEq, eq_self, decide_true, decide_false, Bool.false_eq_true, Int.reduceBEq, Int.reduceBNe, Int.reduceLT, Int.reduceLE, Int.reduceGE, Int.reduceGT, Int.reduceEq, same2, hw3, k1, k2, Option.map_some])
    | (apply wpOps_on
       · simp only [wantedE, upd, setO, w0, w1, ↓reduceIte, Nat.reduceEqDiff, reduceCtorEq, Bool.false_eq_true, Int.reduceBEq, eq_self, decide_true, decide_false])
    | (apply wpOps_off
       · simp only [wantedE, upd, setO, w0, w1, ↓reduceIte, Nat.reduceEqDiff, reduceCtorEq, Bool.false_eq_true, Int.reduceBEq, eq_self, decide_true, decide_false]
       try dsimp only)
    | (apply wpOps_if
       · rfl
       · simp only [stepE, evVal, opd, upd, setO, argsE, List.getD, binE, binInt, binStr, unE, wantedE, w0, w1, w2, Nat.reduceEqDiff, ↓reduceIte, Nat.reduceAdd, reduceCtorEq, eq_self, decide_true, decide_false, Bool.false_eq_true, Int.reduceBEq, Int.reduceBNe, Int.reduceLT, Int.reduceLE, Int.reduceGE, Int.reduceGT, Int.reduceEq]; exact rfl
       · intro hb; simp only [stepE, evVal, opd, upd, setO, argsE, List.getD, binE, binInt, binStr, unE, wantedE, w0, w1, w2, Nat.reduceEqDiff, ↓reduceIte, Nat.reduceAdd, reduceCtorEq, eq_self, decide_true, decide_false, Bool.false_eq_true, Int.reduceBEq, Int.reduceBNe, Int.reduceLT, Int.reduceLE, Int.reduceGE, Int.reduceGT, Int.reduceEq, hb, same2, hw3, k1, k2, Option.map_some]; exact rfl))
  refine wpOps_nil (wpC_cond (t := false) (by simp only [stepE, evVal, opd, upd, setO, argsE, List.getD, binE, binInt, binStr, unE, wantedE, w0, w1, w2, Nat.reduceEqDiff, ↓reduceIte, Nat.reduceAdd, reduceCtorEq, eq_self, decide_true, decide_false, Bool.false_eq_true, Int.reduceBEq, Int.reduceBNe, Int.reduceLT, Int.reduceLE, Int.reduceGE, Int.reduceGT, Int.reduceEq]) (fun h => by cases h) (fun _ => ?_))
  refine wpC_skip ?_
  simp only [thenE]
  refine wpC_seq (wpC_seq (wpC_reg ?_))
  repeat (first
    | (refine wpOps_plain rfl ?_
       simp only [stepE, evVal, opd, upd, setO, argsE, List.getD, binE, binInt, binStr, unE, wantedE, w0, w1, w2, Nat.reduceEqDiff, ↓reduceIte, Nat.reduceAdd, reduceCtorEq, eq_self, decide_true, decide_false, Bool.false_eq_true, Int.reduceBEq, Int.reduceBNe, Int.reduceLT, Int.reduceLE, Int.reduceGE, Int.reduceGT, Int.reduceEq])
    | (apply wpOps_on
       · simp only [wantedE, upd, setO, w0, w1, ↓reduceIte, Nat.reduceEqDiff, reduceCtorEq, Bool.false_eq_true, Int.reduceBEq, eq_self, decide_true, decide_false])
    | (apply wpOps_off
       · simp only [wantedE, upd, setO, w0, w1, ↓reduceIte, Nat.reduceEqDiff, reduceCtorEq, Bool.false_eq_true, Int.reduceBEq, eq_self, decide_true, decide_false]
       try dsimp only)
    | (apply wpOps_if
       · rfl
       · simp only [stepE, evVal, opd, upd, setO, argsE, List.getD, binE, binInt, binStr, unE, wantedE, w0, w1, w2, Nat.reduceEqDiff, ↓reduceIte, Nat.reduceAdd, reduceCtorEq, eq_self, decide_true, decide_false, Bool.false_eq_true, Int.reduceBEq, Int.reduceBNe, Int.reduceLT, Int.reduceLE, Int.reduceGE, Int.reduceGT, Int.reduceEq]; exact rfl
       · intro hb; simp only [stepE, evVal, opd, upd, setO, argsE, List.getD, binE, binInt, binStr, unE, wantedE, w0, w1, w2, Nat.reduceEqDiff, ↓reduceIte, Nat.reduceAdd, reduceCtorEq, eq_self, decide_true, decide_false, Bool.false_eq_true, Int.reduceBEq, Int.reduceBNe, Int.reduceLT, Int.reduceLE, Int.reduceGE, Int.reduceGT, Int.reduceEq, hb]; exact rfl))
  refine wpOps_nil (wpC_block (wpC_loop (fun n st => ∃ i A, st = ⟨A, M2, [], none⟩ ∧ n = (xtS s).length - i ∧ i ≤ (xtS s).length ∧ A 0 = .str s ∧ A 3 = .str (xtS s) ∧ A 6 = .int .i64 i) (fun n st hI => ?_) (xtS s).length _ ?_))
  · obtain ⟨i, A, rfl, rfl, hi, A0, A3, A6⟩ := hI
    refine wpC_seq (wpC_seq (wpC_reg ?_))
    repeat (first
      | (refine wpOps_plain rfl ?_
         simp only [stepE, evVal, opd, upd, setO, argsE, List.getD, binE, binInt, binStr, unE, wantedE, w0, w1, w2, Nat.reduceEqDiff, ↓reduceIte, Nat.reduceAdd, reduceCtorEq, eq_self, decide_true, decide_false, Bool.false_eq_true, Int.reduceBEq, Int.reduceBNe, Int.reduceLT, Int.reduceLE, Int.reduceGE, Int.reduceGT, Int.reduceEq, A3, A6])
      | (apply wpOps_on
         · simp only [wantedE, upd, setO, w0, w1, ↓reduceIte, Nat.reduceEqDiff, reduceCtorEq, Bool.false_eq_true, Int.reduceBEq, eq_self, decide_true, decide_false])
      | (apply wpOps_off
         · simp only [wantedE, upd, setO, w0, w1, ↓reduceIte, Nat.reduceEqDiff, reduceCtorEq, Bool.false_eq_true, Int.reduceBEq, eq_self, decide_true, decide_false]
         try dsimp only)
      | (apply wpOps_if
         · rfl
         · simp only [stepE, evVal, opd, upd, setO, argsE, List.getD, binE, binInt, binStr, unE, wantedE, w0, w1, w2, Nat.reduceEqDiff, ↓reduceIte, Nat.reduceAdd, reduceCtorEq, eq_self, decide_true, decide_false, Bool.false_eq_true, Int.reduceBEq, Int.reduceBNe, Int.reduceLT, Int.reduceLE, Int.reduceGE, Int.reduceGT, Int.reduceEq]; exact rfl
         · intro hb; simp only [stepE, evVal, opd, upd, setO, argsE, List.getD, binE, binInt, binStr, unE, wantedE, w0, w1, w2, Nat.reduceEqDiff, ↓reduceIte, Nat.reduceAdd, reduceCtorEq, eq_self, decide_true, decide_false, Bool.false_eq_true, Int.reduceBEq, Int.reduceBNe, Int.reduceLT, Int.reduceLE, Int.reduceGE, Int.reduceGT, Int.reduceEq, hb, A3, A6]; exact rfl))
    refine wpOps_nil (wpC_cond (t := decide ((i : Int) < (xtS s).length)) (by simp only [stepE, evVal, opd, upd, setO, argsE, List.getD, binE, binInt, binStr, unE, wantedE, w0, w1, w2, Nat.reduceEqDiff, ↓reduceIte, Nat.reduceAdd, reduceCtorEq, eq_self, decide_true, decide_false, Bool.false_eq_true, Int.reduceBEq, Int.reduceBNe, Int.reduceLT, Int.reduceLE, Int.reduceGE, Int.reduceGT, Int.reduceEq]) (fun hlt => ?_) (fun hge => ?_))
    · have hil : i < (xtS s).length := by simpa using hlt
      have i0 : (0 : Int) ≤ (i : Int) := by omega
      have hs : (xtS s)[i]? = some (xtS s)[i] := List.getElem?_eq_getElem hil
      have hw : IntKind.i64.wrap ((i : Int) + 1) = ((i + 1 : Nat) : Int) := wrap_ok (by omega) (by omega)
      have ne43 : ((((xtS s)[i].toNat : Int)) != 43) = ((xtS s)[i] != 43) := by
        have := byte_eq (xtS s)[i] 43
        simp only [bne]
        rw [← this]
        rfl
      refine wpC_skip ?_
      simp only [thenE]
      refine wpC_seq (wpC_block (wpC_seq (wpC_reg ?_)))
      have hseen := xtS_seen s _ (List.getElem_mem hil)
      by_cases h43 : (xtS s)[i] = 43
      · have q43 : ((xtS s)[i] != 43) = false := by simp [h43]
        repeat (first
          | (refine wpOps_plain rfl ?_
             simp only [stepE, evVal, opd, upd, setO, argsE, List.getD, binE, binInt, binStr, unE, wantedE, w0, w1, w2, Nat.reduceEqDiff, ↓reduceIte, Nat.reduceAdd, reduceCtorEq, eq_self, decide_true, decide_false, Bool.false_eq_true, Int.reduceBEq, Int.reduceBNe, Int.reduceLT, Int.reduceLE, Int.reduceGE, Int.reduceGT, Int.reduceEq, A3, A6, i0, hs, byteE, ne43, q43])
          | (apply wpOps_on
             · simp only [wantedE, upd, setO, w0, w1, ↓reduceIte, Nat.reduceEqDiff, reduceCtorEq, Bool.false_eq_true, Int.reduceBEq, eq_self, decide_true, decide_false])
          | (apply wpOps_off
             · simp only [wantedE, upd, setO, w0, w1, ↓reduceIte, Nat.reduceEqDiff, reduceCtorEq, Bool.false_eq_true, Int.reduceBEq, eq_self, decide_true, decide_false]
             try dsimp only)
          | (apply wpOps_if
             · rfl
             · simp only [stepE, evVal, opd, upd, setO, argsE, List.getD, binE, binInt, binStr, unE, wantedE, w0, w1, w2, Nat.reduceEqDiff, ↓reduceIte, Nat.reduceAdd, reduceCtorEq, eq_self, decide_true, decide_false, Bool.false_eq_true, Int.reduceBEq, Int.reduceBNe, Int.reduceLT, Int.reduceLE, Int.reduceGE, Int.reduceGT, Int.reduceEq]; exact rfl
             · intro hb; simp only [stepE, evVal, opd, upd, setO, argsE, List.getD, binE, binInt, binStr, unE, wantedE, w0, w1, w2, Nat.reduceEqDiff, ↓reduceIte, Nat.reduceAdd, reduceCtorEq, eq_self, decide_true, decide_false, Bool.false_eq_true, Int.reduceBEq, Int.reduceBNe, Int.reduceLT, Int.reduceLE, Int.reduceGE, Int.reduceGT, Int.reduceEq, hb, A3, A6, i0, hs, byteE, ne43, q43]; exact rfl))
        refine wpOps_nil (wpC_cond (t := false) (by simp only [stepE, evVal, opd, upd, setO, argsE, List.getD, binE, binInt, binStr, unE, wantedE, w0, w1, w2, Nat.reduceEqDiff, ↓reduceIte, Nat.reduceAdd, reduceCtorEq, eq_self, decide_true, decide_false, Bool.false_eq_true, Int.reduceBEq, Int.reduceBNe, Int.reduceLT, Int.reduceLE, Int.reduceGE, Int.reduceGT, Int.reduceEq]) (fun h => by cases h) (fun _ => ?_))
        refine wpC_skip ?_
        simp only [thenE, againE, blockE]
        refine wpC_reg ?_
        repeat (first
          | (refine wpOps_plain rfl ?_
             simp only [stepE, evVal, opd, upd, setO, argsE, List.getD, binE, binInt, binStr, unE, wantedE, w0, w1, w2, Nat.reduceEqDiff, ↓reduceIte, Nat.reduceAdd, reduceCtorEq, eq_self, decide_true, decide_false, Bool.false_eq_true, Int.reduceBEq, Int.reduceBNe, Int.reduceLT, Int.reduceLE, Int.reduceGE, Int.reduceGT, Int.reduceEq, A6])
          | (apply wpOps_on
             · simp only [wantedE, upd, setO, w0, w1, ↓reduceIte, Nat.reduceEqDiff, reduceCtorEq, Bool.false_eq_true, Int.reduceBEq, eq_self, decide_true, decide_false])
          | (apply wpOps_off
             · simp only [wantedE, upd, setO, w0, w1, ↓reduceIte, Nat.reduceEqDiff, reduceCtorEq, Bool.false_eq_true, Int.reduceBEq, eq_self, decide_true, decide_false]
             try dsimp only)
          | (apply wpOps_if
             · rfl
             · simp only [stepE, evVal, opd, upd, setO, argsE, List.getD, binE, binInt, binStr, unE, wantedE, w0, w1, w2, Nat.reduceEqDiff, ↓reduceIte, Nat.reduceAdd, reduceCtorEq, eq_self, decide_true, decide_false, Bool.false_eq_true, Int.reduceBEq, Int.reduceBNe, Int.reduceLT, Int.reduceLE, Int.reduceGE, Int.reduceGT, Int.reduceEq]; exact rfl
             · intro hb; simp only [stepE, evVal, opd, upd, setO, argsE, List.getD, binE, binInt, binStr, unE, wantedE, w0, w1, w2, Nat.reduceEqDiff, ↓reduceIte, Nat.reduceAdd, reduceCtorEq, eq_self, decide_true, decide_false, Bool.false_eq_true, Int.reduceBEq, Int.reduceBNe, Int.reduceLT, Int.reduceLE, Int.reduceGE, Int.reduceGT, Int.reduceEq, hb, A6]; exact rfl))
        refine wpOps_nil ?_
        exact ⟨(xtS s).length - (i + 1), by omega, i + 1, _, rfl, rfl, by omega, by simp [upd, A0], by simp [upd, A3], by simp only [upd, if_true, hw]⟩
      · have q43 : ((xtS s)[i] != 43) = true := by simp [h43]
        have hs9 : isT 9 (xtS s)[i].toNat = true := by
          rw [is9]
          rcases hseen with h | h
          · exact absurd h h43
          · exact h
        repeat (first
          | (refine wpOps_plain rfl ?_
             simp only [stepE, evVal, opd, upd, setO, argsE, List.getD, binE, binInt, binStr, unE, wantedE, w0, w1, w2, Nat.reduceEqDiff, ↓reduceIte, Nat.reduceAdd, reduceCtorEq, eq_self, decide_true, decide_false, Bool.false_eq_true, Int.reduceBEq, Int.reduceBNe, Int.reduceLT, Int.reduceLE, Int.reduceGE, Int.reduceGT, Int.reduceEq, A3, A6, i0, hs, byteE, ne43, q43])
          | (apply wpOps_on
             · simp only [wantedE, upd, setO, w0, w1, ↓reduceIte, Nat.reduceEqDiff, reduceCtorEq, Bool.false_eq_true, Int.reduceBEq, eq_self, decide_true, decide_false])
          | (apply wpOps_off
             · simp only [wantedE, upd, setO, w0, w1, ↓reduceIte, Nat.reduceEqDiff, reduceCtorEq, Bool.false_eq_true, Int.reduceBEq, eq_self, decide_true, decide_false]
             try dsimp only)
          | (apply wpOps_if
             · rfl
             · simp only [stepE, evVal, opd, upd, setO, argsE, List.getD, binE, binInt, binStr, unE, wantedE, w0, w1, w2, Nat.reduceEqDiff, ↓reduceIte, Nat.reduceAdd, reduceCtorEq, eq_self, decide_true, decide_false, Bool.false_eq_true, Int.reduceBEq, Int.reduceBNe, Int.reduceLT, Int.reduceLE, Int.reduceGE, Int.reduceGT, Int.reduceEq]; exact rfl
             · intro hb; simp only [stepE, evVal, opd, upd, setO, argsE, List.getD, binE, binInt, binStr, unE, wantedE, w0, w1, w2, Nat.reduceEqDiff, ↓reduceIte, Nat.reduceAdd, reduceCtorEq, eq_self, decide_true, decide_false, Bool.false_eq_true, Int.reduceBEq, Int.reduceBNe, Int.reduceLT, Int.reduceLE, Int.reduceGE, Int.reduceGT, Int.reduceEq, hb, A3, A6, i0, hs, byteE, ne43, q43]; exact rfl))
        apply wpOps_call
        · first | rfl | (simp only [stepE, evVal, opd, upd, setO, argsE, List.getD, binE, binInt, binStr, unE, wantedE, w0, w1, w2, Nat.reduceEqDiff, ↓reduceIte, Nat.reduceAdd, reduceCtorEq, eq_self, decide_true, decide_false, Bool.false_eq_true, Int.reduceBEq, Int.reduceBNe, Int.reduceLT, Int.reduceLE, Int.reduceGE, Int.reduceGT, Int.reduceEq]; exact rfl)
        · (try simp only [stepE, evVal, opd, upd, setO, argsE, List.getD, binE, binInt, binStr, unE, wantedE, w0, w1, w2, Nat.reduceEqDiff, ↓reduceIte, Nat.reduceAdd, reduceCtorEq, eq_self, decide_true, decide_false, Bool.false_eq_true, Int.reduceBEq, Int.reduceBNe, Int.reduceLT, Int.reduceLE, Int.reduceGE, Int.reduceGT, Int.reduceEq]); exact (c7 M2 9 (xtS s)[i].toNat rfl rfl)
        simp only [stepE, evVal, opd, upd, setO, argsE, List.getD, binE, binInt, binStr, unE, wantedE, w0, w1, w2, Nat.reduceEqDiff, ↓reduceIte, Nat.reduceAdd, reduceCtorEq, eq_self, decide_true, decide_false, Bool.false_eq_true, Int.reduceBEq, Int.reduceBNe, Int.reduceLT, Int.reduceLE, Int.reduceGE, Int.reduceGT, Int.reduceEq]
        repeat (first
          | (refine wpOps_plain rfl ?_
             simp only [stepE, evVal, opd, upd, setO, argsE, List.getD, binE, binInt, binStr, unE, wantedE, w0, w1, w2, Nat.reduceEqDiff, ↓reduceIte, Nat.reduceAdd, reduceCtorEq, eq_self, decide_true, decide_false, Bool.false_eq_true, Int.reduceBEq, Int.reduceBNe, Int.reduceLT, Int.reduceLE, Int.reduceGE, Int.reduceGT, Int.reduceEq, A3, A6, i0, hs, byteE, ne43, q43, hs9])
          | (apply wpOps_on
             · simp only [wantedE, upd, setO, w0, w1, ↓reduceIte, Nat.reduceEqDiff, reduceCtorEq, Bool.false_eq_true, Int.reduceBEq, eq_self, decide_true, decide_false])
          | (apply wpOps_off
             · simp only [wantedE, upd, setO, w0, w1, ↓reduceIte, Nat.reduceEqDiff, reduceCtorEq, Bool.false_eq_true, Int.reduceBEq, eq_self, decide_true, decide_false]
             try dsimp only)
          | (apply wpOps_if
             · rfl
             · simp only [stepE, evVal, opd, upd, setO, argsE, List.getD, binE, binInt, binStr, unE, wantedE, w0, w1, w2, Nat.reduceEqDiff, ↓reduceIte, Nat.reduceAdd, reduceCtorEq, eq_self, decide_true, decide_false, Bool.false_eq_true, Int.reduceBEq, Int.reduceBNe, Int.reduceLT, Int.reduceLE, Int.reduceGE, Int.reduceGT, Int.reduceEq]; exact rfl
             · intro hb; simp only [stepE, evVal, opd, upd, setO, argsE, List.getD, binE, binInt, binStr, unE, wantedE, w0, w1, w2, Nat.reduceEqDiff, ↓reduceIte, Nat.reduceAdd, reduceCtorEq, eq_self, decide_true, decide_false, Bool.false_eq_true, Int.reduceBEq, Int.reduceBNe, Int.reduceLT, Int.reduceLE, Int.reduceGE, Int.reduceGT, Int.reduceEq, hb, A3, A6, i0, hs, byteE, ne43, q43, hs9]; exact rfl))
        refine wpOps_nil (wpC_cond (t := false) (by simp only [stepE, evVal, opd, upd, setO, argsE, List.getD, binE, binInt, binStr, unE, wantedE, w0, w1, w2, Nat.reduceEqDiff, ↓reduceIte, Nat.reduceAdd, reduceCtorEq, eq_self, decide_true, decide_false, Bool.false_eq_true, Int.reduceBEq, Int.reduceBNe, Int.reduceLT, Int.reduceLE, Int.reduceGE, Int.reduceGT, Int.reduceEq]) (fun h => by cases h) (fun _ => ?_))
        refine wpC_skip ?_
        simp only [thenE, againE, blockE]
        refine wpC_reg ?_
        repeat (first
          | (refine wpOps_plain rfl ?_
             simp only [stepE, evVal, opd, upd, setO, argsE, List.getD, binE, binInt, binStr, unE, wantedE, w0, w1, w2, Nat.reduceEqDiff, ↓reduceIte, Nat.reduceAdd, reduceCtorEq, eq_self, decide_true, decide_false, Bool.false_eq_true, Int.reduceBEq, Int.reduceBNe, Int.reduceLT, Int.reduceLE, Int.reduceGE, Int.reduceGT, Int.reduceEq, A6])
          | (apply wpOps_on
             · simp only [wantedE, upd, setO, w0, w1, ↓reduceIte, Nat.reduceEqDiff, reduceCtorEq, Bool.false_eq_true, Int.reduceBEq, eq_self, decide_true, decide_false])
          | (apply wpOps_off
             · simp only [wantedE, upd, setO, w0, w1, ↓reduceIte, Nat.reduceEqDiff, reduceCtorEq, Bool.false_eq_true, Int.reduceBEq, eq_self, decide_true, decide_false]
             try dsimp only)
          | (apply wpOps_if
             · rfl
             · simp only [stepE, evVal, opd, upd, setO, argsE, List.getD, binE, binInt, binStr, unE, wantedE, w0, w1, w2, Nat.reduceEqDiff, ↓reduceIte, Nat.reduceAdd, reduceCtorEq, eq_self, decide_true, decide_false, Bool.false_eq_true, Int.reduceBEq, Int.reduceBNe, Int.reduceLT, Int.reduceLE, Int.reduceGE, Int.reduceGT, Int.reduceEq]; exact rfl
             · intro hb; simp only [stepE, evVal, opd, upd, setO, argsE, List.getD, binE, binInt, binStr, unE, wantedE, w0, w1, w2, Nat.reduceEqDiff, ↓reduceIte, Nat.reduceAdd, reduceCtorEq, eq_self, decide_true, decide_false, Bool.false_eq_true, Int.reduceBEq, Int.reduceBNe, Int.reduceLT, Int.reduceLE, Int.reduceGE, Int.reduceGT, Int.reduceEq, hb, A6]; exact rfl))
        refine wpOps_nil ?_
        exact ⟨(xtS s).length - (i + 1), by omega, i + 1, _, rfl, rfl, by omega, by simp [upd, A0], by simp [upd, A3], by simp only [upd, if_true, hw]⟩
    · refine wpC_exit ?_
      simp only [thenE, againE, blockE, ↓reduceIte]
      refine wpC_seq (wpC_reg ?_)
      repeat (first
        | (refine wpOps_plain rfl ?_
           simp only [stepE, evVal, opd, upd, setO, argsE, List.getD, binE, binInt, binStr, unE, wantedE, w0, w1, w2, Nat.reduceEqDiff, ↓reduceIte, Nat.reduceAdd, reduceCtorEq, eq_self, decide_true, decide_false, Bool.false_eq_true, Int.reduceBEq, Int.reduceBNe, Int.reduceLT, Int.reduceLE, Int.reduceGE, Int.reduceGT, Int.reduceEq, A0])
        | (apply wpOps_on
           · simp only [wantedE, upd, setO, w0, w1, ↓reduceIte, Nat.reduceEqDiff, reduceCtorEq, Bool.false_eq_true, Int.reduceBEq, eq_self, decide_true, decide_false])
        | (apply wpOps_off
           · simp only [wantedE, upd, setO, w0, w1, ↓reduceIte, Nat.reduceEqDiff, reduceCtorEq, Bool.false_eq_true, Int.reduceBEq, eq_self, decide_true, decide_false]
           try dsimp only)
        | (apply wpOps_if
           · rfl
           · simp only [stepE, evVal, opd, upd, setO, argsE, List.getD, binE, binInt, binStr, unE, wantedE, w0, w1, w2, Nat.reduceEqDiff, ↓reduceIte, Nat.reduceAdd, reduceCtorEq, eq_self, decide_true, decide_false, Bool.false_eq_true, Int.reduceBEq, Int.reduceBNe, Int.reduceLT, Int.reduceLE, Int.reduceGE, Int.reduceGT, Int.reduceEq]; exact rfl
           · intro hb; simp only [stepE, evVal, opd, upd, setO, argsE, List.getD, binE, binInt, binStr, unE, wantedE, w0, w1, w2, Nat.reduceEqDiff, ↓reduceIte, Nat.reduceAdd, reduceCtorEq, eq_self, decide_true, decide_false, Bool.false_eq_true, Int.reduceBEq, Int.reduceBNe, Int.reduceLT, Int.reduceLE, Int.reduceGE, Int.reduceGT, Int.reduceEq, hb, A0]; exact rfl))
      have hs6 := c6 M2 s (by omega)
      have hb := unx_bounds s (s.length + 1) 0 (by omega)
      cases hu : unx s (s.length + 1) 0 with
      | ok u =>
        rw [hu] at hs6 hb
        simp only [Within] at hb
        have hul := xtS_low u
        apply wpOps_call
        · first | rfl | (simp only [stepE, evVal, opd, upd, setO, argsE, List.getD, binE, binInt, binStr, unE, wantedE, w0, w1, w2, Nat.reduceEqDiff, ↓reduceIte, Nat.reduceAdd, reduceCtorEq, eq_self, decide_true, decide_false, Bool.false_eq_true, Int.reduceBEq, Int.reduceBNe, Int.reduceLT, Int.reduceLE, Int.reduceGE, Int.reduceGT, Int.reduceEq]; exact rfl)
        · (try simp only [stepE, evVal, opd, upd, setO, argsE, List.getD, binE, binInt, binStr, unE, wantedE, w0, w1, w2, Nat.reduceEqDiff, ↓reduceIte, Nat.reduceAdd, reduceCtorEq, eq_self, decide_true, decide_false, Bool.false_eq_true, Int.reduceBEq, Int.reduceBNe, Int.reduceLT, Int.reduceLE, Int.reduceGE, Int.reduceGT, Int.reduceEq]); exact (hs6)
        simp only [stepE, evVal, opd, upd, setO, argsE, List.getD, binE, binInt, binStr, unE, wantedE, w0, w1, w2, Nat.reduceEqDiff, ↓reduceIte, Nat.reduceAdd, reduceCtorEq, eq_self, decide_true, decide_false, Bool.false_eq_true, Int.reduceBEq, Int.reduceBNe, Int.reduceLT, Int.reduceLE, Int.reduceGE, Int.reduceGT, Int.reduceEq]
        repeat (first
          | (refine wpOps_plain rfl ?_
             simp only [stepE, evVal, opd, upd, setO, argsE, List.getD, binE, binInt, binStr, unE, wantedE, w0, w1, w2, Nat.reduceEqDiff, ↓reduceIte, Nat.reduceAdd, reduceCtorEq, eq_self, decide_true, decide_false, Bool.false_eq_true, Int.reduceBEq, Int.reduceBNe, Int.reduceLT, Int.reduceLE, Int.reduceGE, Int.reduceGT, Int.reduceEq, resU])
          | (apply wpOps_on
             · simp only [wantedE, upd, setO, w0, w1, ↓reduceIte, Nat.reduceEqDiff, reduceCtorEq, Bool.false_eq_true, Int.reduceBEq, eq_self, decide_true, decide_false])
          | (apply wpOps_off
             · simp only [wantedE, upd, setO, w0, w1, ↓reduceIte, Nat.reduceEqDiff, reduceCtorEq, Bool.false_eq_true, Int.reduceBEq, eq_self, decide_true, decide_false]
             try dsimp only)
          | (apply wpOps_if
             · rfl
             · simp only [stepE, evVal, opd, upd, setO, argsE, List.getD, binE, binInt, binStr, unE, wantedE, w0, w1, w2, Nat.reduceEqDiff, ↓reduceIte, Nat.reduceAdd, reduceCtorEq, eq_self, decide_true, decide_false, Bool.false_eq_true, Int.reduceBEq, Int.reduceBNe, Int.reduceLT, Int.reduceLE, Int.reduceGE, Int.reduceGT, Int.reduceEq]; exact rfl
             · intro hb; simp only [stepE, evVal, opd, upd, setO, argsE, List.getD, binE, binInt, binStr, unE, wantedE, w0, w1, w2, Nat.reduceEqDiff, ↓reduceIte, Nat.reduceAdd, reduceCtorEq, eq_self, decide_true, decide_false, Bool.false_eq_true, Int.reduceBEq, Int.reduceBNe, Int.reduceLT, Int.reduceLE, Int.reduceGE, Int.reduceGT, Int.reduceEq, hb, resU]; exact rfl))
        refine wpOps_new fun M3 e3 => ?_
        obtain ⟨M4, p4, g4, r4, L4, w4⟩ := put_new e3 (cs := [.int .i64 0, .int .i64 0]) rfl
        repeat (first
          | (refine wpOps_plain rfl ?_
             simp only [stepE, evVal, opd, upd, setO, argsE, List.getD, binE, binInt, binStr, unE, wantedE, w0, w1, w2, Nat.reduceEqDiff, ↓reduceIte, Nat.reduceAdd, reduceCtorEq, eq_self, decide_true, decide_false, Bool.false_eq_true, Int.reduceBEq, Int.reduceBNe, Int.reduceLT, Int.reduceLE, Int.reduceGE, Int.reduceGT, Int.reduceEq, p4])
          | (apply wpOps_on
             · simp only [wantedE, upd, setO, w0, w1, ↓reduceIte, Nat.reduceEqDiff, reduceCtorEq, Bool.false_eq_true, Int.reduceBEq, eq_self, decide_true, decide_false])
          | (apply wpOps_off
             · simp only [wantedE, upd, setO, w0, w1, ↓reduceIte, Nat.reduceEqDiff, reduceCtorEq, Bool.false_eq_true, Int.reduceBEq, eq_self, decide_true, decide_false]
             try dsimp only)
          | (apply wpOps_if
             · rfl
             · simp only [stepE, evVal, opd, upd, setO, argsE, List.getD, binE, binInt, binStr, unE, wantedE, w0, w1, w2, Nat.reduceEqDiff, ↓reduceIte, Nat.reduceAdd, reduceCtorEq, eq_self, decide_true, decide_false, Bool.false_eq_true, Int.reduceBEq, Int.reduceBNe, Int.reduceLT, Int.reduceLE, Int.reduceGE, Int.reduceGT, Int.reduceEq]; exact rfl
             · intro hb; simp only [stepE, evVal, opd, upd, setO, argsE, List.getD, binE, binInt, binStr, unE, wantedE, w0, w1, w2, Nat.reduceEqDiff, ↓reduceIte, Nat.reduceAdd, reduceCtorEq, eq_self, decide_true, decide_false, Bool.false_eq_true, Int.reduceBEq, Int.reduceBNe, Int.reduceLT, Int.reduceLE, Int.reduceGE, Int.reduceGT, Int.reduceEq, hb, p4]; exact rfl))
        refine wpOps_nil (wpC_seq (wpC_reg ?_))
        repeat (first
          | (refine wpOps_plain rfl ?_
             simp only [stepE, evVal, opd, upd, setO, argsE, List.getD, binE, binInt, binStr, unE, wantedE, w0, w1, w2, Nat.reduceEqDiff, ↓reduceIte, Nat.reduceAdd, reduceCtorEq, eq_self, decide_true, decide_false, Bool.false_eq_true, Int.reduceBEq, Int.reduceBNe, Int.reduceLT, Int.reduceLE, Int.reduceGE, Int.reduceGT, Int.reduceEq, A0])
          | (apply wpOps_on
             · simp only [wantedE, upd, setO, w0, w1, ↓reduceIte, Nat.reduceEqDiff, reduceCtorEq, Bool.false_eq_true, Int.reduceBEq, eq_self, decide_true, decide_false])
          | (apply wpOps_off
             · simp only [wantedE, upd, setO, w0, w1, ↓reduceIte, Nat.reduceEqDiff, reduceCtorEq, Bool.false_eq_true, Int.reduceBEq, eq_self, decide_true, decide_false]
             try dsimp only)
          | (apply wpOps_if
             · rfl
             · simp only [stepE, evVal, opd, upd, setO, argsE, List.getD, binE, binInt, binStr, unE, wantedE, w0, w1, w2, Nat.reduceEqDiff, ↓reduceIte, Nat.reduceAdd, reduceCtorEq, eq_self, decide_true, decide_false, Bool.false_eq_true, Int.reduceBEq, Int.reduceBNe, Int.reduceLT, Int.reduceLE, Int.reduceGE, Int.reduceGT, Int.reduceEq]; exact rfl
             · intro hb; simp only [stepE, evVal, opd, upd, setO, argsE, List.getD, binE, binInt, binStr, unE, wantedE, w0, w1, w2, Nat.reduceEqDiff, ↓reduceIte, Nat.reduceAdd, reduceCtorEq, eq_self, decide_true, decide_false, Bool.false_eq_true, Int.reduceBEq, Int.reduceBNe, Int.reduceLT, Int.reduceLE, Int.reduceGE, Int.reduceGT, Int.reduceEq, hb, A0]; exact rfl))
        have hs8 := c8 M4 s (by omega)
        rw [hu] at hs8
        apply wpOps_call
        · first | rfl | (simp only [stepE, evVal, opd, upd, setO, argsE, List.getD, binE, binInt, binStr, unE, wantedE, w0, w1, w2, Nat.reduceEqDiff, ↓reduceIte, Nat.reduceAdd, reduceCtorEq, eq_self, decide_true, decide_false, Bool.false_eq_true, Int.reduceBEq, Int.reduceBNe, Int.reduceLT, Int.reduceLE, Int.reduceGE, Int.reduceGT, Int.reduceEq]; exact rfl)
        · (try simp only [stepE, evVal, opd, upd, setO, argsE, List.getD, binE, binInt, binStr, unE, wantedE, w0, w1, w2, Nat.reduceEqDiff, ↓reduceIte, Nat.reduceAdd, reduceCtorEq, eq_self, decide_true, decide_false, Bool.false_eq_true, Int.reduceBEq, Int.reduceBNe, Int.reduceLT, Int.reduceLE, Int.reduceGE, Int.reduceGT, Int.reduceEq]); exact (hs8)
        simp only [stepE, evVal, opd, upd, setO, argsE, List.getD, binE, binInt, binStr, unE, wantedE, w0, w1, w2, Nat.reduceEqDiff, ↓reduceIte, Nat.reduceAdd, reduceCtorEq, eq_self, decide_true, decide_false, Bool.false_eq_true, Int.reduceBEq, Int.reduceBNe, Int.reduceLT, Int.reduceLE, Int.reduceGE, Int.reduceGT, Int.reduceEq]
        repeat (first
          | (refine wpOps_plain rfl ?_
             simp only [stepE, evVal, opd, upd, setO, argsE, List.getD, binE, binInt, binStr, unE, wantedE, w0, w1, w2, Nat.reduceEqDiff, ↓reduceIte, Nat.reduceAdd, reduceCtorEq, eq_self, decide_true, decide_false, Bool.false_eq_true, Int.reduceBEq, Int.reduceBNe, Int.reduceLT, Int.reduceLE, Int.reduceGE, Int.reduceGT, Int.reduceEq, resU])
          | (apply wpOps_on
             · simp only [wantedE, upd, setO, w0, w1, ↓reduceIte, Nat.reduceEqDiff, reduceCtorEq, Bool.false_eq_true, Int.reduceBEq, eq_self, decide_true, decide_false])
          | (apply wpOps_off
             · simp only [wantedE, upd, setO, w0, w1, ↓reduceIte, Nat.reduceEqDiff, reduceCtorEq, Bool.false_eq_true, Int.reduceBEq, eq_self, decide_true, decide_false]
             try dsimp only)
          | (apply wpOps_if
             · rfl
             · simp only [stepE, evVal, opd, upd, setO, argsE, List.getD, binE, binInt, binStr, unE, wantedE, w0, w1, w2, Nat.reduceEqDiff, ↓reduceIte, Nat.reduceAdd, reduceCtorEq, eq_self, decide_true, decide_false, Bool.false_eq_true, Int.reduceBEq, Int.reduceBNe, Int.reduceLT, Int.reduceLE, Int.reduceGE, Int.reduceGT, Int.reduceEq]; exact rfl
             · intro hb; simp only [stepE, evVal, opd, upd, setO, argsE, List.getD, binE, binInt, binStr, unE, wantedE, w0, w1, w2, Nat.reduceEqDiff, ↓reduceIte, Nat.reduceAdd, reduceCtorEq, eq_self, decide_true, decide_false, Bool.false_eq_true, Int.reduceBEq, Int.reduceBNe, Int.reduceLT, Int.reduceLE, Int.reduceGE, Int.reduceGT, Int.reduceEq, hb, resU]; exact rfl))
        refine wpOps_new fun M5 e5 => ?_
        obtain ⟨M6, p6, g6, r6, L6, w6⟩ := put_new e5 (cs := [.int .i64 0, .int .i64 0]) rfl
        repeat (first
          | (refine wpOps_plain rfl ?_
             simp only [stepE, evVal, opd, upd, setO, argsE, List.getD, binE, binInt, binStr, unE, wantedE, w0, w1, w2, Nat.reduceEqDiff, ↓reduceIte, Nat.reduceAdd, reduceCtorEq, eq_self, decide_true, decide_false, Bool.false_eq_true, Int.reduceBEq, Int.reduceBNe, Int.reduceLT, Int.reduceLE, Int.reduceGE, Int.reduceGT, Int.reduceEq, p6])
          | (apply wpOps_on
             · simp only [wantedE, upd, setO, w0, w1, ↓reduceIte, Nat.reduceEqDiff, reduceCtorEq, Bool.false_eq_true, Int.reduceBEq, eq_self, decide_true, decide_false])
          | (apply wpOps_off
             · simp only [wantedE, upd, setO, w0, w1, ↓reduceIte, Nat.reduceEqDiff, reduceCtorEq, Bool.false_eq_true, Int.reduceBEq, eq_self, decide_true, decide_false]
             try dsimp only)
          | (apply wpOps_if
             · rfl
             · simp only [stepE, evVal, opd, upd, setO, argsE, List.getD, binE, binInt, binStr, unE, wantedE, w0, w1, w2, Nat.reduceEqDiff, ↓reduceIte, Nat.reduceAdd, reduceCtorEq, eq_self, decide_true, decide_false, Bool.false_eq_true, Int.reduceBEq, Int.reduceBNe, Int.reduceLT, Int.reduceLE, Int.reduceGE, Int.reduceGT, Int.reduceEq]; exact rfl
             · intro hb; simp only [stepE, evVal, opd, upd, setO, argsE, List.getD, binE, binInt, binStr, unE, wantedE, w0, w1, w2, Nat.reduceEqDiff, ↓reduceIte, Nat.reduceAdd, reduceCtorEq, eq_self, decide_true, decide_false, Bool.false_eq_true, Int.reduceBEq, Int.reduceBNe, Int.reduceLT, Int.reduceLE, Int.reduceGE, Int.reduceGT, Int.reduceEq, hb, p6]; exact rfl))
        refine wpOps_nil (wpC_seq (wpC_seq (wpC_reg ?_)))
        have d4 := getN_row (G := G) (r4.grown g6) (sub_all (n := 2) rfl)
        have d6 := getN_row (G := G) r6 (sub_all (n := 2) rfl)
        have d40 := get_row (G := G) (r4.grown g6) (off := 0) (v := .int .i64 0) (sub_one rfl)
        repeat (first
          | (refine wpOps_plain rfl ?_
             simp only [stepE, evVal, opd, upd, setO, argsE, List.getD, binE, binInt, binStr, unE, wantedE, w0, w1, w2, Nat.reduceEqDiff, ↓reduceIte, Nat.reduceAdd, reduceCtorEq, eq_self, decide_true, decide_false, Bool.false_eq_true, Int.reduceBEq, Int.reduceBNe, Int.reduceLT, Int.reduceLE, Int.reduceGE, Int.reduceGT, Int.reduceEq, d4, d6, same2, Option.map_some])
          | (apply wpOps_on
             · simp only [wantedE, upd, setO, w0, w1, ↓reduceIte, Nat.reduceEqDiff, reduceCtorEq, Bool.false_eq_true, Int.reduceBEq, eq_self, decide_true, decide_false])
          | (apply wpOps_off
             · simp only [wantedE, upd, setO, w0, w1, ↓reduceIte, Nat.reduceEqDiff, reduceCtorEq, Bool.false_eq_true, Int.reduceBEq, eq_self, decide_true, decide_false]
             try dsimp only)
          | (apply wpOps_if
             · rfl
             · simp only [stepE, evVal, opd, upd, setO, argsE, List.getD, binE, binInt, binStr, unE, wantedE, w0, w1, w2, Nat.reduceEqDiff, ↓reduceIte, Nat.reduceAdd, reduceCtorEq, eq_self, decide_true, decide_false, Bool.false_eq_true, Int.reduceBEq, Int.reduceBNe, Int.reduceLT, Int.reduceLE, Int.reduceGE, Int.reduceGT, Int.reduceEq]; exact rfl
             · intro hb; simp only [stepE, evVal, opd, upd, setO, argsE, List.getD, binE, binInt, binStr, unE, wantedE, w0, w1, w2, Nat.reduceEqDiff, ↓reduceIte, Nat.reduceAdd, reduceCtorEq, eq_self, decide_true, decide_false, Bool.false_eq_true, Int.reduceBEq, Int.reduceBNe, Int.reduceLT, Int.reduceLE, Int.reduceGE, Int.reduceGT, Int.reduceEq, hb, d4, d6, same2, Option.map_some]; exact rfl))
        refine wpOps_nil (wpC_cond (t := false) (by simp only [stepE, evVal, opd, upd, setO, argsE, List.getD, binE, binInt, binStr, unE, wantedE, w0, w1, w2, Nat.reduceEqDiff, ↓reduceIte, Nat.reduceAdd, reduceCtorEq, eq_self, decide_true, decide_false, Bool.false_eq_true, Int.reduceBEq, Int.reduceBNe, Int.reduceLT, Int.reduceLE, Int.reduceGE, Int.reduceGT, Int.reduceEq]) (fun h => by cases h) (fun _ => ?_))
        refine wpC_skip ?_
        simp only [thenE]
        refine wpC_seq (wpC_seq (wpC_reg ?_))
        repeat (first
          | (refine wpOps_plain rfl ?_
             simp only [stepE, evVal, opd, upd, setO, argsE, List.getD, binE, binInt, binStr, unE, wantedE, w0, w1, w2, Nat.reduceEqDiff, ↓reduceIte, Nat.reduceAdd, reduceCtorEq, eq_self, decide_true, decide_false, Bool.false_eq_true, Int.reduceBEq, Int.reduceBNe, Int.reduceLT, Int.reduceLE, Int.reduceGE, Int.reduceGT, Int.reduceEq, d40])
          | (apply wpOps_on
             · simp only [wantedE, upd, setO, w0, w1, ↓reduceIte, Nat.reduceEqDiff, reduceCtorEq, Bool.false_eq_true, Int.reduceBEq, eq_self, decide_true, decide_false])
          | (apply wpOps_off
             · simp only [wantedE, upd, setO, w0, w1, ↓reduceIte, Nat.reduceEqDiff, reduceCtorEq, Bool.false_eq_true, Int.reduceBEq, eq_self, decide_true, decide_false]
             try dsimp only)
          | (apply wpOps_if
             · rfl
             · simp only [stepE, evVal, opd, upd, setO, argsE, List.getD, binE, binInt, binStr, unE, wantedE, w0, w1, w2, Nat.reduceEqDiff, ↓reduceIte, Nat.reduceAdd, reduceCtorEq, eq_self, decide_true, decide_false, Bool.false_eq_true, Int.reduceBEq, Int.reduceBNe, Int.reduceLT, Int.reduceLE, Int.reduceGE, Int.reduceGT, Int.reduceEq]; exact rfl
             · intro hb; simp only [stepE, evVal, opd, upd, setO, argsE, List.getD, binE, binInt, binStr, unE, wantedE, w0, w1, w2, Nat.reduceEqDiff, ↓reduceIte, Nat.reduceAdd, reduceCtorEq, eq_self, decide_true, decide_false, Bool.false_eq_true, Int.reduceBEq, Int.reduceBNe, Int.reduceLT, Int.reduceLE, Int.reduceGE, Int.reduceGT, Int.reduceEq, hb, d40]; exact rfl))
        refine wpOps_nil (wpC_cond (t := true) (by simp only [stepE, evVal, opd, upd, setO, argsE, List.getD, binE, binInt, binStr, unE, wantedE, w0, w1, w2, Nat.reduceEqDiff, ↓reduceIte, Nat.reduceAdd, reduceCtorEq, eq_self, decide_true, decide_false, Bool.false_eq_true, Int.reduceBEq, Int.reduceBNe, Int.reduceLT, Int.reduceLE, Int.reduceGE, Int.reduceGT, Int.reduceEq]) (fun _ => ?_) (fun h => by cases h))
        refine wpC_seq (wpC_reg ?_)
        repeat (first
          | (refine wpOps_plain rfl ?_
             simp only [stepE, evVal, opd, upd, setO, argsE, List.getD, binE, binInt, binStr, unE, wantedE, w0, w1, w2, Nat.reduceEqDiff, ↓reduceIte, Nat.reduceAdd, reduceCtorEq, eq_self, decide_true, decide_false, Bool.false_eq_true, Int.reduceBEq, Int.reduceBNe, Int.reduceLT, Int.reduceLE, Int.reduceGE, Int.reduceGT, Int.reduceEq])
          | (apply wpOps_on
             · simp only [wantedE, upd, setO, w0, w1, ↓reduceIte, Nat.reduceEqDiff, reduceCtorEq, Bool.false_eq_true, Int.reduceBEq, eq_self, decide_true, decide_false])
          | (apply wpOps_off
             · simp only [wantedE, upd, setO, w0, w1, ↓reduceIte, Nat.reduceEqDiff, reduceCtorEq, Bool.false_eq_true, Int.reduceBEq, eq_self, decide_true, decide_false]
             try dsimp only)
          | (apply wpOps_if
             · rfl
             · simp only [stepE, evVal, opd, upd, setO, argsE, List.getD, binE, binInt, binStr, unE, wantedE, w0, w1, w2, Nat.reduceEqDiff, ↓reduceIte, Nat.reduceAdd, reduceCtorEq, eq_self, decide_true, decide_false, Bool.false_eq_true, Int.reduceBEq, Int.reduceBNe, Int.reduceLT, Int.reduceLE, Int.reduceGE, Int.reduceGT, Int.reduceEq]; exact rfl
             · intro hb; simp only [stepE, evVal, opd, upd, setO, argsE, List.getD, binE, binInt, binStr, unE, wantedE, w0, w1, w2, Nat.reduceEqDiff, ↓reduceIte, Nat.reduceAdd, reduceCtorEq, eq_self, decide_true, decide_false, Bool.false_eq_true, Int.reduceBEq, Int.reduceBNe, Int.reduceLT, Int.reduceLE, Int.reduceGE, Int.reduceGT, Int.reduceEq, hb]; exact rfl))
        apply wpOps_call
        · first | rfl | (simp only [stepE, evVal, opd, upd, setO, argsE, List.getD, binE, binInt, binStr, unE, wantedE, w0, w1, w2, Nat.reduceEqDiff, ↓reduceIte, Nat.reduceAdd, reduceCtorEq, eq_self, decide_true, decide_false, Bool.false_eq_true, Int.reduceBEq, Int.reduceBNe, Int.reduceLT, Int.reduceLE, Int.reduceGE, Int.reduceGT, Int.reduceEq]; exact rfl)
        · (try simp only [stepE, evVal, opd, upd, setO, argsE, List.getD, binE, binInt, binStr, unE, wantedE, w0, w1, w2, Nat.reduceEqDiff, ↓reduceIte, Nat.reduceAdd, reduceCtorEq, eq_self, decide_true, decide_false, Bool.false_eq_true, Int.reduceBEq, Int.reduceBNe, Int.reduceLT, Int.reduceLE, Int.reduceGE, Int.reduceGT, Int.reduceEq]); exact (c5 M6 u (by omega))
        simp only [stepE, evVal, opd, upd, setO, argsE, List.getD, binE, binInt, binStr, unE, wantedE, w0, w1, w2, Nat.reduceEqDiff, ↓reduceIte, Nat.reduceAdd, reduceCtorEq, eq_self, decide_true, decide_false, Bool.false_eq_true, Int.reduceBEq, Int.reduceBNe, Int.reduceLT, Int.reduceLE, Int.reduceGE, Int.reduceGT, Int.reduceEq]
        repeat (first
          | (refine wpOps_plain rfl ?_
             simp only [stepE, evVal, opd, upd, setO, argsE, List.getD, binE, binInt, binStr, unE, wantedE, w0, w1, w2, Nat.reduceEqDiff, ↓reduceIte, Nat.reduceAdd, reduceCtorEq, eq_self, decide_true, decide_false, Bool.false_eq_true, Int.reduceBEq, Int.reduceBNe, Int.reduceLT, Int.reduceLE, Int.reduceGE, Int.reduceGT, Int.reduceEq])
          | (apply wpOps_on
             · simp only [wantedE, upd, setO, w0, w1, ↓reduceIte, Nat.reduceEqDiff, reduceCtorEq, Bool.false_eq_true, Int.reduceBEq, eq_self, decide_true, decide_false])
          | (apply wpOps_off
             · simp only [wantedE, upd, setO, w0, w1, ↓reduceIte, Nat.reduceEqDiff, reduceCtorEq, Bool.false_eq_true, Int.reduceBEq, eq_self, decide_true, decide_false]
             try dsimp only)
          | (apply wpOps_if
             · rfl
             · simp only [stepE, evVal, opd, upd, setO, argsE, List.getD, binE, binInt, binStr, unE, wantedE, w0, w1, w2, Nat.reduceEqDiff, ↓reduceIte, Nat.reduceAdd, reduceCtorEq, eq_self, decide_true, decide_false, Bool.false_eq_true, Int.reduceBEq, Int.reduceBNe, Int.reduceLT, Int.reduceLE, Int.reduceGE, Int.reduceGT, Int.reduceEq]; exact rfl
             · intro hb; simp only [stepE, evVal, opd, upd, setO, argsE, List.getD, binE, binInt, binStr, unE, wantedE, w0, w1, w2, Nat.reduceEqDiff, ↓reduceIte, Nat.reduceAdd, reduceCtorEq, eq_self, decide_true, decide_false, Bool.false_eq_true, Int.reduceBEq, Int.reduceBNe, Int.reduceLT, Int.reduceLE, Int.reduceGE, Int.reduceGT, Int.reduceEq, hb]; exact rfl))
        refine wpOps_nil (wpC_seq (wpC_reg ?_))
        repeat (first
          | (refine wpOps_plain rfl ?_
             simp only [stepE, evVal, opd, upd, setO, argsE, List.getD, binE, binInt, binStr, unE, wantedE, w0, w1, w2, Nat.reduceEqDiff, ↓reduceIte, Nat.reduceAdd, reduceCtorEq, eq_self, decide_true, decide_false, Bool.false_eq_true, Int.reduceBEq, Int.reduceBNe, Int.reduceLT, Int.reduceLE, Int.reduceGE, Int.reduceGT, Int.reduceEq])
          | (apply wpOps_on
             · simp only [wantedE, upd, setO, w0, w1, ↓reduceIte, Nat.reduceEqDiff, reduceCtorEq, Bool.false_eq_true, Int.reduceBEq, eq_self, decide_true, decide_false])
          | (apply wpOps_off
             · simp only [wantedE, upd, setO, w0, w1, ↓reduceIte, Nat.reduceEqDiff, reduceCtorEq, Bool.false_eq_true, Int.reduceBEq, eq_self, decide_true, decide_false]
             try dsimp only)
          | (apply wpOps_if
             · rfl
             · simp only [stepE, evVal, opd, upd, setO, argsE, List.getD, binE, binInt, binStr, unE, wantedE, w0, w1, w2, Nat.reduceEqDiff, ↓reduceIte, Nat.reduceAdd, reduceCtorEq, eq_self, decide_true, decide_false, Bool.false_eq_true, Int.reduceBEq, Int.reduceBNe, Int.reduceLT, Int.reduceLE, Int.reduceGE, Int.reduceGT, Int.reduceEq]; exact rfl
             · intro hb; simp only [stepE, evVal, opd, upd, setO, argsE, List.getD, binE, binInt, binStr, unE, wantedE, w0, w1, w2, Nat.reduceEqDiff, ↓reduceIte, Nat.reduceAdd, reduceCtorEq, eq_self, decide_true, decide_false, Bool.false_eq_true, Int.reduceBEq, Int.reduceBNe, Int.reduceLT, Int.reduceLE, Int.reduceGE, Int.reduceGT, Int.reduceEq, hb]; exact rfl))
        have hv6 := c6 M6 (xtS u) (by omega)
        rw [unx_xt u _ (by omega)] at hv6
        apply wpOps_call
        · first | rfl | (simp only [stepE, evVal, opd, upd, setO, argsE, List.getD, binE, binInt, binStr, unE, wantedE, w0, w1, w2, Nat.reduceEqDiff, ↓reduceIte, Nat.reduceAdd, reduceCtorEq, eq_self, decide_true, decide_false, Bool.false_eq_true, Int.reduceBEq, Int.reduceBNe, Int.reduceLT, Int.reduceLE, Int.reduceGE, Int.reduceGT, Int.reduceEq]; exact rfl)
        · (try simp only [stepE, evVal, opd, upd, setO, argsE, List.getD, binE, binInt, binStr, unE, wantedE, w0, w1, w2, Nat.reduceEqDiff, ↓reduceIte, Nat.reduceAdd, reduceCtorEq, eq_self, decide_true, decide_false, Bool.false_eq_true, Int.reduceBEq, Int.reduceBNe, Int.reduceLT, Int.reduceLE, Int.reduceGE, Int.reduceGT, Int.reduceEq]); exact (hv6)
        simp only [stepE, evVal, opd, upd, setO, argsE, List.getD, binE, binInt, binStr, unE, wantedE, w0, w1, w2, Nat.reduceEqDiff, ↓reduceIte, Nat.reduceAdd, reduceCtorEq, eq_self, decide_true, decide_false, Bool.false_eq_true, Int.reduceBEq, Int.reduceBNe, Int.reduceLT, Int.reduceLE, Int.reduceGE, Int.reduceGT, Int.reduceEq]
        repeat (first
          | (refine wpOps_plain rfl ?_
             simp only [stepE, evVal, opd, upd, setO, argsE, List.getD, binE, binInt, binStr, unE, wantedE, w0, w1, w2, Nat.reduceEqDiff, ↓reduceIte, Nat.reduceAdd, reduceCtorEq, eq_self, decide_true, decide_false, Bool.false_eq_true, Int.reduceBEq, Int.reduceBNe, Int.reduceLT, Int.reduceLE, Int.reduceGE, Int.reduceGT, Int.reduceEq, resU])
          | (apply wpOps_on
             · simp only [wantedE, upd, setO, w0, w1, ↓reduceIte, Nat.reduceEqDiff, reduceCtorEq, Bool.false_eq_true, Int.reduceBEq, eq_self, decide_true, decide_false])
          | (apply wpOps_off
             · simp only [wantedE, upd, setO, w0, w1, ↓reduceIte, Nat.reduceEqDiff, reduceCtorEq, Bool.false_eq_true, Int.reduceBEq, eq_self, decide_true, decide_false]
             try dsimp only)
          | (apply wpOps_if
             · rfl
             · simp only [stepE, evVal, opd, upd, setO, argsE, List.getD, binE, binInt, binStr, unE, wantedE, w0, w1, w2, Nat.reduceEqDiff, ↓reduceIte, Nat.reduceAdd, reduceCtorEq, eq_self, decide_true, decide_false, Bool.false_eq_true, Int.reduceBEq, Int.reduceBNe, Int.reduceLT, Int.reduceLE, Int.reduceGE, Int.reduceGT, Int.reduceEq]; exact rfl
             · intro hb; simp only [stepE, evVal, opd, upd, setO, argsE, List.getD, binE, binInt, binStr, unE, wantedE, w0, w1, w2, Nat.reduceEqDiff, ↓reduceIte, Nat.reduceAdd, reduceCtorEq, eq_self, decide_true, decide_false, Bool.false_eq_true, Int.reduceBEq, Int.reduceBNe, Int.reduceLT, Int.reduceLE, Int.reduceGE, Int.reduceGT, Int.reduceEq, hb, resU]; exact rfl))
        refine wpOps_new fun M7 e7 => ?_
        obtain ⟨M8, p8, g8, r8, L8, w8⟩ := put_new e7 (cs := [.int .i64 0, .int .i64 0]) rfl
        repeat (first
          | (refine wpOps_plain rfl ?_
             simp only [stepE, evVal, opd, upd, setO, argsE, List.getD, binE, binInt, binStr, unE, wantedE, w0, w1, w2, Nat.reduceEqDiff, ↓reduceIte, Nat.reduceAdd, reduceCtorEq, eq_self, decide_true, decide_false, Bool.false_eq_true, Int.reduceBEq, Int.reduceBNe, Int.reduceLT, Int.reduceLE, Int.reduceGE, Int.reduceGT, Int.reduceEq, p8])
          | (apply wpOps_on
             · simp only [wantedE, upd, setO, w0, w1, ↓reduceIte, Nat.reduceEqDiff, reduceCtorEq, Bool.false_eq_true, Int.reduceBEq, eq_self, decide_true, decide_false])
          | (apply wpOps_off
             · simp only [wantedE, upd, setO, w0, w1, ↓reduceIte, Nat.reduceEqDiff, reduceCtorEq, Bool.false_eq_true, Int.reduceBEq, eq_self, decide_true, decide_false]
             try dsimp only)
          | (apply wpOps_if
             · rfl
             · simp only [stepE, evVal, opd, upd, setO, argsE, List.getD, binE, binInt, binStr, unE, wantedE, w0, w1, w2, Nat.reduceEqDiff, ↓reduceIte, Nat.reduceAdd, reduceCtorEq, eq_self, decide_true, decide_false, Bool.false_eq_true, Int.reduceBEq, Int.reduceBNe, Int.reduceLT, Int.reduceLE, Int.reduceGE, Int.reduceGT, Int.reduceEq]; exact rfl
             · intro hb; simp only [stepE, evVal, opd, upd, setO, argsE, List.getD, binE, binInt, binStr, unE, wantedE, w0, w1, w2, Nat.reduceEqDiff, ↓reduceIte, Nat.reduceAdd, reduceCtorEq, eq_self, decide_true, decide_false, Bool.false_eq_true, Int.reduceBEq, Int.reduceBNe, Int.reduceLT, Int.reduceLE, Int.reduceGE, Int.reduceGT, Int.reduceEq, hb, p8]; exact rfl))
        refine wpOps_nil (wpC_seq (wpC_reg ?_))
        have d41 := get_row (G := G) ((r4.grown g6).grown g8) (off := 1) (v := .int .i64 0) (sub_one rfl)
        have d80 := get_row (G := G) r8 (off := 0) (v := .int .i64 0) (sub_one rfl)
        have k3 : (((xtS u).length : Int) ≤ (s.length : Int)) = True := eq_true (by omega)
        repeat (first
          | (refine wpOps_plain rfl ?_
             simp only [stepE, evVal, opd, upd, setO, argsE, List.getD, binE, binInt, binStr, unE, wantedE, w0, w1, w2, Nat.reduceEqDiff, ↓reduceIte, Nat.reduceAdd, reduceCtorEq, eq_self, decide_true, decide_false, Bool.false_eq_true, Int.reduceBEq, Int.reduceBNe, Int.reduceLT, Int.reduceLE, Int.reduceGE, Int.reduceGT, Int.reduceEq, A0, d41, d80, k3])
          | (apply wpOps_on
             · simp only [wantedE, upd, setO, w0, w1, ↓reduceIte, Nat.reduceEqDiff, reduceCtorEq, Bool.false_eq_true, Int.reduceBEq, eq_self, decide_true, decide_false])
          | (apply wpOps_off
             · simp only [wantedE, upd, setO, w0, w1, ↓reduceIte, Nat.reduceEqDiff, reduceCtorEq, Bool.false_eq_true, Int.reduceBEq, eq_self, decide_true, decide_false]
             try dsimp only)
          | (apply wpOps_if
             · rfl
             · simp only [stepE, evVal, opd, upd, setO, argsE, List.getD, binE, binInt, binStr, unE, wantedE, w0, w1, w2, Nat.reduceEqDiff, ↓reduceIte, Nat.reduceAdd, reduceCtorEq, eq_self, decide_true, decide_false, Bool.false_eq_true, Int.reduceBEq, Int.reduceBNe, Int.reduceLT, Int.reduceLE, Int.reduceGE, Int.reduceGT, Int.reduceEq]; exact rfl
             · intro hb; simp only [stepE, evVal, opd, upd, setO, argsE, List.getD, binE, binInt, binStr, unE, wantedE, w0, w1, w2, Nat.reduceEqDiff, ↓reduceIte, Nat.reduceAdd, reduceCtorEq, eq_self, decide_true, decide_false, Bool.false_eq_true, Int.reduceBEq, Int.reduceBNe, Int.reduceLT, Int.reduceLE, Int.reduceGE, Int.reduceGT, Int.reduceEq, hb, A0, d41, d80, k3]; exact rfl))
        refine wpOps_nil (wpC_ret ?_)
        try simp only [thenE, againE, blockE]
        refine post_ret ?_ (by omega) rfl
        simp only [F3, resultsE, resE, upd, ↓reduceIte, Nat.reduceEqDiff]
      | error e =>
        rw [hu] at hs6 hb
        simp only [Within] at hb
        apply wpOps_call
        · first | rfl | (simp only [stepE, evVal, opd, upd, setO, argsE, List.getD, binE, binInt, binStr, unE, wantedE, w0, w1, w2, Nat.reduceEqDiff, ↓reduceIte, Nat.reduceAdd, reduceCtorEq, eq_self, decide_true, decide_false, Bool.false_eq_true, Int.reduceBEq, Int.reduceBNe, Int.reduceLT, Int.reduceLE, Int.reduceGE, Int.reduceGT, Int.reduceEq]; exact rfl)
        · (try simp only [stepE, evVal, opd, upd, setO, argsE, List.getD, binE, binInt, binStr, unE, wantedE, w0, w1, w2, Nat.reduceEqDiff, ↓reduceIte, Nat.reduceAdd, reduceCtorEq, eq_self, decide_true, decide_false, Bool.false_eq_true, Int.reduceBEq, Int.reduceBNe, Int.reduceLT, Int.reduceLE, Int.reduceGE, Int.reduceGT, Int.reduceEq]); exact (hs6)
        simp only [stepE, evVal, opd, upd, setO, argsE, List.getD, binE, binInt, binStr, unE, wantedE, w0, w1, w2, Nat.reduceEqDiff, ↓reduceIte, Nat.reduceAdd, reduceCtorEq, eq_self, decide_true, decide_false, Bool.false_eq_true, Int.reduceBEq, Int.reduceBNe, Int.reduceLT, Int.reduceLE, Int.reduceGE, Int.reduceGT, Int.reduceEq]
        repeat (first
          | (refine wpOps_plain rfl ?_
             simp only [stepE, evVal, opd, upd, setO, argsE, List.getD, binE, binInt, binStr, unE, wantedE, w0, w1, w2, Nat.reduceEqDiff, ↓reduceIte, Nat.reduceAdd, reduceCtorEq, eq_self, decide_true, decide_false, Bool.false_eq_true, Int.reduceBEq, Int.reduceBNe, Int.reduceLT, Int.reduceLE, Int.reduceGE, Int.reduceGT, Int.reduceEq, resU])
          | (apply wpOps_on
             · simp only [wantedE, upd, setO, w0, w1, ↓reduceIte, Nat.reduceEqDiff, reduceCtorEq, Bool.false_eq_true, Int.reduceBEq, eq_self, decide_true, decide_false])
          | (apply wpOps_off
             · simp only [wantedE, upd, setO, w0, w1, ↓reduceIte, Nat.reduceEqDiff, reduceCtorEq, Bool.false_eq_true, Int.reduceBEq, eq_self, decide_true, decide_false]
             try dsimp only)
          | (apply wpOps_if
             · rfl
             · simp only [stepE, evVal, opd, upd, setO, argsE, List.getD, binE, binInt, binStr, unE, wantedE, w0, w1, w2, Nat.reduceEqDiff, ↓reduceIte, Nat.reduceAdd, reduceCtorEq, eq_self, decide_true, decide_false, Bool.false_eq_true, Int.reduceBEq, Int.reduceBNe, Int.reduceLT, Int.reduceLE, Int.reduceGE, Int.reduceGT, Int.reduceEq]; exact rfl
             · intro hb; simp only [stepE, evVal, opd, upd, setO, argsE, List.getD, binE, binInt, binStr, unE, wantedE, w0, w1, w2, Nat.reduceEqDiff, ↓reduceIte, Nat.reduceAdd, reduceCtorEq, eq_self, decide_true, decide_false, Bool.false_eq_true, Int.reduceBEq, Int.reduceBNe, Int.reduceLT, Int.reduceLE, Int.reduceGE, Int.reduceGT, Int.reduceEq, hb, resU]; exact rfl))
        refine wpOps_new fun M3 e3 => ?_
        obtain ⟨M4, p4, g4, r4, L4, w4⟩ := put_new e3 (cs := [.int .i64 104, .int .i64 (e : Nat)]) rfl
        repeat (first
          | (refine wpOps_plain rfl ?_
             simp only [stepE, evVal, opd, upd, setO, argsE, List.getD, binE, binInt, binStr, unE, wantedE, w0, w1, w2, Nat.reduceEqDiff, ↓reduceIte, Nat.reduceAdd, reduceCtorEq, eq_self, decide_true, decide_false, Bool.false_eq_true, Int.reduceBEq, Int.reduceBNe, Int.reduceLT, Int.reduceLE, Int.reduceGE, Int.reduceGT, Int.reduceEq, p4])
          | (apply wpOps_on
             · simp only [wantedE, upd, setO, w0, w1, ↓reduceIte, Nat.reduceEqDiff, reduceCtorEq, Bool.false_eq_true, Int.reduceBEq, eq_self, decide_true, decide_false])
          | (apply wpOps_off
             · simp only [wantedE, upd, setO, w0, w1, ↓reduceIte, Nat.reduceEqDiff, reduceCtorEq, Bool.false_eq_true, Int.reduceBEq, eq_self, decide_true, decide_false]
             try dsimp only)
          | (apply wpOps_if
             · rfl
             · simp only [stepE, evVal, opd, upd, setO, argsE, List.getD, binE, binInt, binStr, unE, wantedE, w0, w1, w2, Nat.reduceEqDiff, ↓reduceIte, Nat.reduceAdd, reduceCtorEq, eq_self, decide_true, decide_false, Bool.false_eq_true, Int.reduceBEq, Int.reduceBNe, Int.reduceLT, Int.reduceLE, Int.reduceGE, Int.reduceGT, Int.reduceEq]; exact rfl
             · intro hb; simp only [stepE, evVal, opd, upd, setO, argsE, List.getD, binE, binInt, binStr, unE, wantedE, w0, w1, w2, Nat.reduceEqDiff, ↓reduceIte, Nat.reduceAdd, reduceCtorEq, eq_self, decide_true, decide_false, Bool.false_eq_true, Int.reduceBEq, Int.reduceBNe, Int.reduceLT, Int.reduceLE, Int.reduceGE, Int.reduceGT, Int.reduceEq, hb, p4]; exact rfl))
        refine wpOps_nil (wpC_seq (wpC_reg ?_))
        repeat (first
          | (refine wpOps_plain rfl ?_
             simp only [stepE, evVal, opd, upd, setO, argsE, List.getD, binE, binInt, binStr, unE, wantedE, w0, w1, w2, Nat.reduceEqDiff, ↓reduceIte, Nat.reduceAdd, reduceCtorEq, eq_self, decide_true, decide_false, Bool.false_eq_true, Int.reduceBEq, Int.reduceBNe, Int.reduceLT, Int.reduceLE, Int.reduceGE, Int.reduceGT, Int.reduceEq, A0])
          | (apply wpOps_on
             · simp only [wantedE, upd, setO, w0, w1, ↓reduceIte, Nat.reduceEqDiff, reduceCtorEq, Bool.false_eq_true, Int.reduceBEq, eq_self, decide_true, decide_false])
          | (apply wpOps_off
             · simp only [wantedE, upd, setO, w0, w1, ↓reduceIte, Nat.reduceEqDiff, reduceCtorEq, Bool.false_eq_true, Int.reduceBEq, eq_self, decide_true, decide_false]
             try dsimp only)
          | (apply wpOps_if
             · rfl
             · simp only [stepE, evVal, opd, upd, setO, argsE, List.getD, binE, binInt, binStr, unE, wantedE, w0, w1, w2, Nat.reduceEqDiff, ↓reduceIte, Nat.reduceAdd, reduceCtorEq, eq_self, decide_true, decide_false, Bool.false_eq_true, Int.reduceBEq, Int.reduceBNe, Int.reduceLT, Int.reduceLE, Int.reduceGE, Int.reduceGT, Int.reduceEq]; exact rfl
             · intro hb; simp only [stepE, evVal, opd, upd, setO, argsE, List.getD, binE, binInt, binStr, unE, wantedE, w0, w1, w2, Nat.reduceEqDiff, ↓reduceIte, Nat.reduceAdd, reduceCtorEq, eq_self, decide_true, decide_false, Bool.false_eq_true, Int.reduceBEq, Int.reduceBNe, Int.reduceLT, Int.reduceLE, Int.reduceGE, Int.reduceGT, Int.reduceEq, hb, A0]; exact rfl))
        have hs8 := c8 M4 s (by omega)
        rw [hu] at hs8
        apply wpOps_call
        · first | rfl | (simp only [stepE, evVal, opd, upd, setO, argsE, List.getD, binE, binInt, binStr, unE, wantedE, w0, w1, w2, Nat.reduceEqDiff, ↓reduceIte, Nat.reduceAdd, reduceCtorEq, eq_self, decide_true, decide_false, Bool.false_eq_true, Int.reduceBEq, Int.reduceBNe, Int.reduceLT, Int.reduceLE, Int.reduceGE, Int.reduceGT, Int.reduceEq]; exact rfl)
        · (try simp only [stepE, evVal, opd, upd, setO, argsE, List.getD, binE, binInt, binStr, unE, wantedE, w0, w1, w2, Nat.reduceEqDiff, ↓reduceIte, Nat.reduceAdd, reduceCtorEq, eq_self, decide_true, decide_false, Bool.false_eq_true, Int.reduceBEq, Int.reduceBNe, Int.reduceLT, Int.reduceLE, Int.reduceGE, Int.reduceGT, Int.reduceEq]); exact (hs8)
        simp only [stepE, evVal, opd, upd, setO, argsE, List.getD, binE, binInt, binStr, unE, wantedE, w0, w1, w2, Nat.reduceEqDiff, ↓reduceIte, Nat.reduceAdd, reduceCtorEq, eq_self, decide_true, decide_false, Bool.false_eq_true, Int.reduceBEq, Int.reduceBNe, Int.reduceLT, Int.reduceLE, Int.reduceGE, Int.reduceGT, Int.reduceEq]
        repeat (first
          | (refine wpOps_plain rfl ?_
             simp only [stepE, evVal, opd, upd, setO, argsE, List.getD, binE, binInt, binStr, unE, wantedE, w0, w1, w2, Nat.reduceEqDiff, ↓reduceIte, Nat.reduceAdd, reduceCtorEq, eq_self, decide_true, decide_false, Bool.false_eq_true, Int.reduceBEq, Int.reduceBNe, Int.reduceLT, Int.reduceLE, Int.reduceGE, Int.reduceGT, Int.reduceEq, resU])
          | (apply wpOps_on
             · simp only [wantedE, upd, setO, w0, w1, ↓reduceIte, Nat.reduceEqDiff, reduceCtorEq, Bool.false_eq_true, Int.reduceBEq, eq_self, decide_true, decide_false])
          | (apply wpOps_off
             · simp only [wantedE, upd, setO, w0, w1, ↓reduceIte, Nat.reduceEqDiff, reduceCtorEq, Bool.false_eq_true, Int.reduceBEq, eq_self, decide_true, decide_false]
             try dsimp only)
          | (apply wpOps_if
             · rfl
             · simp only [stepE, evVal, opd, upd, setO, argsE, List.getD, binE, binInt, binStr, unE, wantedE, w0, w1, w2, Nat.reduceEqDiff, ↓reduceIte, Nat.reduceAdd, reduceCtorEq, eq_self, decide_true, decide_false, Bool.false_eq_true, Int.reduceBEq, Int.reduceBNe, Int.reduceLT, Int.reduceLE, Int.reduceGE, Int.reduceGT, Int.reduceEq]; exact rfl
             · intro hb; simp only [stepE, evVal, opd, upd, setO, argsE, List.getD, binE, binInt, binStr, unE, wantedE, w0, w1, w2, Nat.reduceEqDiff, ↓reduceIte, Nat.reduceAdd, reduceCtorEq, eq_self, decide_true, decide_false, Bool.false_eq_true, Int.reduceBEq, Int.reduceBNe, Int.reduceLT, Int.reduceLE, Int.reduceGE, Int.reduceGT, Int.reduceEq, hb, resU]; exact rfl))
        refine wpOps_new fun M5 e5 => ?_
        obtain ⟨M6, p6, g6, r6, L6, w6⟩ := put_new e5 (cs := [.int .i64 104, .int .i64 (e : Nat)]) rfl
        repeat (first
          | (refine wpOps_plain rfl ?_
             simp only [stepE, evVal, opd, upd, setO, argsE, List.getD, binE, binInt, binStr, unE, wantedE, w0, w1, w2, Nat.reduceEqDiff, ↓reduceIte, Nat.reduceAdd, reduceCtorEq, eq_self, decide_true, decide_false, Bool.false_eq_true, Int.reduceBEq, Int.reduceBNe, Int.reduceLT, Int.reduceLE, Int.reduceGE, Int.reduceGT, Int.reduceEq, p6])
          | (apply wpOps_on
             · simp only [wantedE, upd, setO, w0, w1, ↓reduceIte, Nat.reduceEqDiff, reduceCtorEq, Bool.false_eq_true, Int.reduceBEq, eq_self, decide_true, decide_false])
          | (apply wpOps_off
             · simp only [wantedE, upd, setO, w0, w1, ↓reduceIte, Nat.reduceEqDiff, reduceCtorEq, Bool.false_eq_true, Int.reduceBEq, eq_self, decide_true, decide_false]
             try dsimp only)
          | (apply wpOps_if
             · rfl
             · simp only [stepE, evVal, opd, upd, setO, argsE, List.getD, binE, binInt, binStr, unE, wantedE, w0, w1, w2, Nat.reduceEqDiff, ↓reduceIte, Nat.reduceAdd, reduceCtorEq, eq_self, decide_true, decide_false, Bool.false_eq_true, Int.reduceBEq, Int.reduceBNe, Int.reduceLT, Int.reduceLE, Int.reduceGE, Int.reduceGT, Int.reduceEq]; exact rfl
             · intro hb; simp only [stepE, evVal, opd, upd, setO, argsE, List.getD, binE, binInt, binStr, unE, wantedE, w0, w1, w2, Nat.reduceEqDiff, ↓reduceIte, Nat.reduceAdd, reduceCtorEq, eq_self, decide_true, decide_false, Bool.false_eq_true, Int.reduceBEq, Int.reduceBNe, Int.reduceLT, Int.reduceLE, Int.reduceGE, Int.reduceGT, Int.reduceEq, hb, p6]; exact rfl))
        refine wpOps_nil (wpC_seq (wpC_seq (wpC_reg ?_)))
        have d4 := getN_row (G := G) (r4.grown g6) (sub_all (n := 2) rfl)
        have d6 := getN_row (G := G) r6 (sub_all (n := 2) rfl)
        have d40 := get_row (G := G) (r4.grown g6) (off := 0) (v := .int .i64 104) (sub_one rfl)
        repeat (first
          | (refine wpOps_plain rfl ?_
             simp only [stepE, evVal, opd, upd, setO, argsE, List.getD, binE, binInt, binStr, unE, wantedE, w0, w1, w2, Nat.reduceEqDiff, ↓reduceIte, Nat.reduceAdd, reduceCtorEq, eq_self, decide_true, decide_false, Bool.false_eq_true, Int.reduceBEq, Int.reduceBNe, Int.reduceLT, Int.reduceLE, Int.reduceGE, Int.reduceGT, Int.reduceEq, d4, d6, same2, Option.map_some])
          | (apply wpOps_on
             · simp only [wantedE, upd, setO, w0, w1, ↓reduceIte, Nat.reduceEqDiff, reduceCtorEq, Bool.false_eq_true, Int.reduceBEq, eq_self, decide_true, decide_false])
          | (apply wpOps_off
             · simp only [wantedE, upd, setO, w0, w1, ↓reduceIte, Nat.reduceEqDiff, reduceCtorEq, Bool.false_eq_true, Int.reduceBEq, eq_self, decide_true, decide_false]
             try dsimp only)
          | (apply wpOps_if
             · rfl
             · simp only [stepE, evVal, opd, upd, setO, argsE, List.getD, binE, binInt, binStr, unE, wantedE, w0, w1, w2, Nat.reduceEqDiff, ↓reduceIte, Nat.reduceAdd, reduceCtorEq, eq_self, decide_true, decide_false, Bool.false_eq_true, Int.reduceBEq, Int.reduceBNe, Int.reduceLT, Int.reduceLE, Int.reduceGE, Int.reduceGT, Int.reduceEq]; exact rfl
             · intro hb; simp only [stepE, evVal, opd, upd, setO, argsE, List.getD, binE, binInt, binStr, unE, wantedE, w0, w1, w2, Nat.reduceEqDiff, ↓reduceIte, Nat.reduceAdd, reduceCtorEq, eq_self, decide_true, decide_false, Bool.false_eq_true, Int.reduceBEq, Int.reduceBNe, Int.reduceLT, Int.reduceLE, Int.reduceGE, Int.reduceGT, Int.reduceEq, hb, d4, d6, same2, Option.map_some]; exact rfl))
        refine wpOps_nil (wpC_cond (t := false) (by simp only [stepE, evVal, opd, upd, setO, argsE, List.getD, binE, binInt, binStr, unE, wantedE, w0, w1, w2, Nat.reduceEqDiff, ↓reduceIte, Nat.reduceAdd, reduceCtorEq, eq_self, decide_true, decide_false, Bool.false_eq_true, Int.reduceBEq, Int.reduceBNe, Int.reduceLT, Int.reduceLE, Int.reduceGE, Int.reduceGT, Int.reduceEq]) (fun h => by cases h) (fun _ => ?_))
        refine wpC_skip ?_
        simp only [thenE]
        refine wpC_seq (wpC_seq (wpC_reg ?_))
        repeat (first
          | (refine wpOps_plain rfl ?_
             simp only [stepE, evVal, opd, upd, setO, argsE, List.getD, binE, binInt, binStr, unE, wantedE, w0, w1, w2, Nat.reduceEqDiff, ↓reduceIte, Nat.reduceAdd, reduceCtorEq, eq_self, decide_true, decide_false, Bool.false_eq_true, Int.reduceBEq, Int.reduceBNe, Int.reduceLT, Int.reduceLE, Int.reduceGE, Int.reduceGT, Int.reduceEq, d40])
          | (apply wpOps_on
             · simp only [wantedE, upd, setO, w0, w1, ↓reduceIte, Nat.reduceEqDiff, reduceCtorEq, Bool.false_eq_true, Int.reduceBEq, eq_self, decide_true, decide_false])
          | (apply wpOps_off
             · simp only [wantedE, upd, setO, w0, w1, ↓reduceIte, Nat.reduceEqDiff, reduceCtorEq, Bool.false_eq_true, Int.reduceBEq, eq_self, decide_true, decide_false]
             try dsimp only)
          | (apply wpOps_if
             · rfl
             · simp only [stepE, evVal, opd, upd, setO, argsE, List.getD, binE, binInt, binStr, unE, wantedE, w0, w1, w2, Nat.reduceEqDiff, ↓reduceIte, Nat.reduceAdd, reduceCtorEq, eq_self, decide_true, decide_false, Bool.false_eq_true, Int.reduceBEq, Int.reduceBNe, Int.reduceLT, Int.reduceLE, Int.reduceGE, Int.reduceGT, Int.reduceEq]; exact rfl
             · intro hb; simp only [stepE, evVal, opd, upd, setO, argsE, List.getD, binE, binInt, binStr, unE, wantedE, w0, w1, w2, Nat.reduceEqDiff, ↓reduceIte, Nat.reduceAdd, reduceCtorEq, eq_self, decide_true, decide_false, Bool.false_eq_true, Int.reduceBEq, Int.reduceBNe, Int.reduceLT, Int.reduceLE, Int.reduceGE, Int.reduceGT, Int.reduceEq, hb, d40]; exact rfl))
        refine wpOps_nil (wpC_cond (t := false) (by simp only [stepE, evVal, opd, upd, setO, argsE, List.getD, binE, binInt, binStr, unE, wantedE, w0, w1, w2, Nat.reduceEqDiff, ↓reduceIte, Nat.reduceAdd, reduceCtorEq, eq_self, decide_true, decide_false, Bool.false_eq_true, Int.reduceBEq, Int.reduceBNe, Int.reduceLT, Int.reduceLE, Int.reduceGE, Int.reduceGT, Int.reduceEq]) (fun h => by cases h) (fun _ => ?_))
        refine wpC_skip ?_
        simp only [thenE]
        refine wpC_seq (wpC_reg ?_)
        have hadd : (([97, 43, 48, 48] : List UInt8).length + s.length ≤ 9223372036854775807) = True := eq_true (by simp; omega)
        repeat (first
          | (refine wpOps_plain rfl ?_
             simp only [stepE, evVal, opd, upd, setO, argsE, List.getD, binE, binInt, binStr, unE, wantedE, w0, w1, w2, Nat.reduceEqDiff, ↓reduceIte, Nat.reduceAdd, reduceCtorEq, eq_self, decide_true, decide_false, Bool.false_eq_true, Int.reduceBEq, Int.reduceBNe, Int.reduceLT, Int.reduceLE, Int.reduceGE, Int.reduceGT, Int.reduceEq, A0, hadd, if_true])
          | (apply wpOps_on
             · simp only [wantedE, upd, setO, w0, w1, ↓reduceIte, Nat.reduceEqDiff, reduceCtorEq, Bool.false_eq_true, Int.reduceBEq, eq_self, decide_true, decide_false])
          | (apply wpOps_off
             · simp only [wantedE, upd, setO, w0, w1, ↓reduceIte, Nat.reduceEqDiff, reduceCtorEq, Bool.false_eq_true, Int.reduceBEq, eq_self, decide_true, decide_false]
             try dsimp only)
          | (apply wpOps_if
             · rfl
             · simp only [stepE, evVal, opd, upd, setO, argsE, List.getD, binE, binInt, binStr, unE, wantedE, w0, w1, w2, Nat.reduceEqDiff, ↓reduceIte, Nat.reduceAdd, reduceCtorEq, eq_self, decide_true, decide_false, Bool.false_eq_true, Int.reduceBEq, Int.reduceBNe, Int.reduceLT, Int.reduceLE, Int.reduceGE, Int.reduceGT, Int.reduceEq]; exact rfl
             · intro hb; simp only [stepE, evVal, opd, upd, setO, argsE, List.getD, binE, binInt, binStr, unE, wantedE, w0, w1, w2, Nat.reduceEqDiff, ↓reduceIte, Nat.reduceAdd, reduceCtorEq, eq_self, decide_true, decide_false, Bool.false_eq_true, Int.reduceBEq, Int.reduceBNe, Int.reduceLT, Int.reduceLE, Int.reduceGE, Int.reduceGT, Int.reduceEq, hb, A0, hadd, if_true]; exact rfl))
        have hl6 := c6 M6 ([97, 43, 48, 48] ++ s) (by simp; omega)
        rw [unx_ahead s e hu] at hl6
        apply wpOps_call
        · first | rfl | (simp only [stepE, evVal, opd, upd, setO, argsE, List.getD, binE, binInt, binStr, unE, wantedE, w0, w1, w2, Nat.reduceEqDiff, ↓reduceIte, Nat.reduceAdd, reduceCtorEq, eq_self, decide_true, decide_false, Bool.false_eq_true, Int.reduceBEq, Int.reduceBNe, Int.reduceLT, Int.reduceLE, Int.reduceGE, Int.reduceGT, Int.reduceEq]; exact rfl)
        · (try simp only [stepE, evVal, opd, upd, setO, argsE, List.getD, binE, binInt, binStr, unE, wantedE, w0, w1, w2, Nat.reduceEqDiff, ↓reduceIte, Nat.reduceAdd, reduceCtorEq, eq_self, decide_true, decide_false, Bool.false_eq_true, Int.reduceBEq, Int.reduceBNe, Int.reduceLT, Int.reduceLE, Int.reduceGE, Int.reduceGT, Int.reduceEq]); exact (hl6)
        simp only [stepE, evVal, opd, upd, setO, argsE, List.getD, binE, binInt, binStr, unE, wantedE, w0, w1, w2, Nat.reduceEqDiff, ↓reduceIte, Nat.reduceAdd, reduceCtorEq, eq_self, decide_true, decide_false, Bool.false_eq_true, Int.reduceBEq, Int.reduceBNe, Int.reduceLT, Int.reduceLE, Int.reduceGE, Int.reduceGT, Int.reduceEq]
        repeat (first
          | (refine wpOps_plain rfl ?_
             simp only [stepE, evVal, opd, upd, setO, argsE, List.getD, binE, binInt, binStr, unE, wantedE, w0, w1, w2, Nat.reduceEqDiff, ↓reduceIte, Nat.reduceAdd, reduceCtorEq, eq_self, decide_true, decide_false, Bool.false_eq_true, Int.reduceBEq, Int.reduceBNe, Int.reduceLT, Int.reduceLE, Int.reduceGE, Int.reduceGT, Int.reduceEq, resU])
          | (apply wpOps_on
             · simp only [wantedE, upd, setO, w0, w1, ↓reduceIte, Nat.reduceEqDiff, reduceCtorEq, Bool.false_eq_true, Int.reduceBEq, eq_self, decide_true, decide_false])
          | (apply wpOps_off
             · simp only [wantedE, upd, setO, w0, w1, ↓reduceIte, Nat.reduceEqDiff, reduceCtorEq, Bool.false_eq_true, Int.reduceBEq, eq_self, decide_true, decide_false]
             try dsimp only)
          | (apply wpOps_if
             · rfl
             · simp only [stepE, evVal, opd, upd, setO, argsE, List.getD, binE, binInt, binStr, unE, wantedE, w0, w1, w2, Nat.reduceEqDiff, ↓reduceIte, Nat.reduceAdd, reduceCtorEq, eq_self, decide_true, decide_false, Bool.false_eq_true, Int.reduceBEq, Int.reduceBNe, Int.reduceLT, Int.reduceLE, Int.reduceGE, Int.reduceGT, Int.reduceEq]; exact rfl
             · intro hb; simp only [stepE, evVal, opd, upd, setO, argsE, List.getD, binE, binInt, binStr, unE, wantedE, w0, w1, w2, Nat.reduceEqDiff, ↓reduceIte, Nat.reduceAdd, reduceCtorEq, eq_self, decide_true, decide_false, Bool.false_eq_true, Int.reduceBEq, Int.reduceBNe, Int.reduceLT, Int.reduceLE, Int.reduceGE, Int.reduceGT, Int.reduceEq, hb, resU]; exact rfl))
        refine wpOps_new fun M7 e7 => ?_
        obtain ⟨M8, p8, g8, r8, L8, w8⟩ := put_new e7 (cs := [.int .i64 104, .int .i64 ((e + 4 : Nat) : Int)]) rfl
        repeat (first
          | (refine wpOps_plain rfl ?_
             simp only [stepE, evVal, opd, upd, setO, argsE, List.getD, binE, binInt, binStr, unE, wantedE, w0, w1, w2, Nat.reduceEqDiff, ↓reduceIte, Nat.reduceAdd, reduceCtorEq, eq_self, decide_true, decide_false, Bool.false_eq_true, Int.reduceBEq, Int.reduceBNe, Int.reduceLT, Int.reduceLE, Int.reduceGE, Int.reduceGT, Int.reduceEq, p8])
          | (apply wpOps_on
             · simp only [wantedE, upd, setO, w0, w1, ↓reduceIte, Nat.reduceEqDiff, reduceCtorEq, Bool.false_eq_true, Int.reduceBEq, eq_self, decide_true, decide_false])
          | (apply wpOps_off
             · simp only [wantedE, upd, setO, w0, w1, ↓reduceIte, Nat.reduceEqDiff, reduceCtorEq, Bool.false_eq_true, Int.reduceBEq, eq_self, decide_true, decide_false]
             try dsimp only)
          | (apply wpOps_if
             · rfl
             · simp only [stepE, evVal, opd, upd, setO, argsE, List.getD, binE, binInt, binStr, unE, wantedE, w0, w1, w2, Nat.reduceEqDiff, ↓reduceIte, Nat.reduceAdd, reduceCtorEq, eq_self, decide_true, decide_false, Bool.false_eq_true, Int.reduceBEq, Int.reduceBNe, Int.reduceLT, Int.reduceLE, Int.reduceGE, Int.reduceGT, Int.reduceEq]; exact rfl
             · intro hb; simp only [stepE, evVal, opd, upd, setO, argsE, List.getD, binE, binInt, binStr, unE, wantedE, w0, w1, w2, Nat.reduceEqDiff, ↓reduceIte, Nat.reduceAdd, reduceCtorEq, eq_self, decide_true, decide_false, Bool.false_eq_true, Int.reduceBEq, Int.reduceBNe, Int.reduceLT, Int.reduceLE, Int.reduceGE, Int.reduceGT, Int.reduceEq, hb, p8]; exact rfl))
        refine wpOps_nil (wpC_seq (wpC_reg ?_))
        have d40' := get_row (G := G) ((r4.grown g6).grown g8) (off := 0) (v := .int .i64 104) (sub_one rfl)
        have d41 := get_row (G := G) ((r4.grown g6).grown g8) (off := 1) (v := .int .i64 (e : Nat)) (sub_one rfl)
        have d8 := getN_row (G := G) r8 (sub_all (n := 2) rfl)
        have k3 : ((e : Int) ≥ 0) = True := eq_true (by omega)
        have k4 : ((e : Int) ≤ (s.length : Int)) = True := eq_true (by omega)
        have hw4 : IntKind.i64.wrap ((e : Int) + 4) = ((e + 4 : Nat) : Int) := wrap_ok (by omega) (by omega)
        repeat (first
          | (refine wpOps_plain rfl ?_
             simp only [stepE, evVal, opd, upd, setO, argsE, List.getD, binE, binInt, binStr, unE, wantedE, w0, w1, w2, Nat.reduceEqDiff, ↓reduceIte, Nat.reduceAdd, reduceCtorEq, eq_self, decide_true, decide_false, Bool.false_eq_true, Int.reduceBEq, Int.reduceBNe, Int.reduceLT, Int.reduceLE, Int.reduceGE, Int.reduceGT, Int.reduceEq, A0, d40', d41, d8, k3, k4, hw4])
          | (apply wpOps_on
             · simp only [wantedE, upd, setO, w0, w1, ↓reduceIte, Nat.reduceEqDiff, reduceCtorEq, Bool.false_eq_true, Int.reduceBEq, eq_self, decide_true, decide_false])
          | (apply wpOps_off
             · simp only [wantedE, upd, setO, w0, w1, ↓reduceIte, Nat.reduceEqDiff, reduceCtorEq, Bool.false_eq_true, Int.reduceBEq, eq_self, decide_true, decide_false]
             try dsimp only)
          | (apply wpOps_if
             · rfl
             · simp only [stepE, evVal, opd, upd, setO, argsE, List.getD, binE, binInt, binStr, unE, wantedE, w0, w1, w2, Nat.reduceEqDiff, ↓reduceIte, Nat.reduceAdd, reduceCtorEq, eq_self, decide_true, decide_false, Bool.false_eq_true, Int.reduceBEq, Int.reduceBNe, Int.reduceLT, Int.reduceLE, Int.reduceGE, Int.reduceGT, Int.reduceEq]; exact rfl
             · intro hb; simp only [stepE, evVal, opd, upd, setO, argsE, List.getD, binE, binInt, binStr, unE, wantedE, w0, w1, w2, Nat.reduceEqDiff, ↓reduceIte, Nat.reduceAdd, reduceCtorEq, eq_self, decide_true, decide_false, Bool.false_eq_true, Int.reduceBEq, Int.reduceBNe, Int.reduceLT, Int.reduceLE, Int.reduceGE, Int.reduceGT, Int.reduceEq, hb, A0, d40', d41, d8, k3, k4, hw4]; exact rfl))
        refine wpOps_build (cs := [.int .i64 104, .int .i64 ((e + 4 : Nat) : Int)]) rfl ?_
        repeat (first
          | (refine wpOps_plain rfl ?_
             simp only [stepE, evVal, opd, upd, setO, argsE, List.getD, binE, binInt, binStr, unE, wantedE, w0, w1, w2, Nat.reduceEqDiff, ↓reduceIte, Nat.reduceAdd, reduceCtorEq, eq_self, decide_true, decide_false, Bool.false_eq_true, Int.reduceBEq, Int.reduceBNe, Int.reduceLT, Int.reduceLE, Int.reduceGE, Int.reduceGT, Int.reduceEq, same2, Option.map_some])
          | (apply wpOps_on
             · simp only [wantedE, upd, setO, w0, w1, ↓reduceIte, Nat.reduceEqDiff, reduceCtorEq, Bool.false_eq_true, Int.reduceBEq, eq_self, decide_true, decide_false])
          | (apply wpOps_off
             · simp only [wantedE, upd, setO, w0, w1, ↓reduceIte, Nat.reduceEqDiff, reduceCtorEq, Bool.false_eq_true, Int.reduceBEq, eq_self, decide_true, decide_false]
             try dsimp only)
          | (apply wpOps_if
             · rfl
             · simp only [stepE, evVal, opd, upd, setO, argsE, List.getD, binE, binInt, binStr, unE, wantedE, w0, w1, w2, Nat.reduceEqDiff, ↓reduceIte, Nat.reduceAdd, reduceCtorEq, eq_self, decide_true, decide_false, Bool.false_eq_true, Int.reduceBEq, Int.reduceBNe, Int.reduceLT, Int.reduceLE, Int.reduceGE, Int.reduceGT, Int.reduceEq]; exact rfl
             · intro hb; simp only [stepE, evVal, opd, upd, setO, argsE, List.getD, binE, binInt, binStr, unE, wantedE, w0, w1, w2, Nat.reduceEqDiff, ↓reduceIte, Nat.reduceAdd, reduceCtorEq, eq_self, decide_true, decide_false, Bool.false_eq_true, Int.reduceBEq, Int.reduceBNe, Int.reduceLT, Int.reduceLE, Int.reduceGE, Int.reduceGT, Int.reduceEq, hb, same2, Option.map_some]; exact rfl))
        refine wpOps_nil (wpC_ret ?_)
        try simp only [thenE, againE, blockE]
        refine post_ret ?_ (by omega) rfl
        simp only [F3, resultsE, resE, upd, ↓reduceIte, Nat.reduceEqDiff]
  · refine ⟨0, _, rfl, by omega, by omega, ?_, ?_, ?_⟩ <;> simp [upd, argsE]
end Go.Proofs.YtjomofcdanpdgabGreatDoor.paramCarried
