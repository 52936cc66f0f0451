/- A part of the proof of the statement that this claim hands in: what single functions come to. There are no conditions. -/
import Derived.Test.YtjomofcdanpdgabGreatDoorPcM
set_option linter.unusedSectionVars false
set_option linter.unusedVariables false
set_option linter.unusedSimpArgs false
namespace Go.Proofs.YtjomofcdanpdgabGreatDoor.paramCarried
open Go.Ev hiding Comes

theorem is9 (b : UInt8) : isT 9 b.toNat = seen b [43, 61] := by
  have h := nat256 (P := fun n => isT 9 n = seen (UInt8.ofNat n) [43, 61]) (show ∀ n : Fin 256, isT 9 n.val = seen (UInt8.ofNat n.val) [43, 61] by decide +kernel) b
  simpa using h

theorem wpOps_newT {gen : Nat} {z : List EV} {t : Nat} {os : List EOper} {Q : Ex → St → Prop} {A : Fr} {m : Mem} {d : List (FuncId × List EV)} {p : Option (Option EV)}
    (h : ∀ M, M = m.push (.cells z gen true) → Go.Ev.wpOps T G os Q ⟨upd A t (.ptr (some ⟨.mem m.bl.length gen, 0⟩)), M, d, p⟩) : Go.Ev.wpOps T G (⟨some t, .newT gen z, none⟩ :: os) Q ⟨A, m, d, p⟩ := by
  refine wpOps_step rfl ?_
  simp only [stepE, evVal]
  exact h _ rfl
theorem wpOps_toBytes {x : Opd} {s : List UInt8} {t : Nat} {os : List EOper} {Q : Ex → St → Prop} {A : Fr} {m : Mem} {d : List (FuncId × List EV)} {p : Option (Option EV)} (hx : opd A x = .str s)
    (h : ∀ M, M = m.push (.cells (bytesE s) 0 true) → Go.Ev.wpOps T G os Q ⟨upd A t (.slice (some ⟨.mem m.bl.length 0, 0⟩) s.length s.length 1), M, d, p⟩) : Go.Ev.wpOps T G (⟨some t, .toBytes x, none⟩ :: os) Q ⟨A, m, d, p⟩ := by
  refine wpOps_step rfl ?_
  simp only [stepE, evVal, hx]
  exact h _ rfl

theorem byte_at {m : Mem} {q i : Nat} {s : List UInt8} (h : m.bl[q]? = some (.cells (bytesE s) 0 true)) (hi : i < s.length) : m.get G ⟨.mem q 0, i⟩ = some (byteE s[i]) := by
  simp only [Mem.get, Mem.row, h, if_true, Option.bind_some, bytesE, List.getElem?_map, List.getElem?_eq_getElem hi, Option.map_some]

theorem c5 (m : Mem) (s : List UInt8) (hN : s.length ≤ 4194304) : Go.Ev.Comes T G 5 [.str s] m none ⟨.val (.str (xtS s)), m, none⟩ := by
  refine comes_ofM T5 rfl fun M hg hlen hlow => ?_
  refine wpC_seq (wpC_reg ?_)
  repeat (first
    | (refine wpOps_plain rfl ?_
       simp only [stepE, evVal, opd, upd, setO, argsE, List.getD, binE, binInt, binStr, unE, wantedE, w0, w1, w2, Nat.reduceEqDiff, ↓reduceIte, Nat.reduceAdd, reduceCtorEq, eq_self, decide_true, decide_false, Bool.false_eq_true, Int.reduceBEq, Int.reduceBNe, Int.reduceLT, Int.reduceLE, Int.reduceGE, Int.reduceGT, Int.reduceEq])
    | (apply wpOps_on
       · simp only [wantedE, upd, setO, w0, w1, ↓reduceIte, Nat.reduceEqDiff, reduceCtorEq, Bool.false_eq_true, Int.reduceBEq, eq_self, decide_true, decide_false])
    | (apply wpOps_off
       · simp only [wantedE, upd, setO, w0, w1, ↓reduceIte, Nat.reduceEqDiff, reduceCtorEq, Bool.false_eq_true, Int.reduceBEq, eq_self, decide_true, decide_false]
       try dsimp only)
    | (apply wpOps_if
       · rfl
       · simp only [stepE, evVal, opd, upd, setO, argsE, List.getD, binE, binInt, binStr, unE, wantedE, w0, w1, w2, Nat.reduceEqDiff, ↓reduceIte, Nat.reduceAdd, reduceCtorEq, eq_self, decide_true, decide_false, Bool.false_eq_true, Int.reduceBEq, Int.reduceBNe, Int.reduceLT, Int.reduceLE, Int.reduceGE, Int.reduceGT, Int.reduceEq]; exact rfl
       · intro hb; simp only [stepE, evVal, opd, upd, setO, argsE, List.getD, binE, binInt, binStr, unE, wantedE, w0, w1, w2, Nat.reduceEqDiff, ↓reduceIte, Nat.reduceAdd, reduceCtorEq, eq_self, decide_true, decide_false, Bool.false_eq_true, Int.reduceBEq, Int.reduceBNe, Int.reduceLT, Int.reduceLE, Int.reduceGE, Int.reduceGT, Int.reduceEq, hb]; exact rfl))
  refine wpOps_nil (wpC_seq (wpC_reg ?_))
  refine wpOps_newT fun M1 e1 => ?_
  have g1 : Grown m M1 := by subst e1; exact hg.push
  have f1 : M1.low = m.bl.length := by subst e1; exact hlow
  have n1 : M1.bl.length = M.bl.length + 1 := by subst e1; simp [Mem.push]
  have b1 : M1.bl[M.bl.length]? = some (.cells [.ptr none, .slice none 0 0 0] genB true) := by subst e1; simp [Mem.push, genB]
  refine wpOps_nil (wpC_seq (wpC_seq (wpC_reg ?_)))
  repeat (first
    | (refine wpOps_plain rfl ?_
       simp only [stepE, evVal, opd, upd, setO, argsE, List.getD, binE, binInt, binStr, unE, wantedE, w0, w1, w2, Nat.reduceEqDiff, ↓reduceIte, Nat.reduceAdd, reduceCtorEq, eq_self, decide_true, decide_false, Bool.false_eq_true, Int.reduceBEq, Int.reduceBNe, Int.reduceLT, Int.reduceLE, Int.reduceGE, Int.reduceGT, Int.reduceEq])
    | (apply wpOps_on
       · simp only [wantedE, upd, setO, w0, w1, ↓reduceIte, Nat.reduceEqDiff, reduceCtorEq, Bool.false_eq_true, Int.reduceBEq, eq_self, decide_true, decide_false])
    | (apply wpOps_off
       · simp only [wantedE, upd, setO, w0, w1, ↓reduceIte, Nat.reduceEqDiff, reduceCtorEq, Bool.false_eq_true, Int.reduceBEq, eq_self, decide_true, decide_false]
       try dsimp only)
    | (apply wpOps_if
       · rfl
       · simp only [stepE, evVal, opd, upd, setO, argsE, List.getD, binE, binInt, binStr, unE, wantedE, w0, w1, w2, Nat.reduceEqDiff, ↓reduceIte, Nat.reduceAdd, reduceCtorEq, eq_self, decide_true, decide_false, Bool.false_eq_true, Int.reduceBEq, Int.reduceBNe, Int.reduceLT, Int.reduceLE, Int.reduceGE, Int.reduceGT, Int.reduceEq]; exact rfl
       · intro hb; simp only [stepE, evVal, opd, upd, setO, argsE, List.getD, binE, binInt, binStr, unE, wantedE, w0, w1, w2, Nat.reduceEqDiff, ↓reduceIte, Nat.reduceAdd, reduceCtorEq, eq_self, decide_true, decide_false, Bool.false_eq_true, Int.reduceBEq, Int.reduceBNe, Int.reduceLT, Int.reduceLE, Int.reduceGE, Int.reduceGT, Int.reduceEq, hb]; exact rfl))
  apply wpOps_toBytes (s := s)
  · simp only [stepE, evVal, opd, upd, setO, argsE, List.getD, binE, binInt, binStr, unE, wantedE, w0, w1, w2, Nat.reduceEqDiff, ↓reduceIte, Nat.reduceAdd, reduceCtorEq, eq_self, decide_true, decide_false, Bool.false_eq_true, Int.reduceBEq, Int.reduceBNe, Int.reduceLT, Int.reduceLE, Int.reduceGE, Int.reduceGT, Int.reduceEq]
  intro M2 e2
  have t2 : Grown M1 M2 := by subst e2; exact Grown.rfl'.push
  have g2 := g1.trans t2
  have f2 : M2.low = m.bl.length := by subst e2; exact f1
  have n2 : M2.bl.length = M1.bl.length + 1 := by subst e2; simp [Mem.push]
  have b2 : M2.bl[M.bl.length]? = some (.cells [.ptr none, .slice none 0 0 0] genB true) := by rw [grown_at t2 (by omega), b1]
  have q2 : M2.bl[M1.bl.length]? = some (.cells (bytesE s) 0 true) := by subst e2; simp [Mem.push]
  repeat (first
    | (refine wpOps_plain rfl ?_
       simp only [stepE, evVal, opd, upd, setO, argsE, List.getD, binE, binInt, binStr, unE, wantedE, w0, w1, w2, Nat.reduceEqDiff, ↓reduceIte, Nat.reduceAdd, reduceCtorEq, eq_self, decide_true, decide_false, Bool.false_eq_true, Int.reduceBEq, Int.reduceBNe, Int.reduceLT, Int.reduceLE, Int.reduceGE, Int.reduceGT, Int.reduceEq])
    | (apply wpOps_on
       · simp only [wantedE, upd, setO, w0, w1, ↓reduceIte, Nat.reduceEqDiff, reduceCtorEq, Bool.false_eq_true, Int.reduceBEq, eq_self, decide_true, decide_false])
    | (apply wpOps_off
       · simp only [wantedE, upd, setO, w0, w1, ↓reduceIte, Nat.reduceEqDiff, reduceCtorEq, Bool.false_eq_true, Int.reduceBEq, eq_self, decide_true, decide_false]
       try dsimp only)
    | (apply wpOps_if
       · rfl
       · simp only [stepE, evVal, opd, upd, setO, argsE, List.getD, binE, binInt, binStr, unE, wantedE, w0, w1, w2, Nat.reduceEqDiff, ↓reduceIte, Nat.reduceAdd, reduceCtorEq, eq_self, decide_true, decide_false, Bool.false_eq_true, Int.reduceBEq, Int.reduceBNe, Int.reduceLT, Int.reduceLE, Int.reduceGE, Int.reduceGT, Int.reduceEq]; exact rfl
       · intro hb; simp only [stepE, evVal, opd, upd, setO, argsE, List.getD, binE, binInt, binStr, unE, wantedE, w0, w1, w2, Nat.reduceEqDiff, ↓reduceIte, Nat.reduceAdd, reduceCtorEq, eq_self, decide_true, decide_false, Bool.false_eq_true, Int.reduceBEq, Int.reduceBNe, Int.reduceLT, Int.reduceLE, Int.reduceGE, Int.reduceGT, Int.reduceEq, hb]; exact rfl))
  refine wpOps_nil (wpC_block (wpC_loop (fun n st => ∃ i A N k, st = ⟨A, N, [], none⟩ ∧ Grown m N ∧ m.bl.length ≤ N.low ∧ n = s.length - i ∧ i ≤ s.length ∧ A 3 = .ptr (some ⟨.mem M.bl.length genB, 0⟩) ∧ A 7 = .slice (some ⟨.mem M1.bl.length 0, 0⟩) s.length s.length 1 ∧ A 8 = .int .i64 s.length ∧ A 9 = .int .i64 i ∧ Bld N M.bl.length k (xtS (s.take i)) (2 * i) ∧ N.bl[M1.bl.length]? = some (.cells (bytesE s) 0 true) ∧ (∀ j, k = some j → m.bl.length ≤ j ∧ j ≠ M1.bl.length) ∧ (k ≠ none → xtS (s.take i) ≠ [])) (fun n st hI => ?_) s.length _ ?_))
  · obtain ⟨i, A, N, k, rfl, gN, lN, rfl, hi, A3, A7, A8, A9, BN, QN, hk, hne⟩ := hI
    refine wpC_seq (wpC_reg ?_)
    repeat (first
      | (refine wpOps_plain rfl ?_
         simp only [stepE, evVal, opd, upd, setO, argsE, List.getD, binE, binInt, binStr, unE, wantedE, w0, w1, w2, Nat.reduceEqDiff, ↓reduceIte, Nat.reduceAdd, reduceCtorEq, eq_self, decide_true, decide_false, Bool.false_eq_true, Int.reduceBEq, Int.reduceBNe, Int.reduceLT, Int.reduceLE, Int.reduceGE, Int.reduceGT, Int.reduceEq, A8, A9])
      | (apply wpOps_on
         · simp only [wantedE, upd, setO, w0, w1, ↓reduceIte, Nat.reduceEqDiff, reduceCtorEq, Bool.false_eq_true, Int.reduceBEq, eq_self, decide_true, decide_false])
      | (apply wpOps_off
         · simp only [wantedE, upd, setO, w0, w1, ↓reduceIte, Nat.reduceEqDiff, reduceCtorEq, Bool.false_eq_true, Int.reduceBEq, eq_self, decide_true, decide_false]
         try dsimp only)
      | (apply wpOps_if
         · rfl
         · simp only [stepE, evVal, opd, upd, setO, argsE, List.getD, binE, binInt, binStr, unE, wantedE, w0, w1, w2, Nat.reduceEqDiff, ↓reduceIte, Nat.reduceAdd, reduceCtorEq, eq_self, decide_true, decide_false, Bool.false_eq_true, Int.reduceBEq, Int.reduceBNe, Int.reduceLT, Int.reduceLE, Int.reduceGE, Int.reduceGT, Int.reduceEq]; exact rfl
         · intro hb; simp only [stepE, evVal, opd, upd, setO, argsE, List.getD, binE, binInt, binStr, unE, wantedE, w0, w1, w2, Nat.reduceEqDiff, ↓reduceIte, Nat.reduceAdd, reduceCtorEq, eq_self, decide_true, decide_false, Bool.false_eq_true, Int.reduceBEq, Int.reduceBNe, Int.reduceLT, Int.reduceLE, Int.reduceGE, Int.reduceGT, Int.reduceEq, hb, A8, A9]; exact rfl))
    refine wpOps_nil (wpC_seq (wpC_cond (t := decide ((i : Int) < s.length)) (by simp only [stepE, evVal, opd, upd, setO, argsE, List.getD, binE, binInt, binStr, unE, wantedE, w0, w1, w2, Nat.reduceEqDiff, ↓reduceIte, Nat.reduceAdd, reduceCtorEq, eq_self, decide_true, decide_false, Bool.false_eq_true, Int.reduceBEq, Int.reduceBNe, Int.reduceLT, Int.reduceLE, Int.reduceGE, Int.reduceGT, Int.reduceEq]) (fun hlt => ?_) (fun hge => ?_)))
    · have hil : i < s.length := by simpa using hlt
      have i0 : (0 : Int) ≤ (i : Int) := by omega
      have i1 : ((i : Int) < (s.length : Int)) := by omega
      have hw : IntKind.i64.wrap ((i : Int) + 1) = ((i + 1 : Nat) : Int) := wrap_ok (by omega) (by omega)
      have hxl := xtS_len (s.take i)
      have htl : (s.take i).length = i := by simp; omega
      have hgl := gN.le
      have hb := byte_at QN hil
      have hqlt : M1.bl.length < N.bl.length := (List.getElem?_eq_some_iff.1 QN).1
      have hblt : M.bl.length < N.bl.length := by omega
      refine wpC_skip ?_
      simp only [thenE]
      refine wpC_seq (wpC_block (wpC_seq (wpC_reg ?_)))
      repeat (first
        | (refine wpOps_plain rfl ?_
           simp only [stepE, evVal, opd, upd, setO, argsE, List.getD, binE, binInt, binStr, unE, wantedE, w0, w1, w2, Nat.reduceEqDiff, ↓reduceIte, Nat.reduceAdd, reduceCtorEq, eq_self, decide_true, decide_false, Bool.false_eq_true, Int.reduceBEq, Int.reduceBNe, Int.reduceLT, Int.reduceLE, Int.reduceGE, Int.reduceGT, Int.reduceEq, A7, A9, i0, i1, Nat.mul_one, hb])
        | (apply wpOps_on
           · simp only [wantedE, upd, setO, w0, w1, ↓reduceIte, Nat.reduceEqDiff, reduceCtorEq, Bool.false_eq_true, Int.reduceBEq, eq_self, decide_true, decide_false])
        | (apply wpOps_off
           · simp only [wantedE, upd, setO, w0, w1, ↓reduceIte, Nat.reduceEqDiff, reduceCtorEq, Bool.false_eq_true, Int.reduceBEq, eq_self, decide_true, decide_false]
           try dsimp only)
        | (apply wpOps_if
           · rfl
           · simp only [stepE, evVal, opd, upd, setO, argsE, List.getD, binE, binInt, binStr, unE, wantedE, w0, w1, w2, Nat.reduceEqDiff, ↓reduceIte, Nat.reduceAdd, reduceCtorEq, eq_self, decide_true, decide_false, Bool.false_eq_true, Int.reduceBEq, Int.reduceBNe, Int.reduceLT, Int.reduceLE, Int.reduceGE, Int.reduceGT, Int.reduceEq]; exact rfl
           · intro hb; simp only [stepE, evVal, opd, upd, setO, argsE, List.getD, binE, binInt, binStr, unE, wantedE, w0, w1, w2, Nat.reduceEqDiff, ↓reduceIte, Nat.reduceAdd, reduceCtorEq, eq_self, decide_true, decide_false, Bool.false_eq_true, Int.reduceBEq, Int.reduceBNe, Int.reduceLT, Int.reduceLE, Int.reduceGE, Int.reduceGT, Int.reduceEq, hb, A7, A9, i0, i1, Nat.mul_one, hb]; exact rfl))
      refine wpOps_nil (wpC_seq (wpC_reg ?_))
      repeat (first
        | (refine wpOps_plain rfl ?_
           simp only [stepE, evVal, opd, upd, setO, argsE, List.getD, binE, binInt, binStr, unE, wantedE, w0, w1, w2, Nat.reduceEqDiff, ↓reduceIte, Nat.reduceAdd, reduceCtorEq, eq_self, decide_true, decide_false, Bool.false_eq_true, Int.reduceBEq, Int.reduceBNe, Int.reduceLT, Int.reduceLE, Int.reduceGE, Int.reduceGT, Int.reduceEq])
        | (apply wpOps_on
           · simp only [wantedE, upd, setO, w0, w1, ↓reduceIte, Nat.reduceEqDiff, reduceCtorEq, Bool.false_eq_true, Int.reduceBEq, eq_self, decide_true, decide_false])
        | (apply wpOps_off
           · simp only [wantedE, upd, setO, w0, w1, ↓reduceIte, Nat.reduceEqDiff, reduceCtorEq, Bool.false_eq_true, Int.reduceBEq, eq_self, decide_true, decide_false]
           try dsimp only)
        | (apply wpOps_if
           · rfl
           · simp only [stepE, evVal, opd, upd, setO, argsE, List.getD, binE, binInt, binStr, unE, wantedE, w0, w1, w2, Nat.reduceEqDiff, ↓reduceIte, Nat.reduceAdd, reduceCtorEq, eq_self, decide_true, decide_false, Bool.false_eq_true, Int.reduceBEq, Int.reduceBNe, Int.reduceLT, Int.reduceLE, Int.reduceGE, Int.reduceGT, Int.reduceEq]; exact rfl
           · intro hb; simp only [stepE, evVal, opd, upd, setO, argsE, List.getD, binE, binInt, binStr, unE, wantedE, w0, w1, w2, Nat.reduceEqDiff, ↓reduceIte, Nat.reduceAdd, reduceCtorEq, eq_self, decide_true, decide_false, Bool.false_eq_true, Int.reduceBEq, Int.reduceBNe, Int.reduceLT, Int.reduceLE, Int.reduceGE, Int.reduceGT, Int.reduceEq, hb]; exact rfl))
      apply wpOps_call
      · first | rfl | (simp only [stepE, evVal, opd, upd, setO, argsE, List.getD, binE, binInt, binStr, unE, wantedE, w0, w1, w2, Nat.reduceEqDiff, ↓reduceIte, Nat.reduceAdd, reduceCtorEq, eq_self, decide_true, decide_false, Bool.false_eq_true, Int.reduceBEq, Int.reduceBNe, Int.reduceLT, Int.reduceLE, Int.reduceGE, Int.reduceGT, Int.reduceEq]; exact rfl)
      · (try simp only [stepE, evVal, opd, upd, setO, argsE, List.getD, binE, binInt, binStr, unE, wantedE, w0, w1, w2, Nat.reduceEqDiff, ↓reduceIte, Nat.reduceAdd, reduceCtorEq, eq_self, decide_true, decide_false, Bool.false_eq_true, Int.reduceBEq, Int.reduceBNe, Int.reduceLT, Int.reduceLE, Int.reduceGE, Int.reduceGT, Int.reduceEq]); exact (c7 N 9 s[i].toNat rfl rfl)
      simp only [stepE, evVal, opd, upd, setO, argsE, List.getD, binE, binInt, binStr, unE, wantedE, w0, w1, w2, Nat.reduceEqDiff, ↓reduceIte, Nat.reduceAdd, reduceCtorEq, eq_self, decide_true, decide_false, Bool.false_eq_true, Int.reduceBEq, Int.reduceBNe, Int.reduceLT, Int.reduceLE, Int.reduceGE, Int.reduceGT, Int.reduceEq]
      refine wpOps_nil (wpC_cond (t := isT 9 s[i].toNat) (by simp only [stepE, evVal, opd, upd, setO, argsE, List.getD, binE, binInt, binStr, unE, wantedE, w0, w1, w2, Nat.reduceEqDiff, ↓reduceIte, Nat.reduceAdd, reduceCtorEq, eq_self, decide_true, decide_false, Bool.false_eq_true, Int.reduceBEq, Int.reduceBNe, Int.reduceLT, Int.reduceLE, Int.reduceGE, Int.reduceGT, Int.reduceEq]) (fun hyes => ?_) (fun hno => ?_))
      · refine wpC_reg ?_
        repeat (first
          | (refine wpOps_plain rfl ?_
             simp only [stepE, evVal, opd, upd, setO, argsE, List.getD, binE, binInt, binStr, unE, wantedE, w0, w1, w2, Nat.reduceEqDiff, ↓reduceIte, Nat.reduceAdd, reduceCtorEq, eq_self, decide_true, decide_false, Bool.false_eq_true, Int.reduceBEq, Int.reduceBNe, Int.reduceLT, Int.reduceLE, Int.reduceGE, Int.reduceGT, Int.reduceEq, A3])
          | (apply wpOps_on
             · simp only [wantedE, upd, setO, w0, w1, ↓reduceIte, Nat.reduceEqDiff, reduceCtorEq, Bool.false_eq_true, Int.reduceBEq, eq_self, decide_true, decide_false])
          | (apply wpOps_off
             · simp only [wantedE, upd, setO, w0, w1, ↓reduceIte, Nat.reduceEqDiff, reduceCtorEq, Bool.false_eq_true, Int.reduceBEq, eq_self, decide_true, decide_false]
             try dsimp only)
          | (apply wpOps_if
             · rfl
             · simp only [stepE, evVal, opd, upd, setO, argsE, List.getD, binE, binInt, binStr, unE, wantedE, w0, w1, w2, Nat.reduceEqDiff, ↓reduceIte, Nat.reduceAdd, reduceCtorEq, eq_self, decide_true, decide_false, Bool.false_eq_true, Int.reduceBEq, Int.reduceBNe, Int.reduceLT, Int.reduceLE, Int.reduceGE, Int.reduceGT, Int.reduceEq]; exact rfl
             · intro hb; simp only [stepE, evVal, opd, upd, setO, argsE, List.getD, binE, binInt, binStr, unE, wantedE, w0, w1, w2, Nat.reduceEqDiff, ↓reduceIte, Nat.reduceAdd, reduceCtorEq, eq_self, decide_true, decide_false, Bool.false_eq_true, Int.reduceBEq, Int.reduceBNe, Int.reduceLT, Int.reduceLE, Int.reduceGE, Int.reduceGT, Int.reduceEq, hb, A3]; exact rfl))
        obtain ⟨_, hc, N1, rfl, W1⟩ := c13 (G := G) N M.bl.length k (xtS (s.take i)) (2 * i) s[i] BN (by omega) (by omega)
        apply wpOps_call
        · first | rfl | (simp only [stepE, evVal, opd, upd, setO, argsE, List.getD, binE, binInt, binStr, unE, wantedE, w0, w1, w2, Nat.reduceEqDiff, ↓reduceIte, Nat.reduceAdd, reduceCtorEq, eq_self, decide_true, decide_false, Bool.false_eq_true, Int.reduceBEq, Int.reduceBNe, Int.reduceLT, Int.reduceLE, Int.reduceGE, Int.reduceGT, Int.reduceEq, A3]; exact rfl)
        · (try simp only [stepE, evVal, opd, upd, setO, argsE, List.getD, binE, binInt, binStr, unE, wantedE, w0, w1, w2, Nat.reduceEqDiff, ↓reduceIte, Nat.reduceAdd, reduceCtorEq, eq_self, decide_true, decide_false, Bool.false_eq_true, Int.reduceBEq, Int.reduceBNe, Int.reduceLT, Int.reduceLE, Int.reduceGE, Int.reduceGT, Int.reduceEq, A3]); exact (hc)
        simp only [stepE, evVal, opd, upd, setO, argsE, List.getD, binE, binInt, binStr, unE, wantedE, w0, w1, w2, Nat.reduceEqDiff, ↓reduceIte, Nat.reduceAdd, reduceCtorEq, eq_self, decide_true, decide_false, Bool.false_eq_true, Int.reduceBEq, Int.reduceBNe, Int.reduceLT, Int.reduceLE, Int.reduceGE, Int.reduceGT, Int.reduceEq, A3]
        obtain ⟨k', hB, hk'⟩ := W1.bld
        have hkb : m.bl.length ≤ k' ∧ k' ≠ M1.bl.length := by
          rcases hk' with h | ⟨_, h⟩
          · exact hk k' h
          · exact ⟨by omega, by omega⟩
        have hlw := W1.low
        have hkd : m.bl.length ≤ k.getD M.bl.length := by
          cases k with
          | none => simp only [Option.getD_none]; omega
          | some k => exact (hk k rfl).1
        have hsame : ∀ j, j < m.bl.length → N1.bl[j]? = m.bl[j]? := fun j hj => by
          rw [W1.same j (by omega) (by omega) (fun h => by have := (hk j h.symm).1; omega), grown_at gN hj]
        have hlen1 := W1.len
        refine wpOps_nil ?_
        simp only [thenE, againE, blockE]
        refine wpC_reg ?_
        repeat (first
          | (refine wpOps_plain rfl ?_
             simp only [stepE, evVal, opd, upd, setO, argsE, List.getD, binE, binInt, binStr, unE, wantedE, w0, w1, w2, Nat.reduceEqDiff, ↓reduceIte, Nat.reduceAdd, reduceCtorEq, eq_self, decide_true, decide_false, Bool.false_eq_true, Int.reduceBEq, Int.reduceBNe, Int.reduceLT, Int.reduceLE, Int.reduceGE, Int.reduceGT, Int.reduceEq, A9])
          | (apply wpOps_on
             · simp only [wantedE, upd, setO, w0, w1, ↓reduceIte, Nat.reduceEqDiff, reduceCtorEq, Bool.false_eq_true, Int.reduceBEq, eq_self, decide_true, decide_false])
          | (apply wpOps_off
             · simp only [wantedE, upd, setO, w0, w1, ↓reduceIte, Nat.reduceEqDiff, reduceCtorEq, Bool.false_eq_true, Int.reduceBEq, eq_self, decide_true, decide_false]
             try dsimp only)
          | (apply wpOps_if
             · rfl
             · simp only [stepE, evVal, opd, upd, setO, argsE, List.getD, binE, binInt, binStr, unE, wantedE, w0, w1, w2, Nat.reduceEqDiff, ↓reduceIte, Nat.reduceAdd, reduceCtorEq, eq_self, decide_true, decide_false, Bool.false_eq_true, Int.reduceBEq, Int.reduceBNe, Int.reduceLT, Int.reduceLE, Int.reduceGE, Int.reduceGT, Int.reduceEq]; exact rfl
             · intro hb; simp only [stepE, evVal, opd, upd, setO, argsE, List.getD, binE, binInt, binStr, unE, wantedE, w0, w1, w2, Nat.reduceEqDiff, ↓reduceIte, Nat.reduceAdd, reduceCtorEq, eq_self, decide_true, decide_false, Bool.false_eq_true, Int.reduceBEq, Int.reduceBNe, Int.reduceLT, Int.reduceLE, Int.reduceGE, Int.reduceGT, Int.reduceEq, hb, A9]; exact rfl))
        refine wpOps_nil ?_
        refine ⟨s.length - (i + 1), by omega, i + 1, _, N1, some k', rfl, grown_same (by omega) hsame, by omega, rfl, by omega, by simp [upd, A3], by simp [upd, A7], by simp [upd, A8], by simp only [upd, if_true, hw], ?_, ?_, fun j hj => by cases hj; exact hkb, fun _ => ?_⟩
        · rw [xtS_take hil]
          simp only [xt, ← is9, hyes, if_true]
          obtain ⟨p, v, h1, h2, h3⟩ := hB
          obtain ⟨h4, g, h5, h6⟩ := h3
          exact ⟨p, v, h1, h2, h4, g, by omega, h6⟩
        · rw [W1.same _ hqlt (by omega) (fun h => (hk _ h.symm).2 rfl), QN]
        · rw [xtS_take hil]
          simp only [xt, ← is9, hyes, if_true]
          simp
      · refine wpC_reg ?_
        repeat (first
          | (refine wpOps_plain rfl ?_
             simp only [stepE, evVal, opd, upd, setO, argsE, List.getD, binE, binInt, binStr, unE, wantedE, w0, w1, w2, Nat.reduceEqDiff, ↓reduceIte, Nat.reduceAdd, reduceCtorEq, eq_self, decide_true, decide_false, Bool.false_eq_true, Int.reduceBEq, Int.reduceBNe, Int.reduceLT, Int.reduceLE, Int.reduceGE, Int.reduceGT, Int.reduceEq])
          | (apply wpOps_on
             · simp only [wantedE, upd, setO, w0, w1, ↓reduceIte, Nat.reduceEqDiff, reduceCtorEq, Bool.false_eq_true, Int.reduceBEq, eq_self, decide_true, decide_false])
          | (apply wpOps_off
             · simp only [wantedE, upd, setO, w0, w1, ↓reduceIte, Nat.reduceEqDiff, reduceCtorEq, Bool.false_eq_true, Int.reduceBEq, eq_self, decide_true, decide_false]
             try dsimp only)
          | (apply wpOps_if
             · rfl
             · simp only [stepE, evVal, opd, upd, setO, argsE, List.getD, binE, binInt, binStr, unE, wantedE, w0, w1, w2, Nat.reduceEqDiff, ↓reduceIte, Nat.reduceAdd, reduceCtorEq, eq_self, decide_true, decide_false, Bool.false_eq_true, Int.reduceBEq, Int.reduceBNe, Int.reduceLT, Int.reduceLE, Int.reduceGE, Int.reduceGT, Int.reduceEq]; exact rfl
             · intro hb; simp only [stepE, evVal, opd, upd, setO, argsE, List.getD, binE, binInt, binStr, unE, wantedE, w0, w1, w2, Nat.reduceEqDiff, ↓reduceIte, Nat.reduceAdd, reduceCtorEq, eq_self, decide_true, decide_false, Bool.false_eq_true, Int.reduceBEq, Int.reduceBNe, Int.reduceLT, Int.reduceLE, Int.reduceGE, Int.reduceGT, Int.reduceEq, hb]; exact rfl))
        apply wpOps_mklit (cs := [byteE s[i]])
        · rfl
        intro N1 e1
        have gN1 : Grown N N1 := by subst e1; exact Grown.rfl'.push
        have l1 : N1.low = N.low := by subst e1; rfl
        have len1 : N1.bl.length = N.bl.length + 1 := by subst e1; simp [Mem.push]
        have gb : N1.getN G ⟨.mem N.bl.length 0, 0⟩ 1 = some [byteE s[i]] := by
          subst e1
          exact getN_row (row_push N [byteE s[i]]) (sub_all rfl)
        apply wpOps_call
        · first | rfl | (simp only [stepE, evVal, opd, upd, setO, argsE, List.getD, binE, binInt, binStr, unE, wantedE, w0, w1, w2, Nat.reduceEqDiff, ↓reduceIte, Nat.reduceAdd, reduceCtorEq, eq_self, decide_true, decide_false, Bool.false_eq_true, Int.reduceBEq, Int.reduceBNe, Int.reduceLT, Int.reduceLE, Int.reduceGE, Int.reduceGT, Int.reduceEq]; exact rfl)
        · (try simp only [stepE, evVal, opd, upd, setO, argsE, List.getD, binE, binInt, binStr, unE, wantedE, w0, w1, w2, Nat.reduceEqDiff, ↓reduceIte, Nat.reduceAdd, reduceCtorEq, eq_self, decide_true, decide_false, Bool.false_eq_true, Int.reduceBEq, Int.reduceBNe, Int.reduceLT, Int.reduceLE, Int.reduceGE, Int.reduceGT, Int.reduceEq]); exact (c15 N1 ⟨.mem N.bl.length 0, 0⟩ 1 1 s[i] gb (by simp [oldAd]; omega))
        simp only [stepE, evVal, opd, upd, setO, argsE, List.getD, binE, binInt, binStr, unE, wantedE, w0, w1, w2, Nat.reduceEqDiff, ↓reduceIte, Nat.reduceAdd, reduceCtorEq, eq_self, decide_true, decide_false, Bool.false_eq_true, Int.reduceBEq, Int.reduceBNe, Int.reduceLT, Int.reduceLE, Int.reduceGE, Int.reduceGT, Int.reduceEq]
        have hadd : (List.length [(43 : UInt8)] + (hexB s[i]).length ≤ 9223372036854775807) = True := eq_true (by simp [hexB])
        repeat (first
          | (refine wpOps_plain rfl ?_
             simp only [stepE, evVal, opd, upd, setO, argsE, List.getD, binE, binInt, binStr, unE, wantedE, w0, w1, w2, Nat.reduceEqDiff, ↓reduceIte, Nat.reduceAdd, reduceCtorEq, eq_self, decide_true, decide_false, Bool.false_eq_true, Int.reduceBEq, Int.reduceBNe, Int.reduceLT, Int.reduceLE, Int.reduceGE, Int.reduceGT, Int.reduceEq, hadd, List.cons_append, List.nil_append])
          | (apply wpOps_on
             · simp only [wantedE, upd, setO, w0, w1, ↓reduceIte, Nat.reduceEqDiff, reduceCtorEq, Bool.false_eq_true, Int.reduceBEq, eq_self, decide_true, decide_false])
          | (apply wpOps_off
             · simp only [wantedE, upd, setO, w0, w1, ↓reduceIte, Nat.reduceEqDiff, reduceCtorEq, Bool.false_eq_true, Int.reduceBEq, eq_self, decide_true, decide_false]
             try dsimp only)
          | (apply wpOps_if
             · rfl
             · simp only [stepE, evVal, opd, upd, setO, argsE, List.getD, binE, binInt, binStr, unE, wantedE, w0, w1, w2, Nat.reduceEqDiff, ↓reduceIte, Nat.reduceAdd, reduceCtorEq, eq_self, decide_true, decide_false, Bool.false_eq_true, Int.reduceBEq, Int.reduceBNe, Int.reduceLT, Int.reduceLE, Int.reduceGE, Int.reduceGT, Int.reduceEq]; exact rfl
             · intro hb; simp only [stepE, evVal, opd, upd, setO, argsE, List.getD, binE, binInt, binStr, unE, wantedE, w0, w1, w2, Nat.reduceEqDiff, ↓reduceIte, Nat.reduceAdd, reduceCtorEq, eq_self, decide_true, decide_false, Bool.false_eq_true, Int.reduceBEq, Int.reduceBNe, Int.reduceLT, Int.reduceLE, Int.reduceGE, Int.reduceGT, Int.reduceEq, hb, hadd, List.cons_append, List.nil_append]; exact rfl))
        have BN1 : Bld N1 M.bl.length k (xtS (s.take i)) (2 * i) := by
          obtain ⟨p, v, h1, h2, h3⟩ := BN
          refine ⟨p, v, by rw [grown_at gN1 hblt, h1], h2, ?_⟩
          cases k with
          | none => exact h3
          | some k =>
            obtain ⟨h4, g, h5, h6, h7⟩ := h3
            exact ⟨h4, g, h5, h6, by rw [grown_at gN1 (List.getElem?_eq_some_iff.1 h7).1, h7]⟩
        obtain ⟨_, hc, N2, rfl, W1⟩ := c14 (G := G) N1 M.bl.length k (xtS (s.take i)) (43 :: hexB s[i]) (2 * i) BN1 (by simp) (by omega) (by simp [hexB]; omega)
        apply wpOps_call
        · first | rfl | (simp only [stepE, evVal, opd, upd, setO, argsE, List.getD, binE, binInt, binStr, unE, wantedE, w0, w1, w2, Nat.reduceEqDiff, ↓reduceIte, Nat.reduceAdd, reduceCtorEq, eq_self, decide_true, decide_false, Bool.false_eq_true, Int.reduceBEq, Int.reduceBNe, Int.reduceLT, Int.reduceLE, Int.reduceGE, Int.reduceGT, Int.reduceEq, A3]; exact rfl)
        · (try simp only [stepE, evVal, opd, upd, setO, argsE, List.getD, binE, binInt, binStr, unE, wantedE, w0, w1, w2, Nat.reduceEqDiff, ↓reduceIte, Nat.reduceAdd, reduceCtorEq, eq_self, decide_true, decide_false, Bool.false_eq_true, Int.reduceBEq, Int.reduceBNe, Int.reduceLT, Int.reduceLE, Int.reduceGE, Int.reduceGT, Int.reduceEq, A3]); exact (hc)
        simp only [stepE, evVal, opd, upd, setO, argsE, List.getD, binE, binInt, binStr, unE, wantedE, w0, w1, w2, Nat.reduceEqDiff, ↓reduceIte, Nat.reduceAdd, reduceCtorEq, eq_self, decide_true, decide_false, Bool.false_eq_true, Int.reduceBEq, Int.reduceBNe, Int.reduceLT, Int.reduceLE, Int.reduceGE, Int.reduceGT, Int.reduceEq, A3]
        obtain ⟨k', hB, hk'⟩ := W1.bld
        have hkb : m.bl.length ≤ k' ∧ k' ≠ M1.bl.length := by
          rcases hk' with h | ⟨_, h⟩
          · exact hk k' h
          · exact ⟨by omega, by omega⟩
        have hlw := W1.low
        have hkd : m.bl.length ≤ k.getD M.bl.length := by
          cases k with
          | none => simp only [Option.getD_none]; omega
          | some k => exact (hk k rfl).1
        have hsame : ∀ j, j < m.bl.length → N2.bl[j]? = m.bl[j]? := fun j hj => by
          rw [W1.same j (by omega) (by omega) (fun h => by have := (hk j h.symm).1; omega), grown_at (gN.trans gN1) hj]
        have hlen1 := W1.len
        refine wpOps_nil ?_
        simp only [thenE, againE, blockE]
        refine wpC_reg ?_
        repeat (first
          | (refine wpOps_plain rfl ?_
             simp only [stepE, evVal, opd, upd, setO, argsE, List.getD, binE, binInt, binStr, unE, wantedE, w0, w1, w2, Nat.reduceEqDiff, ↓reduceIte, Nat.reduceAdd, reduceCtorEq, eq_self, decide_true, decide_false, Bool.false_eq_true, Int.reduceBEq, Int.reduceBNe, Int.reduceLT, Int.reduceLE, Int.reduceGE, Int.reduceGT, Int.reduceEq, A9])
          | (apply wpOps_on
             · simp only [wantedE, upd, setO, w0, w1, ↓reduceIte, Nat.reduceEqDiff, reduceCtorEq, Bool.false_eq_true, Int.reduceBEq, eq_self, decide_true, decide_false])
          | (apply wpOps_off
             · simp only [wantedE, upd, setO, w0, w1, ↓reduceIte, Nat.reduceEqDiff, reduceCtorEq, Bool.false_eq_true, Int.reduceBEq, eq_self, decide_true, decide_false]
             try dsimp only)
          | (apply wpOps_if
             · rfl
             · simp only [stepE, evVal, opd, upd, setO, argsE, List.getD, binE, binInt, binStr, unE, wantedE, w0, w1, w2, Nat.reduceEqDiff, ↓reduceIte, Nat.reduceAdd, reduceCtorEq, eq_self, decide_true, decide_false, Bool.false_eq_true, Int.reduceBEq, Int.reduceBNe, Int.reduceLT, Int.reduceLE, Int.reduceGE, Int.reduceGT, Int.reduceEq]; exact rfl
             · intro hb; simp only [stepE, evVal, opd, upd, setO, argsE, List.getD, binE, binInt, binStr, unE, wantedE, w0, w1, w2, Nat.reduceEqDiff, ↓reduceIte, Nat.reduceAdd, reduceCtorEq, eq_self, decide_true, decide_false, Bool.false_eq_true, Int.reduceBEq, Int.reduceBNe, Int.reduceLT, Int.reduceLE, Int.reduceGE, Int.reduceGT, Int.reduceEq, hb, A9]; exact rfl))
        refine wpOps_nil ?_
        refine ⟨s.length - (i + 1), by omega, i + 1, _, N2, some k', rfl, grown_same (by omega) hsame, by omega, rfl, by omega, by simp [upd, A3], by simp [upd, A7], by simp [upd, A8], by simp only [upd, if_true, hw], ?_, ?_, fun j hj => by cases hj; exact hkb, fun _ => ?_⟩
        · rw [xtS_take hil]
          simp only [xt, ← is9, hno, Bool.false_eq_true, if_false]
          obtain ⟨p, v, h1, h2, h3⟩ := hB
          obtain ⟨h4, g, h5, h6⟩ := h3
          exact ⟨p, v, h1, h2, h4, g, by omega, h6⟩
        · rw [W1.same _ (by omega) (by omega) (fun h => (hk _ h.symm).2 rfl), grown_at gN1 hqlt, QN]
        · rw [xtS_take hil]
          simp only [xt, ← is9, hno, Bool.false_eq_true, if_false]
          simp
    · have hie : i = s.length := by
        have : ¬ ((i : Int) < s.length) := by simpa using hge
        omega
      subst hie
      refine wpC_exit ?_
      simp only [thenE, againE, blockE, ↓reduceIte]
      rw [List.take_length] at BN hne
      have hxl := xtS_len s
      have hgl := gN.le
      refine wpC_seq (wpC_reg ?_)
      obtain ⟨_, hc, N1, rfl, hl1, hs1, hw1⟩ := c16 N M.bl.length k (xtS s) (2 * s.length) BN hne (by omega) (by omega)
      repeat (first
        | (refine wpOps_plain rfl ?_
           simp only [stepE, evVal, opd, upd, setO, argsE, List.getD, binE, binInt, binStr, unE, wantedE, w0, w1, w2, Nat.reduceEqDiff, ↓reduceIte, Nat.reduceAdd, reduceCtorEq, eq_self, decide_true, decide_false, Bool.false_eq_true, Int.reduceBEq, Int.reduceBNe, Int.reduceLT, Int.reduceLE, Int.reduceGE, Int.reduceGT, Int.reduceEq, A3])
        | (apply wpOps_on
           · simp only [wantedE, upd, setO, w0, w1, ↓reduceIte, Nat.reduceEqDiff, reduceCtorEq, Bool.false_eq_true, Int.reduceBEq, eq_self, decide_true, decide_false])
        | (apply wpOps_off
           · simp only [wantedE, upd, setO, w0, w1, ↓reduceIte, Nat.reduceEqDiff, reduceCtorEq, Bool.false_eq_true, Int.reduceBEq, eq_self, decide_true, decide_false]
           try dsimp only)
        | (apply wpOps_if
           · rfl
           · simp only [stepE, evVal, opd, upd, setO, argsE, List.getD, binE, binInt, binStr, unE, wantedE, w0, w1, w2, Nat.reduceEqDiff, ↓reduceIte, Nat.reduceAdd, reduceCtorEq, eq_self, decide_true, decide_false, Bool.false_eq_true, Int.reduceBEq, Int.reduceBNe, Int.reduceLT, Int.reduceLE, Int.reduceGE, Int.reduceGT, Int.reduceEq]; exact rfl
           · intro hb; simp only [stepE, evVal, opd, upd, setO, argsE, List.getD, binE, binInt, binStr, unE, wantedE, w0, w1, w2, Nat.reduceEqDiff, ↓reduceIte, Nat.reduceAdd, reduceCtorEq, eq_self, decide_true, decide_false, Bool.false_eq_true, Int.reduceBEq, Int.reduceBNe, Int.reduceLT, Int.reduceLE, Int.reduceGE, Int.reduceGT, Int.reduceEq, hb, A3]; exact rfl))
      apply wpOps_call
      · first | rfl | (simp only [stepE, evVal, opd, upd, setO, argsE, List.getD, binE, binInt, binStr, unE, wantedE, w0, w1, w2, Nat.reduceEqDiff, ↓reduceIte, Nat.reduceAdd, reduceCtorEq, eq_self, decide_true, decide_false, Bool.false_eq_true, Int.reduceBEq, Int.reduceBNe, Int.reduceLT, Int.reduceLE, Int.reduceGE, Int.reduceGT, Int.reduceEq, A3]; exact rfl)
      · (try simp only [stepE, evVal, opd, upd, setO, argsE, List.getD, binE, binInt, binStr, unE, wantedE, w0, w1, w2, Nat.reduceEqDiff, ↓reduceIte, Nat.reduceAdd, reduceCtorEq, eq_self, decide_true, decide_false, Bool.false_eq_true, Int.reduceBEq, Int.reduceBNe, Int.reduceLT, Int.reduceLE, Int.reduceGE, Int.reduceGT, Int.reduceEq, A3]); exact (hc)
      simp only [stepE, evVal, opd, upd, setO, argsE, List.getD, binE, binInt, binStr, unE, wantedE, w0, w1, w2, Nat.reduceEqDiff, ↓reduceIte, Nat.reduceAdd, reduceCtorEq, eq_self, decide_true, decide_false, Bool.false_eq_true, Int.reduceBEq, Int.reduceBNe, Int.reduceLT, Int.reduceLE, Int.reduceGE, Int.reduceGT, Int.reduceEq, A3]
      repeat (first
        | (refine wpOps_plain rfl ?_
           simp only [stepE, evVal, opd, upd, setO, argsE, List.getD, binE, binInt, binStr, unE, wantedE, w0, w1, w2, Nat.reduceEqDiff, ↓reduceIte, Nat.reduceAdd, reduceCtorEq, eq_self, decide_true, decide_false, Bool.false_eq_true, Int.reduceBEq, Int.reduceBNe, Int.reduceLT, Int.reduceLE, Int.reduceGE, Int.reduceGT, Int.reduceEq])
        | (apply wpOps_on
           · simp only [wantedE, upd, setO, w0, w1, ↓reduceIte, Nat.reduceEqDiff, reduceCtorEq, Bool.false_eq_true, Int.reduceBEq, eq_self, decide_true, decide_false])
        | (apply wpOps_off
           · simp only [wantedE, upd, setO, w0, w1, ↓reduceIte, Nat.reduceEqDiff, reduceCtorEq, Bool.false_eq_true, Int.reduceBEq, eq_self, decide_true, decide_false]
           try dsimp only)
        | (apply wpOps_if
           · rfl
           · simp only [stepE, evVal, opd, upd, setO, argsE, List.getD, binE, binInt, binStr, unE, wantedE, w0, w1, w2, Nat.reduceEqDiff, ↓reduceIte, Nat.reduceAdd, reduceCtorEq, eq_self, decide_true, decide_false, Bool.false_eq_true, Int.reduceBEq, Int.reduceBNe, Int.reduceLT, Int.reduceLE, Int.reduceGE, Int.reduceGT, Int.reduceEq]; exact rfl
           · intro hb; simp only [stepE, evVal, opd, upd, setO, argsE, List.getD, binE, binInt, binStr, unE, wantedE, w0, w1, w2, Nat.reduceEqDiff, ↓reduceIte, Nat.reduceAdd, reduceCtorEq, eq_self, decide_true, decide_false, Bool.false_eq_true, Int.reduceBEq, Int.reduceBNe, Int.reduceLT, Int.reduceLE, Int.reduceGE, Int.reduceGT, Int.reduceEq, hb]; exact rfl))
      have hkd : m.bl.length ≤ k.getD N.bl.length := by
        cases k with
        | none => simp only [Option.getD_none]; omega
        | some k => exact (hk k rfl).1
      refine wpOps_nil (wpC_ret (post_ret ?_ (by omega) rfl))
      simp only [F5, resultsE, resE, upd, ↓reduceIte, Nat.reduceEqDiff]
  · refine ⟨0, _, M2, none, rfl, g2, by omega, by omega, by omega, ?_, ?_, ?_, ?_, ⟨_, _, b2, .inl rfl, ⟨rfl, ?_⟩⟩, q2, (fun j hj => nomatch hj), (fun h => absurd rfl h)⟩
    · simp [upd, genB]
    · simp [upd]
    · simp [upd]
    · simp [upd]
    · simp [xtS]
end Go.Proofs.YtjomofcdanpdgabGreatDoor.paramCarried
