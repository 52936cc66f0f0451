/- The law's own function: the last two cases, and the whole. There are no conditions. -/
import Derived.Test.YtjomofcdanpdgadGreatDoorRuU3
set_option linter.unusedSectionVars false
set_option linter.unusedVariables false
set_option linter.unusedSimpArgs false
namespace Go.Proofs.YtjomofcdanpdgadGreatDoor.recordUnlike
open Go.Ev hiding Comes

section
variable {m : Mem} {e : EnvD} {bE bX bT g : Nat} {rows : List (List EV)} {rv tv bv : EV} {A : Fr} {N : Mem}
theorem set_rec {r : RecD} {rv : EV} (k : HostOk r.path.host) (z : Int) : (recC r rv).set 21 (.int .i64 z) = recC { r with mark := { r.mark with a := z } } rv := by
  unfold recC
  rw [show (21 : Nat) = 21 + 0 from rfl, set_skip (pathC_len k)]
  rfl

theorem case12 (s : Sit m e bE bX bT g rows rv tv bv A N) : wpC T G K12 (fun ex s => (ex = .normal ∧ Done m e s) ∨ (ex = .ret ∧ postE G F3.res m ⟨.val (.bool true), m, none⟩ ex s)) ⟨A, N, [], none⟩ := by
  have oE := s.oE
  have oX := s.oX
  have oT := s.oT
  have low := s.low
  have hb := s.bnd.2.2.2.2
  have hrl := s.hrl
  have a0 := get_row (G := G) s.RX (env_to s.k1 s.k2 s.pok.1)
  refine wpC_seq (wpC_seq (wpC_reg ?_))
  repeat (first
    | (refine wpOps_plain rfl ?_
       simp only [stepE, evVal, opd, upd, setO, argsE, List.getD, binE, binInt, binStr, unE, wantedE, w0, w1, w2, Nat.reduceEqDiff, ↓reduceIte, Nat.reduceAdd, reduceCtorEq, eq_self, decide_true, decide_false, Bool.false_eq_true, Int.reduceBEq, Int.reduceBNe, Int.reduceLT, Int.reduceLE, Int.reduceGE, Int.reduceGT, Int.reduceEq, s.A2, s.A5, a0])
    | (apply wpOps_on
       · simp only [wantedE, upd, setO, w0, w1, ↓reduceIte, Nat.reduceEqDiff, reduceCtorEq, Bool.false_eq_true, Int.reduceBEq, eq_self, decide_true, decide_false])
    | (apply wpOps_off
       · simp only [wantedE, upd, setO, w0, w1, ↓reduceIte, Nat.reduceEqDiff, reduceCtorEq, Bool.false_eq_true, Int.reduceBEq, eq_self, decide_true, decide_false]
       try dsimp only)
    | (apply wpOps_if
       · rfl
       · simp only [stepE, evVal, opd, upd, setO, argsE, List.getD, binE, binInt, binStr, unE, wantedE, w0, w1, w2, Nat.reduceEqDiff, ↓reduceIte, Nat.reduceAdd, reduceCtorEq, eq_self, decide_true, decide_false, Bool.false_eq_true, Int.reduceBEq, Int.reduceBNe, Int.reduceLT, Int.reduceLE, Int.reduceGE, Int.reduceGT, Int.reduceEq]; exact rfl
       · intro hb; simp only [stepE, evVal, opd, upd, setO, argsE, List.getD, binE, binInt, binStr, unE, wantedE, w0, w1, w2, Nat.reduceEqDiff, ↓reduceIte, Nat.reduceAdd, reduceCtorEq, eq_self, decide_true, decide_false, Bool.false_eq_true, Int.reduceBEq, Int.reduceBNe, Int.reduceLT, Int.reduceLE, Int.reduceGE, Int.reduceGT, Int.reduceEq, hb, s.A2, s.A5, a0]; exact rfl))
  refine wpOps_nil (wpC_cond (t := ((rows.length : Int) == 0)) (by simp only [stepE, evVal, opd, upd, setO, argsE, List.getD, binE, binInt, binStr, unE, wantedE, w0, w1, w2, Nat.reduceEqDiff, ↓reduceIte, Nat.reduceAdd, reduceCtorEq, eq_self, decide_true, decide_false, Bool.false_eq_true, Int.reduceBEq, Int.reduceBNe, Int.reduceLT, Int.reduceLE, Int.reduceGE, Int.reduceGT, Int.reduceEq]) (fun h0 => ?_) (fun h0 => ?_))
  · refine wpC_seq (wpC_reg ?_)
    repeat (first
      | (refine wpOps_plain rfl ?_
         simp only [stepE, evVal, opd, upd, setO, argsE, List.getD, binE, binInt, binStr, unE, wantedE, w0, w1, w2, Nat.reduceEqDiff, ↓reduceIte, Nat.reduceAdd, reduceCtorEq, eq_self, decide_true, decide_false, Bool.false_eq_true, Int.reduceBEq, Int.reduceBNe, Int.reduceLT, Int.reduceLE, Int.reduceGE, Int.reduceGT, Int.reduceEq])
      | (apply wpOps_on
         · simp only [wantedE, upd, setO, w0, w1, ↓reduceIte, Nat.reduceEqDiff, reduceCtorEq, Bool.false_eq_true, Int.reduceBEq, eq_self, decide_true, decide_false])
      | (apply wpOps_off
         · simp only [wantedE, upd, setO, w0, w1, ↓reduceIte, Nat.reduceEqDiff, reduceCtorEq, Bool.false_eq_true, Int.reduceBEq, eq_self, decide_true, decide_false]
         try dsimp only)
      | (apply wpOps_if
         · rfl
         · simp only [stepE, evVal, opd, upd, setO, argsE, List.getD, binE, binInt, binStr, unE, wantedE, w0, w1, w2, Nat.reduceEqDiff, ↓reduceIte, Nat.reduceAdd, reduceCtorEq, eq_self, decide_true, decide_false, Bool.false_eq_true, Int.reduceBEq, Int.reduceBNe, Int.reduceLT, Int.reduceLE, Int.reduceGE, Int.reduceGT, Int.reduceEq]; exact rfl
         · intro hb; simp only [stepE, evVal, opd, upd, setO, argsE, List.getD, binE, binInt, binStr, unE, wantedE, w0, w1, w2, Nat.reduceEqDiff, ↓reduceIte, Nat.reduceAdd, reduceCtorEq, eq_self, decide_true, decide_false, Bool.false_eq_true, Int.reduceBEq, Int.reduceBNe, Int.reduceLT, Int.reduceLE, Int.reduceGE, Int.reduceGT, Int.reduceEq, hb]; exact rfl))
    refine wpOps_nil (wpC_ret ?_)
    simp only [thenE]
    refine .inr ⟨trivial, post_ret ?_ low rfl⟩
    simp [F3, resultsE, resE, upd]
  · have hn : 0 < rows.length := by refine Nat.pos_of_ne_zero fun h => ?_; rw [h] at h0; simp at h0
    refine wpC_skip ?_
    simp only [thenE]
    refine wpC_reg ?_
    have hw : IntKind.i64.wrap ((rows.length : Int) - 1) = ((rows.length - 1 : Nat) : Int) := wrap_ok (by omega) (by omega)
    have i0 : (0 : Int) ≤ ((rows.length - 1 : Nat) : Int) := by omega
    have i1 : (((rows.length - 1 : Nat) : Int) < (rows.length : Int)) = True := eq_true (by omega)
    obtain ⟨cs, z1, z2⟩ := s.hrx (rows.length - 1) _ (List.getElem?_eq_getElem (show rows.length - 1 < e.to.length by omega))
    generalize hr : e.to[rows.length - 1] = r at z2
    obtain ⟨rvr, rfl, hp⟩ := z2
    have ok : HostOk r.path.host := let ⟨_, _, _, o⟩ := hp; o.1
    have a1 : N.get G ⟨.mem bT g, (rows.length - 1) * 24 + 21⟩ = some (.int .i64 r.mark.a) :=
      get_of_getN (gb_getN s.T (sub_sub (k := 21) (j := 1) (flat_sub s.T.2 z1) (sub_one (v := .int .i64 r.mark.a) (by
        unfold recC
        rw [List.getElem?_append_right (by rw [pathC_len ok]; omega), pathC_len ok]
        rfl))))
    have hfl : rows.flatten.length = rows.length * 24 := flat_len s.T.2
    obtain ⟨N', p, T', t, l⟩ := gb_put s.T (off := (rows.length - 1) * 24 + 21) (v := .int .i64 (bitsE .xor .i64 r.mark.a 1)) (rows' := rows.set (rows.length - 1) (recC { r with mark := { r.mark with a := bitsE .xor .i64 r.mark.a 1 } } rvr)) (by omega)
      (by rw [flat_set (by omega) s.T.2 z1, set_rec ok])
      (fun x hx => by
        rcases List.mem_or_eq_of_mem_set hx with h | rfl
        · exact s.T.2 x h
        · exact recC_len ok)
    repeat (first
      | (refine wpOps_plain rfl ?_
         simp only [stepE, evVal, opd, upd, setO, argsE, List.getD, binE, binInt, binStr, unE, wantedE, w0, w1, w2, Nat.reduceEqDiff, ↓reduceIte, Nat.reduceAdd, reduceCtorEq, eq_self, decide_true, decide_false, Bool.false_eq_true, Int.reduceBEq, Int.reduceBNe, Int.reduceLT, Int.reduceLE, Int.reduceGE, Int.reduceGT, Int.reduceEq, s.A2, s.A5, a0, hw, i0, i1, a1, p])
      | (apply wpOps_on
         · simp only [wantedE, upd, setO, w0, w1, ↓reduceIte, Nat.reduceEqDiff, reduceCtorEq, Bool.false_eq_true, Int.reduceBEq, eq_self, decide_true, decide_false])
      | (apply wpOps_off
         · simp only [wantedE, upd, setO, w0, w1, ↓reduceIte, Nat.reduceEqDiff, reduceCtorEq, Bool.false_eq_true, Int.reduceBEq, eq_self, decide_true, decide_false]
         try dsimp only)
      | (apply wpOps_if
         · rfl
         · simp only [stepE, evVal, opd, upd, setO, argsE, List.getD, binE, binInt, binStr, unE, wantedE, w0, w1, w2, Nat.reduceEqDiff, ↓reduceIte, Nat.reduceAdd, reduceCtorEq, eq_self, decide_true, decide_false, Bool.false_eq_true, Int.reduceBEq, Int.reduceBNe, Int.reduceLT, Int.reduceLE, Int.reduceGE, Int.reduceGT, Int.reduceEq]; exact rfl
         · intro hb; simp only [stepE, evVal, opd, upd, setO, argsE, List.getD, binE, binInt, binStr, unE, wantedE, w0, w1, w2, Nat.reduceEqDiff, ↓reduceIte, Nat.reduceAdd, reduceCtorEq, eq_self, decide_true, decide_false, Bool.false_eq_true, Int.reduceBEq, Int.reduceBNe, Int.reduceLT, Int.reduceLE, Int.reduceGE, Int.reduceGT, Int.reduceEq, hb, s.A2, s.A5, a0, hw, i0, i1, a1, p]; exact rfl))
    refine wpOps_nil (.inl ⟨rfl, ?_⟩)
    have gr' : Grown m N' := grown_but s.gr t (by omega)
    refine ⟨_, N', bE, bX, _, _, { e with to := e.to.set (rows.length - 1) { r with mark := { r.mark with a := bitsE .xor .i64 r.mark.a 1 } } }, rfl, by omega, by simp [upd, s.A2], by simp [upd, s.A5], s.RE.but t (by omega), s.RX.but t (by omega), s.envE gr', ?_, fun h => ?_⟩
    · refine ⟨rv, _, bv, rfl, s.k1, s.k2, ⟨rv, rfl, rows_grown gr' s.hr, s.pok⟩, ⟨rows.set (rows.length - 1) (recC { r with mark := { r.mark with a := bitsE .xor .i64 r.mark.a 1 } } rvr), ?_, by simp [hrl], fun i q hi => ?_⟩, bytes_grown gr' s.hb, by simp; omega, by show e.body.length ≤ 2000000; omega⟩
      · have := gb_rows (G := G) (cap := rows.length) (e := 24) T'
        simpa using this
      · rw [List.getElem?_set] at hi ⊢
        by_cases hj : rows.length - 1 = i
        · rw [if_pos hj] at hi
          rw [if_pos hj, if_pos (by omega)]
          split at hi
          · cases hi
            refine ⟨_, rfl, rvr, rfl, ?_⟩
            exact hp.grown gr'
          · cases hi
        · rw [if_neg hj] at hi
          rw [if_neg hj]
          obtain ⟨cs, h1, h2⟩ := s.hrx i q hi
          exact ⟨cs, h1, h2.grown gr'⟩
    · have := congrArg (fun d => d.to[rows.length - 1]?) h
      simp only [List.getElem?_set_self (show rows.length - 1 < e.to.length by omega), List.getElem?_eq_getElem (show rows.length - 1 < e.to.length by omega), hr, Option.some.injEq] at this
      exact xor_ne _ (congrArg (fun d => d.mark.a) this)
end
end Go.Proofs.YtjomofcdanpdgadGreatDoor.recordUnlike
