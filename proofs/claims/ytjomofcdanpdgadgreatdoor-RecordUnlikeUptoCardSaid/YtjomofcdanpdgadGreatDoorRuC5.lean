/- A part of the proof of the statement that this claim hands in: what single functions come to. There are no conditions. -/
import Derived.Test.YtjomofcdanpdgadGreatDoorRuC4
set_option linter.unusedSectionVars false
set_option linter.unusedVariables false
set_option linter.unusedSimpArgs false
namespace Go.Proofs.YtjomofcdanpdgadGreatDoor.recordUnlike
open Go.Ev hiding Comes
variable {G : Globs}

theorem env_same (a b : EnvD) (h : ((((((!decide (a.helo = b.helo) || !decide (a.peer = b.peer)) || !a.user == b.user) || !a.ext == b.ext) || !a.mark == b.mark) || a.time != b.time) || !decide (a.opts = b.opts)) = false) :
    ((decide (a.from = b.from) && a.body == b.body) && decide (a.to = b.to)) = decide (a = b) := by
  obtain ⟨a1, a2, a3, a4, a5, a6, a7, a8, a9, a10⟩ := a
  obtain ⟨b1, b2, b3, b4, b5, b6, b7, b8, b9, b10⟩ := b
  simp at h
  obtain ⟨⟨⟨⟨⟨⟨rfl, rfl⟩, rfl⟩, rfl⟩, rfl⟩, rfl⟩, rfl⟩ := h
  rw [Bool.eq_iff_iff]
  simp
  constructor
  · rintro ⟨⟨h1, h2⟩, h3⟩; exact ⟨h1, h3, h2⟩
  · rintro ⟨h1, h3, h2⟩; exact ⟨⟨h1, h2⟩, h3⟩

theorem c5 (m : Mem) (cs1 cs2 : List EV) (a b : EnvD) (h1 : EnvAt G m cs1 a) (h2 : EnvAt G m cs2 b) :
    Go.Ev.Comes T G 5 [.agg cs1, .agg cs2] m none ⟨.val (.bool (decide (a = b))), m, none⟩ := by
  refine comes_ofM T5 rfl fun M hg hlen hlow => ?_
  refine wpC_seq (wpC_reg (wpOps_box rfl h1.len fun M1 e1 => wpOps_box rfl h2.len fun M2 e2 => ?_))
  have g1 : Grown m M1 := by subst e1; exact hg.push
  have g2 : Grown m M2 := by subst e2; exact g1.push
  have low : M2.low = m.bl.length := by subst e2; subst e1; exact hlow
  have r1 : RowIs M2 M.bl.length cs1 := by subst e2; exact row_keep (by subst e1; exact row_push _ _)
  have r2 : RowIs M2 M1.bl.length cs2 := by subst e2; exact row_push _ _
  obtain ⟨rv1, tv1, bv1, rfl, k1, l1, p1, t1, y1, n1, n1'⟩ := h1.grown g2
  obtain ⟨rv2, tv2, bv2, rfl, k2, l2, p2, t2, y2, n2, n2'⟩ := h2.grown g2
  have o1 : HostOk a.from.host := let ⟨_, _, _, ok⟩ := p1; ok.1
  have o2 : HostOk b.from.host := let ⟨_, _, _, ok⟩ := p2; ok.1
  have a0 := getN_row (G := G) r1 (env_helo k1)
  have a1 := getN_row (G := G) r1 (env_peer k1 l1)
  have a2 := get_row (G := G) r1 (env_user k1 l1)
  have a3 := get_row (G := G) r1 (env_ext k1 l1)
  have a4 := get_row (G := G) r1 (env_time k1 l1)
  have a5 := getN_row (G := G) r1 (env_from k1 l1 o1)
  have a6 := getN_row (G := G) r1 (env_opts k1 l1 o1)
  have a7 := get_row (G := G) r1 (env_to k1 l1 o1)
  have a8 := get_row (G := G) r1 (env_mark k1 l1 o1)
  have a9 := get_row (G := G) r1 (env_body k1 l1 o1)
  have b0 := getN_row (G := G) r2 (env_helo k2)
  have b1 := getN_row (G := G) r2 (env_peer k2 l2)
  have b2 := get_row (G := G) r2 (env_user k2 l2)
  have b3 := get_row (G := G) r2 (env_ext k2 l2)
  have b4 := get_row (G := G) r2 (env_time k2 l2)
  have b5 := getN_row (G := G) r2 (env_from k2 l2 o2)
  have b6 := getN_row (G := G) r2 (env_opts k2 l2 o2)
  have b7 := get_row (G := G) r2 (env_to k2 l2 o2)
  have b8 := get_row (G := G) r2 (env_mark k2 l2 o2)
  have b9 := get_row (G := G) r2 (env_body k2 l2 o2)
  have q0 := eq_host a.helo b.helo k1 k2
  have q1 := eq_host a.peer b.peer l1 l2
  have q2 := eq_opts a.opts b.opts
  repeat (first
    | (refine wpOps_plain rfl ?_
       simp only [stepE, evVal, opd, upd, setO, argsE, List.getD, binE, binInt, binStr, unE, wantedE, w0, w1, w2, Nat.reduceEqDiff, ↓reduceIte, Nat.reduceAdd, reduceCtorEq, eq_self, decide_true, decide_false, Bool.false_eq_true, Int.reduceBEq, Int.reduceBNe, Int.reduceLT, Int.reduceLE, Int.reduceGE, Int.reduceGT, Int.reduceEq])
    | (apply wpOps_on
       · simp only [wantedE, upd, setO, w0, w1, ↓reduceIte, Nat.reduceEqDiff, reduceCtorEq, Bool.false_eq_true, Int.reduceBEq, eq_self, decide_true, decide_false])
    | (apply wpOps_off
       · simp only [wantedE, upd, setO, w0, w1, ↓reduceIte, Nat.reduceEqDiff, reduceCtorEq, Bool.false_eq_true, Int.reduceBEq, eq_self, decide_true, decide_false]
       try dsimp only)
    | (apply wpOps_if
       · rfl
       · simp only [stepE, evVal, opd, upd, setO, argsE, List.getD, binE, binInt, binStr, unE, wantedE, w0, w1, w2, Nat.reduceEqDiff, ↓reduceIte, Nat.reduceAdd, reduceCtorEq, eq_self, decide_true, decide_false, Bool.false_eq_true, Int.reduceBEq, Int.reduceBNe, Int.reduceLT, Int.reduceLE, Int.reduceGE, Int.reduceGT, Int.reduceEq]; exact rfl
       · intro hb; simp only [stepE, evVal, opd, upd, setO, argsE, List.getD, binE, binInt, binStr, unE, wantedE, w0, w1, w2, Nat.reduceEqDiff, ↓reduceIte, Nat.reduceAdd, reduceCtorEq, eq_self, decide_true, decide_false, Bool.false_eq_true, Int.reduceBEq, Int.reduceBNe, Int.reduceLT, Int.reduceLE, Int.reduceGE, Int.reduceGT, Int.reduceEq, hb]; exact rfl))
  refine wpOps_nil (wpC_seq (wpC_seq (wpC_reg ?_)))
  repeat (first
    | (refine wpOps_plain rfl ?_
       simp only [stepE, evVal, opd, upd, setO, argsE, List.getD, binE, binInt, binStr, unE, wantedE, w0, w1, w2, Nat.reduceEqDiff, ↓reduceIte, Nat.reduceAdd, reduceCtorEq, eq_self, decide_true, decide_false, Bool.false_eq_true, Int.reduceBEq, Int.reduceBNe, Int.reduceLT, Int.reduceLE, Int.reduceGE, Int.reduceGT, Int.reduceEq, a0, a1, a2, a3, a4, a6, a8, b0, b1, b2, b3, b4, b6, b8, q0, q1, q2])
    | (apply wpOps_on
       · simp only [wantedE, upd, setO, w0, w1, ↓reduceIte, Nat.reduceEqDiff, reduceCtorEq, Bool.false_eq_true, Int.reduceBEq, eq_self, decide_true, decide_false])
    | (apply wpOps_off
       · simp only [wantedE, upd, setO, w0, w1, ↓reduceIte, Nat.reduceEqDiff, reduceCtorEq, Bool.false_eq_true, Int.reduceBEq, eq_self, decide_true, decide_false]
       try dsimp only)
    | (apply wpOps_if
       · rfl
       · simp only [stepE, evVal, opd, upd, setO, argsE, List.getD, binE, binInt, binStr, unE, wantedE, w0, w1, w2, Nat.reduceEqDiff, ↓reduceIte, Nat.reduceAdd, reduceCtorEq, eq_self, decide_true, decide_false, Bool.false_eq_true, Int.reduceBEq, Int.reduceBNe, Int.reduceLT, Int.reduceLE, Int.reduceGE, Int.reduceGT, Int.reduceEq]; exact rfl
       · intro hb; simp only [stepE, evVal, opd, upd, setO, argsE, List.getD, binE, binInt, binStr, unE, wantedE, w0, w1, w2, Nat.reduceEqDiff, ↓reduceIte, Nat.reduceAdd, reduceCtorEq, eq_self, decide_true, decide_false, Bool.false_eq_true, Int.reduceBEq, Int.reduceBNe, Int.reduceLT, Int.reduceLE, Int.reduceGE, Int.reduceGT, Int.reduceEq, hb, a0, a1, a2, a3, a4, a6, a8, b0, b1, b2, b3, b4, b6, b8, q0, q1, q2]; exact rfl))
  refine wpOps_nil ?_
  apply wpC_cond
  · simp only [stepE, evVal, opd, upd, setO, argsE, List.getD, binE, binInt, binStr, unE, wantedE, w0, w1, w2, Nat.reduceEqDiff, ↓reduceIte, Nat.reduceAdd, reduceCtorEq, eq_self, decide_true, decide_false, Bool.false_eq_true, Int.reduceBEq, Int.reduceBNe, Int.reduceLT, Int.reduceLE, Int.reduceGE, Int.reduceGT, Int.reduceEq]; exact rfl
  · intro hne
    refine wpC_seq (wpC_reg ?_)
    repeat (first
      | (refine wpOps_plain rfl ?_
         simp only [stepE, evVal, opd, upd, setO, argsE, List.getD, binE, binInt, binStr, unE, wantedE, w0, w1, w2, Nat.reduceEqDiff, ↓reduceIte, Nat.reduceAdd, reduceCtorEq, eq_self, decide_true, decide_false, Bool.false_eq_true, Int.reduceBEq, Int.reduceBNe, Int.reduceLT, Int.reduceLE, Int.reduceGE, Int.reduceGT, Int.reduceEq])
      | (apply wpOps_on
         · simp only [wantedE, upd, setO, w0, w1, ↓reduceIte, Nat.reduceEqDiff, reduceCtorEq, Bool.false_eq_true, Int.reduceBEq, eq_self, decide_true, decide_false])
      | (apply wpOps_off
         · simp only [wantedE, upd, setO, w0, w1, ↓reduceIte, Nat.reduceEqDiff, reduceCtorEq, Bool.false_eq_true, Int.reduceBEq, eq_self, decide_true, decide_false]
         try dsimp only)
      | (apply wpOps_if
         · rfl
         · simp only [stepE, evVal, opd, upd, setO, argsE, List.getD, binE, binInt, binStr, unE, wantedE, w0, w1, w2, Nat.reduceEqDiff, ↓reduceIte, Nat.reduceAdd, reduceCtorEq, eq_self, decide_true, decide_false, Bool.false_eq_true, Int.reduceBEq, Int.reduceBNe, Int.reduceLT, Int.reduceLE, Int.reduceGE, Int.reduceGT, Int.reduceEq]; exact rfl
         · intro hb; simp only [stepE, evVal, opd, upd, setO, argsE, List.getD, binE, binInt, binStr, unE, wantedE, w0, w1, w2, Nat.reduceEqDiff, ↓reduceIte, Nat.reduceAdd, reduceCtorEq, eq_self, decide_true, decide_false, Bool.false_eq_true, Int.reduceBEq, Int.reduceBNe, Int.reduceLT, Int.reduceLE, Int.reduceGE, Int.reduceGT, Int.reduceEq, hb]; exact rfl))
    refine wpOps_nil (wpC_ret (post_ret ?_ (by omega) rfl))
    have : decide (a = b) = false := decide_eq_false fun e => by
      subst e
      simp at hne
    simp only [F5, resultsE, resE, upd, ↓reduceIte, this]
  · intro heq
    have hE := env_same a b heq
    refine wpC_skip (wpC_seq (wpC_reg ?_))
    repeat (first
      | (refine wpOps_plain rfl ?_
         simp only [stepE, evVal, opd, upd, setO, argsE, List.getD, binE, binInt, binStr, unE, wantedE, w0, w1, w2, Nat.reduceEqDiff, ↓reduceIte, Nat.reduceAdd, reduceCtorEq, eq_self, decide_true, decide_false, Bool.false_eq_true, Int.reduceBEq, Int.reduceBNe, Int.reduceLT, Int.reduceLE, Int.reduceGE, Int.reduceGT, Int.reduceEq, a5, b5])
      | (apply wpOps_on
         · simp only [wantedE, upd, setO, w0, w1, ↓reduceIte, Nat.reduceEqDiff, reduceCtorEq, Bool.false_eq_true, Int.reduceBEq, eq_self, decide_true, decide_false])
      | (apply wpOps_off
         · simp only [wantedE, upd, setO, w0, w1, ↓reduceIte, Nat.reduceEqDiff, reduceCtorEq, Bool.false_eq_true, Int.reduceBEq, eq_self, decide_true, decide_false]
         try dsimp only)
      | (apply wpOps_if
         · rfl
         · simp only [stepE, evVal, opd, upd, setO, argsE, List.getD, binE, binInt, binStr, unE, wantedE, w0, w1, w2, Nat.reduceEqDiff, ↓reduceIte, Nat.reduceAdd, reduceCtorEq, eq_self, decide_true, decide_false, Bool.false_eq_true, Int.reduceBEq, Int.reduceBNe, Int.reduceLT, Int.reduceLE, Int.reduceGE, Int.reduceGT, Int.reduceEq]; exact rfl
         · intro hb; simp only [stepE, evVal, opd, upd, setO, argsE, List.getD, binE, binInt, binStr, unE, wantedE, w0, w1, w2, Nat.reduceEqDiff, ↓reduceIte, Nat.reduceAdd, reduceCtorEq, eq_self, decide_true, decide_false, Bool.false_eq_true, Int.reduceBEq, Int.reduceBNe, Int.reduceLT, Int.reduceLE, Int.reduceGE, Int.reduceGT, Int.reduceEq, hb, a5, b5]; exact rfl))
    apply wpOps_call
    · first | rfl | (simp only [stepE, evVal, opd, upd, setO, argsE, List.getD, binE, binInt, binStr, unE, wantedE, w0, w1, w2, Nat.reduceEqDiff, ↓reduceIte, Nat.reduceAdd, reduceCtorEq, eq_self, decide_true, decide_false, Bool.false_eq_true, Int.reduceBEq, Int.reduceBNe, Int.reduceLT, Int.reduceLE, Int.reduceGE, Int.reduceGT, Int.reduceEq]; exact rfl)
    · (try simp only [stepE, evVal, opd, upd, setO, argsE, List.getD, binE, binInt, binStr, unE, wantedE, w0, w1, w2, Nat.reduceEqDiff, ↓reduceIte, Nat.reduceAdd, reduceCtorEq, eq_self, decide_true, decide_false, Bool.false_eq_true, Int.reduceBEq, Int.reduceBNe, Int.reduceLT, Int.reduceLE, Int.reduceGE, Int.reduceGT, Int.reduceEq]); exact (c9 M2 _ _ a.from b.from p1 p2)
    simp only [stepE, evVal, opd, upd, setO, argsE, List.getD, binE, binInt, binStr, unE, wantedE, w0, w1, w2, Nat.reduceEqDiff, ↓reduceIte, Nat.reduceAdd, reduceCtorEq, eq_self, decide_true, decide_false, Bool.false_eq_true, Int.reduceBEq, Int.reduceBNe, Int.reduceLT, Int.reduceLE, Int.reduceGE, Int.reduceGT, Int.reduceEq]
    repeat (first
      | (refine wpOps_plain rfl ?_
         simp only [stepE, evVal, opd, upd, setO, argsE, List.getD, binE, binInt, binStr, unE, wantedE, w0, w1, w2, Nat.reduceEqDiff, ↓reduceIte, Nat.reduceAdd, reduceCtorEq, eq_self, decide_true, decide_false, Bool.false_eq_true, Int.reduceBEq, Int.reduceBNe, Int.reduceLT, Int.reduceLE, Int.reduceGE, Int.reduceGT, Int.reduceEq, a7, b7, a9, b9])
      | (apply wpOps_on
         · simp only [wantedE, upd, setO, w0, w1, ↓reduceIte, Nat.reduceEqDiff, reduceCtorEq, Bool.false_eq_true, Int.reduceBEq, eq_self, decide_true, decide_false])
      | (apply wpOps_off
         · simp only [wantedE, upd, setO, w0, w1, ↓reduceIte, Nat.reduceEqDiff, reduceCtorEq, Bool.false_eq_true, Int.reduceBEq, eq_self, decide_true, decide_false]
         try dsimp only)
      | (apply wpOps_if
         · rfl
         · simp only [stepE, evVal, opd, upd, setO, argsE, List.getD, binE, binInt, binStr, unE, wantedE, w0, w1, w2, Nat.reduceEqDiff, ↓reduceIte, Nat.reduceAdd, reduceCtorEq, eq_self, decide_true, decide_false, Bool.false_eq_true, Int.reduceBEq, Int.reduceBNe, Int.reduceLT, Int.reduceLE, Int.reduceGE, Int.reduceGT, Int.reduceEq]; exact rfl
         · intro hb; simp only [stepE, evVal, opd, upd, setO, argsE, List.getD, binE, binInt, binStr, unE, wantedE, w0, w1, w2, Nat.reduceEqDiff, ↓reduceIte, Nat.reduceAdd, reduceCtorEq, eq_self, decide_true, decide_false, Bool.false_eq_true, Int.reduceBEq, Int.reduceBNe, Int.reduceLT, Int.reduceLE, Int.reduceGE, Int.reduceGT, Int.reduceEq, hb, a7, b7, a9, b9]; exact rfl))
    apply wpOps_ifcall
    · simp only [stepE, evVal, opd, upd, setO, argsE, List.getD, binE, binInt, binStr, unE, wantedE, w0, w1, w2, Nat.reduceEqDiff, ↓reduceIte, Nat.reduceAdd, reduceCtorEq, eq_self, decide_true, decide_false, Bool.false_eq_true, Int.reduceBEq, Int.reduceBNe, Int.reduceLT, Int.reduceLE, Int.reduceGE, Int.reduceGT, Int.reduceEq]; exact rfl
    · first | rfl | (simp only [stepE, evVal, opd, upd, setO, argsE, List.getD, binE, binInt, binStr, unE, wantedE, w0, w1, w2, Nat.reduceEqDiff, ↓reduceIte, Nat.reduceAdd, reduceCtorEq, eq_self, decide_true, decide_false, Bool.false_eq_true, Int.reduceBEq, Int.reduceBNe, Int.reduceLT, Int.reduceLE, Int.reduceGE, Int.reduceGT, Int.reduceEq]; exact rfl)
    · intro hb; simp only [stepE, evVal, opd, upd, setO, argsE, List.getD, binE, binInt, binStr, unE, wantedE, w0, w1, w2, Nat.reduceEqDiff, ↓reduceIte, Nat.reduceAdd, reduceCtorEq, eq_self, decide_true, decide_false, Bool.false_eq_true, Int.reduceBEq, Int.reduceBNe, Int.reduceLT, Int.reduceLE, Int.reduceGE, Int.reduceGT, Int.reduceEq, hb]; exact (c10 M2 bv1 bv2 a.body b.body y1 y2)
    simp only [stepE, evVal, opd, upd, setO, argsE, List.getD, binE, binInt, binStr, unE, wantedE, w0, w1, w2, Nat.reduceEqDiff, ↓reduceIte, Nat.reduceAdd, reduceCtorEq, eq_self, decide_true, decide_false, Bool.false_eq_true, Int.reduceBEq, Int.reduceBNe, Int.reduceLT, Int.reduceLE, Int.reduceGE, Int.reduceGT, Int.reduceEq]
    repeat (first
      | (refine wpOps_plain rfl ?_
         simp only [stepE, evVal, opd, upd, setO, argsE, List.getD, binE, binInt, binStr, unE, wantedE, w0, w1, w2, Nat.reduceEqDiff, ↓reduceIte, Nat.reduceAdd, reduceCtorEq, eq_self, decide_true, decide_false, Bool.false_eq_true, Int.reduceBEq, Int.reduceBNe, Int.reduceLT, Int.reduceLE, Int.reduceGE, Int.reduceGT, Int.reduceEq, a7, b7, a9, b9])
      | (apply wpOps_on
         · simp only [wantedE, upd, setO, w0, w1, ↓reduceIte, Nat.reduceEqDiff, reduceCtorEq, Bool.false_eq_true, Int.reduceBEq, eq_self, decide_true, decide_false])
      | (apply wpOps_off
         · simp only [wantedE, upd, setO, w0, w1, ↓reduceIte, Nat.reduceEqDiff, reduceCtorEq, Bool.false_eq_true, Int.reduceBEq, eq_self, decide_true, decide_false]
         try dsimp only)
      | (apply wpOps_if
         · rfl
         · simp only [stepE, evVal, opd, upd, setO, argsE, List.getD, binE, binInt, binStr, unE, wantedE, w0, w1, w2, Nat.reduceEqDiff, ↓reduceIte, Nat.reduceAdd, reduceCtorEq, eq_self, decide_true, decide_false, Bool.false_eq_true, Int.reduceBEq, Int.reduceBNe, Int.reduceLT, Int.reduceLE, Int.reduceGE, Int.reduceGT, Int.reduceEq]; exact rfl
         · intro hb; simp only [stepE, evVal, opd, upd, setO, argsE, List.getD, binE, binInt, binStr, unE, wantedE, w0, w1, w2, Nat.reduceEqDiff, ↓reduceIte, Nat.reduceAdd, reduceCtorEq, eq_self, decide_true, decide_false, Bool.false_eq_true, Int.reduceBEq, Int.reduceBNe, Int.reduceLT, Int.reduceLE, Int.reduceGE, Int.reduceGT, Int.reduceEq, hb, a7, b7, a9, b9]; exact rfl))
    apply wpOps_ifcall
    · simp only [stepE, evVal, opd, upd, setO, argsE, List.getD, binE, binInt, binStr, unE, wantedE, w0, w1, w2, Nat.reduceEqDiff, ↓reduceIte, Nat.reduceAdd, reduceCtorEq, eq_self, decide_true, decide_false, Bool.false_eq_true, Int.reduceBEq, Int.reduceBNe, Int.reduceLT, Int.reduceLE, Int.reduceGE, Int.reduceGT, Int.reduceEq]; exact rfl
    · first | rfl | (simp only [stepE, evVal, opd, upd, setO, argsE, List.getD, binE, binInt, binStr, unE, wantedE, w0, w1, w2, Nat.reduceEqDiff, ↓reduceIte, Nat.reduceAdd, reduceCtorEq, eq_self, decide_true, decide_false, Bool.false_eq_true, Int.reduceBEq, Int.reduceBNe, Int.reduceLT, Int.reduceLE, Int.reduceGE, Int.reduceGT, Int.reduceEq]; exact rfl)
    · intro hb; simp only [stepE, evVal, opd, upd, setO, argsE, List.getD, binE, binInt, binStr, unE, wantedE, w0, w1, w2, Nat.reduceEqDiff, ↓reduceIte, Nat.reduceAdd, reduceCtorEq, eq_self, decide_true, decide_false, Bool.false_eq_true, Int.reduceBEq, Int.reduceBNe, Int.reduceLT, Int.reduceLE, Int.reduceGE, Int.reduceGT, Int.reduceEq, hb]; exact (c11 M2 tv1 tv2 a.to b.to t1 t2 n1)
    simp only [stepE, evVal, opd, upd, setO, argsE, List.getD, binE, binInt, binStr, unE, wantedE, w0, w1, w2, Nat.reduceEqDiff, ↓reduceIte, Nat.reduceAdd, reduceCtorEq, eq_self, decide_true, decide_false, Bool.false_eq_true, Int.reduceBEq, Int.reduceBNe, Int.reduceLT, Int.reduceLE, Int.reduceGE, Int.reduceGT, Int.reduceEq]
    repeat (first
      | (refine wpOps_plain rfl ?_
         simp only [stepE, evVal, opd, upd, setO, argsE, List.getD, binE, binInt, binStr, unE, wantedE, w0, w1, w2, Nat.reduceEqDiff, ↓reduceIte, Nat.reduceAdd, reduceCtorEq, eq_self, decide_true, decide_false, Bool.false_eq_true, Int.reduceBEq, Int.reduceBNe, Int.reduceLT, Int.reduceLE, Int.reduceGE, Int.reduceGT, Int.reduceEq])
      | (apply wpOps_on
         · simp only [wantedE, upd, setO, w0, w1, ↓reduceIte, Nat.reduceEqDiff, reduceCtorEq, Bool.false_eq_true, Int.reduceBEq, eq_self, decide_true, decide_false])
      | (apply wpOps_off
         · simp only [wantedE, upd, setO, w0, w1, ↓reduceIte, Nat.reduceEqDiff, reduceCtorEq, Bool.false_eq_true, Int.reduceBEq, eq_self, decide_true, decide_false]
         try dsimp only)
      | (apply wpOps_if
         · rfl
         · simp only [stepE, evVal, opd, upd, setO, argsE, List.getD, binE, binInt, binStr, unE, wantedE, w0, w1, w2, Nat.reduceEqDiff, ↓reduceIte, Nat.reduceAdd, reduceCtorEq, eq_self, decide_true, decide_false, Bool.false_eq_true, Int.reduceBEq, Int.reduceBNe, Int.reduceLT, Int.reduceLE, Int.reduceGE, Int.reduceGT, Int.reduceEq]; exact rfl
         · intro hb; simp only [stepE, evVal, opd, upd, setO, argsE, List.getD, binE, binInt, binStr, unE, wantedE, w0, w1, w2, Nat.reduceEqDiff, ↓reduceIte, Nat.reduceAdd, reduceCtorEq, eq_self, decide_true, decide_false, Bool.false_eq_true, Int.reduceBEq, Int.reduceBNe, Int.reduceLT, Int.reduceLE, Int.reduceGE, Int.reduceGT, Int.reduceEq, hb]; exact rfl))
    refine wpOps_nil (wpC_ret (post_ret ?_ (by omega) rfl))
    simp only [F5, resultsE, resE, upd, ↓reduceIte, hE]
end Go.Proofs.YtjomofcdanpdgadGreatDoor.recordUnlike
