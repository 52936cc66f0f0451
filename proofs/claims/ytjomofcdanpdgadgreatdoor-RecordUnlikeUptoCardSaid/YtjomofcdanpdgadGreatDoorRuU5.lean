/- The law's own function: the case of the route. There are no conditions. -/
import Derived.Test.YtjomofcdanpdgadGreatDoorRuU4
set_option linter.unusedSectionVars false
set_option linter.unusedVariables false
set_option linter.unusedSimpArgs false
namespace Go.Proofs.YtjomofcdanpdgadGreatDoor.recordUnlike
open Go.Ev hiding Comes

section
variable {m : Mem} {e : EnvD} {bE bX bT g : Nat} {rows : List (List EV)} {rv tv bv : EV} {A : Fr} {N : Mem}
theorem host_one {l : List HostD} (h : ∀ x ∈ l, HostOk x) : ∀ r ∈ l.map hostC, r.length = 18 := by
  intro r hr
  obtain ⟨x, hx, rfl⟩ := List.mem_map.1 hr
  exact hostC_len (h x hx)

theorem case6 (s : Sit m e bE bX bT g rows rv tv bv A N) : wpC T G K6 (fun ex s => ex = .normal ∧ Done m e s) ⟨A, N, [], none⟩ := by
  have oE := s.oE
  have oX := s.oX
  have oT := s.oT
  have low := s.low
  have hb := s.bnd.2.2.2.2
  have hrl := s.hrl
  have ltT := s.T.lt
  have ltN := s.gr.le
  have pk := s.pok
  refine wpC_seq (wpC_reg ?_)
  apply wpOps_mklit (cs := [])
  · rfl
  intro N1 e1
  have gN1 : Grown N N1 := by subst e1; exact Grown.rfl'.push
  have l1 : N1.low = N.low := by subst e1; rfl
  have ln1 : N1.bl.length = N.bl.length + 1 := by subst e1; simp [Mem.push]
  have a0 := get_row (G := G) (s.RE.grown gN1) (env_route s.k1 s.k2)
  repeat (first
    | (refine wpOps_plain rfl ?_
       simp only [stepE, evVal, opd, upd, setO, argsE, List.getD, binE, binInt, binStr, unE, wantedE, w0, w1, w2, Nat.reduceEqDiff, ↓reduceIte, Nat.reduceAdd, reduceCtorEq, eq_self, decide_true, decide_false, Bool.false_eq_true, Int.reduceBEq, Int.reduceBNe, Int.reduceLT, Int.reduceLE, Int.reduceGE, Int.reduceGT, Int.reduceEq, s.A2, s.A5, a0])
    | (apply wpOps_on
       · simp only [wantedE, upd, setO, w0, w1, ↓reduceIte, Nat.reduceEqDiff, reduceCtorEq, Bool.false_eq_true, Int.reduceBEq, eq_self, decide_true, decide_false])
    | (apply wpOps_off
       · simp only [wantedE, upd, setO, w0, w1, ↓reduceIte, Nat.reduceEqDiff, reduceCtorEq, Bool.false_eq_true, Int.reduceBEq, eq_self, decide_true, decide_false]
       try dsimp only)
    | (apply wpOps_if
       · rfl
       · simp only [stepE, evVal, opd, upd, setO, argsE, List.getD, binE, binInt, binStr, unE, wantedE, w0, w1, w2, Nat.reduceEqDiff, ↓reduceIte, Nat.reduceAdd, reduceCtorEq, eq_self, decide_true, decide_false, Bool.false_eq_true, Int.reduceBEq, Int.reduceBNe, Int.reduceLT, Int.reduceLE, Int.reduceGE, Int.reduceGT, Int.reduceEq]; exact rfl
       · intro hb; simp only [stepE, evVal, opd, upd, setO, argsE, List.getD, binE, binInt, binStr, unE, wantedE, w0, w1, w2, Nat.reduceEqDiff, ↓reduceIte, Nat.reduceAdd, reduceCtorEq, eq_self, decide_true, decide_false, Bool.false_eq_true, Int.reduceBEq, Int.reduceBNe, Int.reduceLT, Int.reduceLE, Int.reduceGE, Int.reduceGT, Int.reduceEq, hb, s.A2, s.A5, a0]; exact rfl))
  obtain ⟨g2, N2, p2, T2, h2, t2, w2'⟩ := gb_append (G := G) (bytes := 40) (tag := 0) (nr := e.from.route.map hostC) (gb_lit (esz := 18) e1) (host_one pk.2.1) (by omega) (by simp; omega)
  simp only [List.length_nil, List.nil_append, List.length_map, Nat.zero_add] at p2 T2
  have gr1 := s.gr.trans gN1
  have src := rows_src (by decide) (rows_grown gr1 s.hr)
  rw [List.length_map] at src
  refine wpOps_append (new := (e.from.route.map hostC).flatten) (n := e.from.route.length) (by simp only [stepE, evVal, opd, upd, setO, argsE, List.getD, binE, binInt, binStr, unE, wantedE, w0, w1, w2, Nat.reduceEqDiff, ↓reduceIte, Nat.reduceAdd, reduceCtorEq, eq_self, decide_true, decide_false, Bool.false_eq_true, Int.reduceBEq, Int.reduceBNe, Int.reduceLT, Int.reduceLE, Int.reduceGE, Int.reduceGT, Int.reduceEq]; exact src) (by simp only [stepE, evVal, opd, upd, setO, argsE, List.getD, binE, binInt, binStr, unE, wantedE, w0, w1, w2, Nat.reduceEqDiff, ↓reduceIte, Nat.reduceAdd, reduceCtorEq, eq_self, decide_true, decide_false, Bool.false_eq_true, Int.reduceBEq, Int.reduceBNe, Int.reduceLT, Int.reduceLE, Int.reduceGE, Int.reduceGT, Int.reduceEq, p2]; exact rfl) ?_
  have gr2 : Grown m N2 := grown_but gr1 t2 (by omega)
  have ln2 := t2.1
  obtain ⟨N3, p3, R3, t3, l3⟩ := put1_row (v := .slice (some ⟨.mem N.bl.length g2, 0⟩) e.from.route.length e.from.route.length 18) ((s.RX.grown gN1).but t2 (by omega)) (off := 40) (by rw [envC_len s.k1 s.k2 s.pok.1]; omega)
  rw [env_put_route s.k1 s.k2] at R3
  have gr3 : Grown m N3 := grown_but gr2 t3 (by omega)
  have ln3 := t3.1
  have T3 := T2.but t3 (by omega)
  have TT3 := ((s.T.grown gN1).but t2 (by omega)).but t3 (by omega)
  have RE3 := ((s.RE.grown gN1).but t2 (by omega)).but t3 (by omega)
  repeat (first
    | (refine wpOps_plain rfl ?_
       simp only [stepE, evVal, opd, upd, setO, argsE, List.getD, binE, binInt, binStr, unE, wantedE, w0, w1, w2, Nat.reduceEqDiff, ↓reduceIte, Nat.reduceAdd, reduceCtorEq, eq_self, decide_true, decide_false, Bool.false_eq_true, Int.reduceBEq, Int.reduceBNe, Int.reduceLT, Int.reduceLE, Int.reduceGE, Int.reduceGT, Int.reduceEq, s.A2, s.A5, p3])
    | (apply wpOps_on
       · simp only [wantedE, upd, setO, w0, w1, ↓reduceIte, Nat.reduceEqDiff, reduceCtorEq, Bool.false_eq_true, Int.reduceBEq, eq_self, decide_true, decide_false])
    | (apply wpOps_off
       · simp only [wantedE, upd, setO, w0, w1, ↓reduceIte, Nat.reduceEqDiff, reduceCtorEq, Bool.false_eq_true, Int.reduceBEq, eq_self, decide_true, decide_false]
       try dsimp only)
    | (apply wpOps_if
       · rfl
       · simp only [stepE, evVal, opd, upd, setO, argsE, List.getD, binE, binInt, binStr, unE, wantedE, w0, w1, w2, Nat.reduceEqDiff, ↓reduceIte, Nat.reduceAdd, reduceCtorEq, eq_self, decide_true, decide_false, Bool.false_eq_true, Int.reduceBEq, Int.reduceBNe, Int.reduceLT, Int.reduceLE, Int.reduceGE, Int.reduceGT, Int.reduceEq]; exact rfl
       · intro hb; simp only [stepE, evVal, opd, upd, setO, argsE, List.getD, binE, binInt, binStr, unE, wantedE, w0, w1, w2, Nat.reduceEqDiff, ↓reduceIte, Nat.reduceAdd, reduceCtorEq, eq_self, decide_true, decide_false, Bool.false_eq_true, Int.reduceBEq, Int.reduceBNe, Int.reduceLT, Int.reduceLE, Int.reduceGE, Int.reduceGT, Int.reduceEq, hb, s.A2, s.A5, p3]; exact rfl))
  refine wpOps_nil ?_
  simp only [thenE]
  refine wpC_seq (wpC_reg ?_)
  have a3 := get_row (G := G) R3 (env_route s.k1 s.k2)
  repeat (first
    | (refine wpOps_plain rfl ?_
       simp only [stepE, evVal, opd, upd, setO, argsE, List.getD, binE, binInt, binStr, unE, wantedE, w0, w1, w2, Nat.reduceEqDiff, ↓reduceIte, Nat.reduceAdd, reduceCtorEq, eq_self, decide_true, decide_false, Bool.false_eq_true, Int.reduceBEq, Int.reduceBNe, Int.reduceLT, Int.reduceLE, Int.reduceGE, Int.reduceGT, Int.reduceEq, s.A2, s.A5, a3])
    | (apply wpOps_on
       · simp only [wantedE, upd, setO, w0, w1, ↓reduceIte, Nat.reduceEqDiff, reduceCtorEq, Bool.false_eq_true, Int.reduceBEq, eq_self, decide_true, decide_false])
    | (apply wpOps_off
       · simp only [wantedE, upd, setO, w0, w1, ↓reduceIte, Nat.reduceEqDiff, reduceCtorEq, Bool.false_eq_true, Int.reduceBEq, eq_self, decide_true, decide_false]
       try dsimp only)
    | (apply wpOps_if
       · rfl
       · simp only [stepE, evVal, opd, upd, setO, argsE, List.getD, binE, binInt, binStr, unE, wantedE, w0, w1, w2, Nat.reduceEqDiff, ↓reduceIte, Nat.reduceAdd, reduceCtorEq, eq_self, decide_true, decide_false, Bool.false_eq_true, Int.reduceBEq, Int.reduceBNe, Int.reduceLT, Int.reduceLE, Int.reduceGE, Int.reduceGT, Int.reduceEq]; exact rfl
       · intro hb; simp only [stepE, evVal, opd, upd, setO, argsE, List.getD, binE, binInt, binStr, unE, wantedE, w0, w1, w2, Nat.reduceEqDiff, ↓reduceIte, Nat.reduceAdd, reduceCtorEq, eq_self, decide_true, decide_false, Bool.false_eq_true, Int.reduceBEq, Int.reduceBNe, Int.reduceLT, Int.reduceLE, Int.reduceGE, Int.reduceGT, Int.reduceEq, hb, s.A2, s.A5, a3]; exact rfl))
  refine wpOps_nil ?_
  simp only [thenE]
  refine wpC_cond (t := decide ((e.from.route.length : Int) > 0)) (by simp only [stepE, evVal, opd, upd, setO, argsE, List.getD, binE, binInt, binStr, unE, wantedE, w0, w1, w2, Nat.reduceEqDiff, ↓reduceIte, Nat.reduceAdd, reduceCtorEq, eq_self, decide_true, decide_false, Bool.false_eq_true, Int.reduceBEq, Int.reduceBNe, Int.reduceLT, Int.reduceLE, Int.reduceGE, Int.reduceGT, Int.reduceEq]) (fun h0 => ?_) (fun h0 => ?_)
  · have hn : 0 < e.from.route.length := by simp at h0; exact h0
    have i1 : ((0 : Int) < (e.from.route.length : Int)) = True := eq_true (by omega)
    have lt0 : bX < N3.bl.length := by omega
    have lt1 : N.bl.length < N3.bl.length := by omega
    cases hroute : e.from.route with
    | nil => rw [hroute] at hn; simp at hn
    | cons h t =>
      have T3' : Gb ⟨N3.bl, N3.bl.length⟩ N.bl.length g2 18 ((h :: t).map hostC) := by rw [← hroute]; exact T3
      have okh : HostOk h := pk.2.1 h (by rw [hroute]; exact List.mem_cons_self ..)
      have d0 : N3.get G ⟨.mem N.bl.length g2, 1⟩ = some (.str h.name) := get_of_getN (gb_getN (G := G) (m := ⟨N3.bl, N3.bl.length⟩) T3' (by
        rw [List.map_cons, List.flatten_cons]
        exact sub_one rfl))
      have hr := room (s.bnd.2.2.2.1 h (by rw [hroute]; exact List.mem_cons_self ..))
      obtain ⟨N5, p5, T5, t5, l5⟩ := gb_put T3' (off := 1) (v := .str (h.name ++ [120])) (rows' := ({ h with name := h.name ++ [120] } :: t).map hostC) (by
        have := hostC_len okh
        simp; omega) rfl (host_one (fun x hx => by
          rcases List.mem_cons.1 hx with rfl | hx
          · exact okh
          · exact pk.2.1 x (by rw [hroute]; exact List.mem_cons_of_mem _ hx)))
      simp only at l5
      refine wpC_regD2 ?_
      simp only [List.take_succ_cons, List.take_zero, List.drop_succ_cons, List.drop_zero]
      repeat (first
        | (refine wpD_pfloat rfl (by first | rfl | (simp only [floatOk, oldAd_plus, oldAd_mem, decide_eq_true_eq, opd, upd, setO, ↓reduceIte, Nat.reduceEqDiff, s.A2, s.A5, a3, lt0, lt1, i1, d0, hr, Int.reduceToNat, Nat.reduceMul]; done)) ?_
           simp only [stepE, evVal, opd, upd, setO, argsE, List.getD, binE, binInt, binStr, unE, wantedE, w0, w1, w2, Nat.reduceEqDiff, ↓reduceIte, Nat.reduceAdd, reduceCtorEq, eq_self, decide_true, decide_false, Bool.false_eq_true, Int.reduceBEq, Int.reduceBNe, Int.reduceLT, Int.reduceLE, Int.reduceGE, Int.reduceGT, Int.reduceEq, s.A2, s.A5, a3, lt0, lt1, i1, d0, hr, Int.reduceToNat, Nat.reduceMul])
        | (refine wpD_plain rfl ?_
           simp only [stepE, evVal, opd, upd, setO, argsE, List.getD, binE, binInt, binStr, unE, wantedE, w0, w1, w2, Nat.reduceEqDiff, ↓reduceIte, Nat.reduceAdd, reduceCtorEq, eq_self, decide_true, decide_false, Bool.false_eq_true, Int.reduceBEq, Int.reduceBNe, Int.reduceLT, Int.reduceLE, Int.reduceGE, Int.reduceGT, Int.reduceEq, s.A2, s.A5, a3, lt0, lt1, i1, d0, hr, Int.reduceToNat, Nat.reduceMul])
        | (apply wpD_on
           · simp only [wantedE, upd, setO, w0, w1, ↓reduceIte, Nat.reduceEqDiff, reduceCtorEq, Bool.false_eq_true, Int.reduceBEq, eq_self, decide_true, decide_false])
        | (apply wpD_off
           · simp only [wantedE, upd, setO, w0, w1, ↓reduceIte, Nat.reduceEqDiff, reduceCtorEq, Bool.false_eq_true, Int.reduceBEq, eq_self, decide_true, decide_false]
           try dsimp only)
        | (apply wpD_iffloat
           · simp only [stepE, evVal, opd, upd, setO, argsE, List.getD, binE, binInt, binStr, unE, wantedE, w0, w1, w2, Nat.reduceEqDiff, ↓reduceIte, Nat.reduceAdd, reduceCtorEq, eq_self, decide_true, decide_false, Bool.false_eq_true, Int.reduceBEq, Int.reduceBNe, Int.reduceLT, Int.reduceLE, Int.reduceGE, Int.reduceGT, Int.reduceEq]; exact rfl
           · intro hb; first | rfl | (simp only [floatOk, oldAd_plus, oldAd_mem, decide_eq_true_eq, opd, upd, setO, ↓reduceIte, Nat.reduceEqDiff, hb, s.A2, s.A5, a3, lt0, lt1, i1, d0, hr, Int.reduceToNat, Nat.reduceMul]; done)
           · intro hb; simp only [stepE, evVal, opd, upd, setO, argsE, List.getD, binE, binInt, binStr, unE, wantedE, w0, w1, w2, Nat.reduceEqDiff, ↓reduceIte, Nat.reduceAdd, reduceCtorEq, eq_self, decide_true, decide_false, Bool.false_eq_true, Int.reduceBEq, Int.reduceBNe, Int.reduceLT, Int.reduceLE, Int.reduceGE, Int.reduceGT, Int.reduceEq, hb, s.A2, s.A5, a3, lt0, lt1, i1, d0, hr, Int.reduceToNat, Nat.reduceMul]; exact rfl)
        | (apply wpD_ifstep
           · rfl
           · simp only [stepE, evVal, opd, upd, setO, argsE, List.getD, binE, binInt, binStr, unE, wantedE, w0, w1, w2, Nat.reduceEqDiff, ↓reduceIte, Nat.reduceAdd, reduceCtorEq, eq_self, decide_true, decide_false, Bool.false_eq_true, Int.reduceBEq, Int.reduceBNe, Int.reduceLT, Int.reduceLE, Int.reduceGE, Int.reduceGT, Int.reduceEq]; exact rfl
           · intro hb; simp only [stepE, evVal, opd, upd, setO, argsE, List.getD, binE, binInt, binStr, unE, wantedE, w0, w1, w2, Nat.reduceEqDiff, ↓reduceIte, Nat.reduceAdd, reduceCtorEq, eq_self, decide_true, decide_false, Bool.false_eq_true, Int.reduceBEq, Int.reduceBNe, Int.reduceLT, Int.reduceLE, Int.reduceGE, Int.reduceGT, Int.reduceEq, hb, s.A2, s.A5, a3, lt0, lt1, i1, d0, hr, Int.reduceToNat, Nat.reduceMul]; exact rfl))
      refine wpD_nil ⟨Nat.le_refl _, ?_⟩
      repeat (first
        | (refine wpD_pfloat rfl (by first | rfl | (simp only [floatOk, oldAd_plus, oldAd_mem, decide_eq_true_eq, opd, upd, setO, ↓reduceIte, Nat.reduceEqDiff, s.A2, s.A5, a3, lt0, lt1, i1, d0, hr, p5, Int.reduceToNat, Nat.reduceMul, Nat.reduceAdd]; done)) ?_
           simp only [stepE, evVal, opd, upd, setO, argsE, List.getD, binE, binInt, binStr, unE, wantedE, w0, w1, w2, Nat.reduceEqDiff, ↓reduceIte, Nat.reduceAdd, reduceCtorEq, eq_self, decide_true, decide_false, Bool.false_eq_true, Int.reduceBEq, Int.reduceBNe, Int.reduceLT, Int.reduceLE, Int.reduceGE, Int.reduceGT, Int.reduceEq, s.A2, s.A5, a3, lt0, lt1, i1, d0, hr, p5, Int.reduceToNat, Nat.reduceMul, Nat.reduceAdd])
        | (refine wpD_plain rfl ?_
           simp only [stepE, evVal, opd, upd, setO, argsE, List.getD, binE, binInt, binStr, unE, wantedE, w0, w1, w2, Nat.reduceEqDiff, ↓reduceIte, Nat.reduceAdd, reduceCtorEq, eq_self, decide_true, decide_false, Bool.false_eq_true, Int.reduceBEq, Int.reduceBNe, Int.reduceLT, Int.reduceLE, Int.reduceGE, Int.reduceGT, Int.reduceEq, s.A2, s.A5, a3, lt0, lt1, i1, d0, hr, p5, Int.reduceToNat, Nat.reduceMul, Nat.reduceAdd])
        | (apply wpD_on
           · simp only [wantedE, upd, setO, w0, w1, ↓reduceIte, Nat.reduceEqDiff, reduceCtorEq, Bool.false_eq_true, Int.reduceBEq, eq_self, decide_true, decide_false])
        | (apply wpD_off
           · simp only [wantedE, upd, setO, w0, w1, ↓reduceIte, Nat.reduceEqDiff, reduceCtorEq, Bool.false_eq_true, Int.reduceBEq, eq_self, decide_true, decide_false]
           try dsimp only)
        | (apply wpD_iffloat
           · simp only [stepE, evVal, opd, upd, setO, argsE, List.getD, binE, binInt, binStr, unE, wantedE, w0, w1, w2, Nat.reduceEqDiff, ↓reduceIte, Nat.reduceAdd, reduceCtorEq, eq_self, decide_true, decide_false, Bool.false_eq_true, Int.reduceBEq, Int.reduceBNe, Int.reduceLT, Int.reduceLE, Int.reduceGE, Int.reduceGT, Int.reduceEq]; exact rfl
           · intro hb; first | rfl | (simp only [floatOk, oldAd_plus, oldAd_mem, decide_eq_true_eq, opd, upd, setO, ↓reduceIte, Nat.reduceEqDiff, hb, s.A2, s.A5, a3, lt0, lt1, i1, d0, hr, p5, Int.reduceToNat, Nat.reduceMul, Nat.reduceAdd]; done)
           · intro hb; simp only [stepE, evVal, opd, upd, setO, argsE, List.getD, binE, binInt, binStr, unE, wantedE, w0, w1, w2, Nat.reduceEqDiff, ↓reduceIte, Nat.reduceAdd, reduceCtorEq, eq_self, decide_true, decide_false, Bool.false_eq_true, Int.reduceBEq, Int.reduceBNe, Int.reduceLT, Int.reduceLE, Int.reduceGE, Int.reduceGT, Int.reduceEq, hb, s.A2, s.A5, a3, lt0, lt1, i1, d0, hr, p5, Int.reduceToNat, Nat.reduceMul, Nat.reduceAdd]; exact rfl)
        | (apply wpD_ifstep
           · rfl
           · simp only [stepE, evVal, opd, upd, setO, argsE, List.getD, binE, binInt, binStr, unE, wantedE, w0, w1, w2, Nat.reduceEqDiff, ↓reduceIte, Nat.reduceAdd, reduceCtorEq, eq_self, decide_true, decide_false, Bool.false_eq_true, Int.reduceBEq, Int.reduceBNe, Int.reduceLT, Int.reduceLE, Int.reduceGE, Int.reduceGT, Int.reduceEq]; exact rfl
           · intro hb; simp only [stepE, evVal, opd, upd, setO, argsE, List.getD, binE, binInt, binStr, unE, wantedE, w0, w1, w2, Nat.reduceEqDiff, ↓reduceIte, Nat.reduceAdd, reduceCtorEq, eq_self, decide_true, decide_false, Bool.false_eq_true, Int.reduceBEq, Int.reduceBNe, Int.reduceLT, Int.reduceLE, Int.reduceGE, Int.reduceGT, Int.reduceEq, hb, s.A2, s.A5, a3, lt0, lt1, i1, d0, hr, p5, Int.reduceToNat, Nat.reduceMul, Nat.reduceAdd]; exact rfl))
      refine wpD_nil ?_
      have gr5 : Grown m N5 := grown_but (m0 := m) (N := ⟨N3.bl, N3.bl.length⟩) gr3 t5 (by omega)
      have b3 := t5.1
      refine ⟨trivial, _, ⟨N5.bl, lowD N3 N5⟩, bE, bX, _, _, { e with «from» := { e.from with route := { h with name := h.name ++ [120] } :: t } }, rfl, ?_, by simp [upd, s.A2], by simp [upd, s.A5], RowIs.but t5 (by omega) RE3, RowIs.but t5 (by omega) R3, s.envE (N' := ⟨N5.bl, lowD N3 N5⟩) gr5, ?_, fun h => ?_⟩
      · simp only [lowD]
        split <;> omega
      · refine ⟨_, _, bv, rfl, s.k1, s.k2, ⟨_, rfl, ?_, pk.1, fun x hx => ?_, ?_⟩, s.recs (N' := ⟨N5.bl, lowD N3 N5⟩) gr5 (TT3.but t5 (by omega)), bytes_grown (M := ⟨N5.bl, lowD N3 N5⟩) gr5 s.hb, by show e.to.length ≤ 2000000; omega, by show e.body.length ≤ 2000000; omega⟩
        · have := gb_rows (G := G) (m := ⟨N5.bl, lowD N3 N5⟩) (cap := e.from.route.length) (e := 18) T5
          rw [List.length_map, List.length_cons, ← List.length_cons (a := h), ← hroute] at this
          exact this
        · rcases List.mem_cons.1 hx with rfl | hx
          · exact okh
          · exact pk.2.1 x (by rw [hroute]; exact List.mem_cons_of_mem _ hx)
        · have := pk.2.2
          rw [hroute] at this
          exact this
      · have := congrArg (fun d => d.from.route) h
        simp only [hroute, List.cons.injEq] at this
        exact app_ne _ _ (congrArg HostD.name this.1)
  · have hn : e.from.route = [] := by
      simp at h0
      exact h0
    refine wpC_reg ?_
    repeat (first
      | (refine wpOps_plain rfl ?_
         simp only [stepE, evVal, opd, upd, setO, argsE, List.getD, binE, binInt, binStr, unE, wantedE, w0, w1, w2, Nat.reduceEqDiff, ↓reduceIte, Nat.reduceAdd, reduceCtorEq, eq_self, decide_true, decide_false, Bool.false_eq_true, Int.reduceBEq, Int.reduceBNe, Int.reduceLT, Int.reduceLE, Int.reduceGE, Int.reduceGT, Int.reduceEq, s.A2, s.A5, a3])
      | (apply wpOps_on
         · simp only [wantedE, upd, setO, w0, w1, ↓reduceIte, Nat.reduceEqDiff, reduceCtorEq, Bool.false_eq_true, Int.reduceBEq, eq_self, decide_true, decide_false])
      | (apply wpOps_off
         · simp only [wantedE, upd, setO, w0, w1, ↓reduceIte, Nat.reduceEqDiff, reduceCtorEq, Bool.false_eq_true, Int.reduceBEq, eq_self, decide_true, decide_false]
         try dsimp only)
      | (apply wpOps_if
         · rfl
         · simp only [stepE, evVal, opd, upd, setO, argsE, List.getD, binE, binInt, binStr, unE, wantedE, w0, w1, w2, Nat.reduceEqDiff, ↓reduceIte, Nat.reduceAdd, reduceCtorEq, eq_self, decide_true, decide_false, Bool.false_eq_true, Int.reduceBEq, Int.reduceBNe, Int.reduceLT, Int.reduceLE, Int.reduceGE, Int.reduceGT, Int.reduceEq]; exact rfl
         · intro hb; simp only [stepE, evVal, opd, upd, setO, argsE, List.getD, binE, binInt, binStr, unE, wantedE, w0, w1, w2, Nat.reduceEqDiff, ↓reduceIte, Nat.reduceAdd, reduceCtorEq, eq_self, decide_true, decide_false, Bool.false_eq_true, Int.reduceBEq, Int.reduceBNe, Int.reduceLT, Int.reduceLE, Int.reduceGE, Int.reduceGT, Int.reduceEq, hb, s.A2, s.A5, a3]; exact rfl))
    apply wpOps_build (cs := hostC zeroH)
    · rfl
    apply wpOps_mklit (cs := hostC zeroH)
    · exact fill_all rfl rfl rfl
    intro N4 e4
    have gN4 : Grown N3 N4 := by subst e4; exact Grown.rfl'.push
    have l4 : N4.low = N3.low := by subst e4; rfl
    have ln4 := gN4.le
    obtain ⟨g5, N5, p5, T5, h5, t5, w5⟩ := gb_append (G := G) (bytes := 40) (tag := 0) (nr := [hostC zeroH]) (T3.grown gN4) (by simp; rfl) (by omega) (by simp; omega)
    simp only [List.length_singleton, List.flatten_cons, List.flatten_nil, List.append_nil, List.length_map] at p5
    refine wpOps_append (new := hostC zeroH) (n := 1) (by simp only [stepE, evVal, opd, upd, setO, argsE, List.getD, binE, binInt, binStr, unE, wantedE, w0, w1, w2, Nat.reduceEqDiff, ↓reduceIte, Nat.reduceAdd, reduceCtorEq, eq_self, decide_true, decide_false, Bool.false_eq_true, Int.reduceBEq, Int.reduceBNe, Int.reduceLT, Int.reduceLE, Int.reduceGE, Int.reduceGT, Int.reduceEq]; exact src_lit e4 rfl) (by simp only [stepE, evVal, opd, upd, setO, argsE, List.getD, binE, binInt, binStr, unE, wantedE, w0, w1, w2, Nat.reduceEqDiff, ↓reduceIte, Nat.reduceAdd, reduceCtorEq, eq_self, decide_true, decide_false, Bool.false_eq_true, Int.reduceBEq, Int.reduceBNe, Int.reduceLT, Int.reduceLE, Int.reduceGE, Int.reduceGT, Int.reduceEq, p5]; exact rfl) ?_
    have gr5 : Grown m N5 := grown_but (gr3.trans gN4) t5 (by omega)
    obtain ⟨N', p, hd⟩ := fin3 (x := { e with «from» := { e.from with route := e.from.route ++ [zeroH] } }) (off := 40) (v := .slice (some ⟨.mem N.bl.length g5, 0⟩) (e.from.route.length + 1) (e.from.route.length + 1) 18) (by omega) gr5 oE oX ((RE3.grown gN4).but t5 (by omega)) ((R3.grown gN4).but t5 (by omega)) (by rw [envC_len s.k1 s.k2 s.pok.1]; omega) (fun N' h => s.envE h)
      (fun N' h hb' => by
        rw [env_put_route s.k1 s.k2]
        refine ⟨_, _, bv, rfl, s.k1, s.k2, ⟨_, rfl, ?_, pk.1, fun x hx => ?_, by simp; omega⟩, s.recs h (((TT3.grown gN4).but t5 (by omega)).but hb' (by omega)), bytes_grown h s.hb, by show e.to.length ≤ 2000000; omega, by show e.body.length ≤ 2000000; omega⟩
        · have := gb_rows (G := G) (cap := e.from.route.length + 1) (e := 18) (T5.but hb' (by omega))
          simpa using this
        · rcases List.mem_append.1 hx with hx | hx
          · exact pk.2.1 x hx
          · simp at hx; subst hx; rfl)
      (fun h => app_ne _ _ (congrArg (fun d => d.from.route) h))
    repeat (first
      | (refine wpOps_plain rfl ?_
         simp only [stepE, evVal, opd, upd, setO, argsE, List.getD, binE, binInt, binStr, unE, wantedE, w0, w1, w2, Nat.reduceEqDiff, ↓reduceIte, Nat.reduceAdd, reduceCtorEq, eq_self, decide_true, decide_false, Bool.false_eq_true, Int.reduceBEq, Int.reduceBNe, Int.reduceLT, Int.reduceLE, Int.reduceGE, Int.reduceGT, Int.reduceEq, s.A2, s.A5, p])
      | (apply wpOps_on
         · simp only [wantedE, upd, setO, w0, w1, ↓reduceIte, Nat.reduceEqDiff, reduceCtorEq, Bool.false_eq_true, Int.reduceBEq, eq_self, decide_true, decide_false])
      | (apply wpOps_off
         · simp only [wantedE, upd, setO, w0, w1, ↓reduceIte, Nat.reduceEqDiff, reduceCtorEq, Bool.false_eq_true, Int.reduceBEq, eq_self, decide_true, decide_false]
         try dsimp only)
      | (apply wpOps_if
         · rfl
         · simp only [stepE, evVal, opd, upd, setO, argsE, List.getD, binE, binInt, binStr, unE, wantedE, w0, w1, w2, Nat.reduceEqDiff, ↓reduceIte, Nat.reduceAdd, reduceCtorEq, eq_self, decide_true, decide_false, Bool.false_eq_true, Int.reduceBEq, Int.reduceBNe, Int.reduceLT, Int.reduceLE, Int.reduceGE, Int.reduceGT, Int.reduceEq]; exact rfl
         · intro hb; simp only [stepE, evVal, opd, upd, setO, argsE, List.getD, binE, binInt, binStr, unE, wantedE, w0, w1, w2, Nat.reduceEqDiff, ↓reduceIte, Nat.reduceAdd, reduceCtorEq, eq_self, decide_true, decide_false, Bool.false_eq_true, Int.reduceBEq, Int.reduceBNe, Int.reduceLT, Int.reduceLE, Int.reduceGE, Int.reduceGT, Int.reduceEq, hb, s.A2, s.A5, p]; exact rfl))
    refine wpOps_nil ?_
    exact ⟨rfl, hd _ (by simp [upd, s.A2]) (by simp [upd, s.A5])⟩
end
end Go.Proofs.YtjomofcdanpdgadGreatDoor.recordUnlike
