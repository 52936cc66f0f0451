/- The law's own function, the cases with slices. There are no conditions. -/
import Derived.Test.YtjomofcdanpdgadGreatDoorRuU2
set_option linter.unusedSectionVars false
set_option linter.unusedVariables false
set_option linter.unusedSimpArgs false
namespace Go.Proofs.YtjomofcdanpdgadGreatDoor.recordUnlike
open Go.Ev hiding Comes

def byteRows (s : List UInt8) : List (List EV) := (bytesE s).map fun v => [v]
theorem byteRows_len {s : List UInt8} : (byteRows s).length = s.length := by simp [byteRows, bytesE]
theorem byteRows_one {s : List UInt8} : ∀ r ∈ byteRows s, r.length = 1 := by
  intro r hr
  obtain ⟨v, _, rfl⟩ := List.mem_map.1 hr
  rfl
theorem flat_single : ∀ (l : List EV), (l.map fun v => [v]).flatten = l
  | [] => rfl
  | x :: l => by simp [flat_single l]
theorem byteRows_flat {s : List UInt8} : (byteRows s).flatten = bytesE s := flat_single _
theorem bytes_src {m : Mem} {v : EV} {s : List UInt8} (h : BytesAt G m v s) : srcCells G m 1 v = some (bytesE s, s.length) := by
  rcases h with ⟨e, rfl, rfl⟩ | ⟨a, cap, e, rfl, hg⟩
  · rfl
  · simp only [srcCells, Nat.mul_one, hg, Option.map_some]
theorem rows_src {m : Mem} {v : EV} {esz : Nat} {rows : List (List EV)} (he : esz ≠ 0) (h : RowsAt G m esz v rows) : srcCells G m esz v = some (rows.flatten, rows.length) := by
  rcases h with ⟨e, rfl, rfl⟩ | ⟨a, cap, e, rfl, _, hg⟩
  · rfl
  · by_cases hn : rows = []
    · subst hn
      simp [srcCells, Mem.getN]
    · simp only [srcCells, whole_rows he rows hn hg, Option.map_some]
theorem flat_set {esz off : Nat} {v : EV} (ho : off < esz) : ∀ {cs : List (List EV)} {i : Nat} {r : List EV}, (∀ c ∈ cs, c.length = esz) → cs[i]? = some r → cs.flatten.set (i * esz + off) v = (cs.set i (r.set off v)).flatten
  | [], _, _, _, h => by simp at h
  | c :: cs, 0, r, hl, h => by
    simp at h
    subst h
    have := hl c (List.mem_cons_self ..)
    simp only [List.flatten_cons, List.set_cons_zero, Nat.zero_mul, Nat.zero_add]
    rw [List.set_append_left _ _ (by omega)]
  | c :: cs, i + 1, r, hl, h => by
    have h1 := hl c (List.mem_cons_self ..)
    have := flat_set ho (v := v) (cs := cs) (fun c hc => hl c (List.mem_cons_of_mem _ hc)) (by simpa using h)
    simp only [List.flatten_cons, List.set_cons_succ]
    rw [Nat.succ_mul, show i * esz + esz + off = esz + (i * esz + off) by omega, set_skip h1, this]
theorem gb_lit {N M : Mem} {esz : Nat} (e : M = N.push (.cells [] 0 true)) : Gb M N.bl.length 0 esz [] := by
  subst e
  exact ⟨by simp [Mem.push], by simp⟩

section
variable {m : Mem} {e : EnvD} {bE bX bT g : Nat} {rows : List (List EV)} {rv tv bv : EV} {A : Fr} {N : Mem}
theorem fin3 {off : Nat} {v : EV} {csX : List EV} {x : EnvD} (low : m.bl.length ≤ N.low) (gr : Grown m N) (oE : m.bl.length ≤ bE) (oX : bE < bX) (RE : RowIs N bE (envC e rv tv bv)) (RX : RowIs N bX csX) (ho : off < csX.length)
    (hE : ∀ N', Grown m N' → EnvAt G N' (envC e rv tv bv) e) (hX : ∀ N', Grown m N' → But1 bX N N' → EnvAt G N' (csX.set off v) x) (hne : x ≠ e) :
    ∃ N', N.put1 ⟨.mem bX 0, off⟩ v = some N' ∧ ∀ A' : Fr, A' 2 = .ptr (some ⟨.mem bE 0, 0⟩) → A' 5 = .ptr (some ⟨.mem bX 0, 0⟩) → Done m e ⟨A', N', [], none⟩ := by
  obtain ⟨N', p, R, t, l⟩ := put1_row (v := v) RX (off := off) ho
  have gr' : Grown m N' := grown_but gr t (by omega)
  exact ⟨N', p, fun A' a2 a5 => ⟨A', N', bE, bX, _, _, x, rfl, by omega, a2, a5, RE.but t (by omega), R, hE N' gr', hX N' gr' t, hne⟩⟩

def zeroH : HostD := ⟨0, [], [0, 0, 0, 0, 0, 0, 0, 0, 0, 0, 0, 0, 0, 0, 0, 0]⟩
def zeroR : RecD := ⟨⟨0, [], [], zeroH⟩, ⟨0, false, []⟩⟩
theorem zeroR_at {M : Mem} : RecAt G M (recC zeroR (.slice none 0 0 0)) zeroR := ⟨_, rfl, _, rfl, .inl ⟨0, rfl, rfl⟩, rfl, by simp [zeroR], by simp [zeroR]⟩
theorem Sit.one (s : Sit m e bE bX bT g rows rv tv bv A N) : ∀ r ∈ rows, r.length = 24 := s.T.2

theorem case9 (s : Sit m e bE bX bT g rows rv tv bv A N) : wpC T G K9 (fun ex s => ex = .normal ∧ Done m e s) ⟨A, N, [], none⟩ := by
  have oE := s.oE
  have oX := s.oX
  have oT := s.oT
  have low := s.low
  have g1 := s.g1
  have hb := s.bnd.2.2.2.2
  have hrl := s.hrl
  refine wpC_reg ?_
  have a0 := get_row (G := G) s.RX (env_to s.k1 s.k2 s.pok.1)
  repeat (first
    | (refine wpOps_plain rfl ?_
       simp only [stepE, evVal, opd, upd, setO, argsE, List.getD, binE, binInt, binStr, unE, wantedE, w0, w1, w2, Nat.reduceEqDiff, ↓reduceIte, Nat.reduceAdd, reduceCtorEq, eq_self, decide_true, decide_false, Bool.false_eq_true, Int.reduceBEq, Int.reduceBNe, Int.reduceLT, Int.reduceLE, Int.reduceGE, Int.reduceGT, Int.reduceEq, s.A2, s.A5, a0])
    | (apply wpOps_on
       · simp only [wantedE, upd, setO, w0, w1, ↓reduceIte, Nat.reduceEqDiff, reduceCtorEq, Bool.false_eq_true, Int.reduceBEq, eq_self, decide_true, decide_false])
    | (apply wpOps_off
       · simp only [wantedE, upd, setO, w0, w1, ↓reduceIte, Nat.reduceEqDiff, reduceCtorEq, Bool.false_eq_true, Int.reduceBEq, eq_self, decide_true, decide_false]
       try dsimp only)
    | (apply wpOps_if
       · rfl
       · simp only [stepE, evVal, opd, upd, setO, argsE, List.getD, binE, binInt, binStr, unE, wantedE, w0, w1, w2, Nat.reduceEqDiff, ↓reduceIte, Nat.reduceAdd, reduceCtorEq, eq_self, decide_true, decide_false, Bool.false_eq_true, Int.reduceBEq, Int.reduceBNe, Int.reduceLT, Int.reduceLE, Int.reduceGE, Int.reduceGT, Int.reduceEq]; exact rfl
       · intro hb; simp only [stepE, evVal, opd, upd, setO, argsE, List.getD, binE, binInt, binStr, unE, wantedE, w0, w1, w2, Nat.reduceEqDiff, ↓reduceIte, Nat.reduceAdd, reduceCtorEq, eq_self, decide_true, decide_false, Bool.false_eq_true, Int.reduceBEq, Int.reduceBNe, Int.reduceLT, Int.reduceLE, Int.reduceGE, Int.reduceGT, Int.reduceEq, hb, s.A2, s.A5, a0]; exact rfl))
  apply wpOps_build (cs := recC zeroR (.slice none 0 0 0))
  · rfl
  apply wpOps_mklit (cs := recC zeroR (.slice none 0 0 0))
  · exact fill_all rfl rfl rfl
  intro N1 e1
  have gN1 : Grown N N1 := by subst e1; exact Grown.rfl'.push
  have l1 : N1.low = N.low := by subst e1; rfl
  have ln1 := gN1.le
  obtain ⟨g', N2, p2, T2, _, t2, w2'⟩ := gb_append (G := G) (bytes := 120) (tag := 0) (nr := [recC zeroR (.slice none 0 0 0)]) (s.T.grown gN1) (by simp; rfl) (by omega) (by simp; omega)
  have T2r := T2
  simp only [List.length_singleton, List.flatten_cons, List.flatten_nil, List.append_nil] at p2
  refine wpOps_append (new := recC zeroR (.slice none 0 0 0)) (n := 1) (by simp only [stepE, evVal, opd, upd, setO, argsE, List.getD, binE, binInt, binStr, unE, wantedE, w0, w1, w2, Nat.reduceEqDiff, ↓reduceIte, Nat.reduceAdd, reduceCtorEq, eq_self, decide_true, decide_false, Bool.false_eq_true, Int.reduceBEq, Int.reduceBNe, Int.reduceLT, Int.reduceLE, Int.reduceGE, Int.reduceGT, Int.reduceEq]; exact src_lit e1 rfl) (by simp only [stepE, evVal, opd, upd, setO, argsE, List.getD, binE, binInt, binStr, unE, wantedE, w0, w1, w2, Nat.reduceEqDiff, ↓reduceIte, Nat.reduceAdd, reduceCtorEq, eq_self, decide_true, decide_false, Bool.false_eq_true, Int.reduceBEq, Int.reduceBNe, Int.reduceLT, Int.reduceLE, Int.reduceGE, Int.reduceGT, Int.reduceEq, p2]; exact rfl) ?_
  have gr2 : Grown m N2 := grown_but (s.gr.trans gN1) t2 (by omega)
  obtain ⟨N', p, hd⟩ := fin3 (x := { e with to := e.to ++ [zeroR] }) (off := 69) (v := .slice (some ⟨.mem bT g', 0⟩) (rows.length + 1) (rows.length + 1) 24) (by omega) gr2 oE oX ((s.RE.grown gN1).but t2 (by omega)) ((s.RX.grown gN1).but t2 (by omega)) (by rw [envC_len s.k1 s.k2 s.pok.1]; omega) (fun N' h => s.envE h)
    (fun N' h hb' => by
      rw [env_put_to s.k1 s.k2 s.pok.1]
      refine ⟨rv, _, bv, rfl, s.k1, s.k2, ⟨rv, rfl, rows_grown h s.hr, s.pok⟩, ⟨rows ++ [recC zeroR (.slice none 0 0 0)], ?_, by simp [hrl], fun i r hi => ?_⟩, bytes_grown h s.hb, by simp; omega, by show e.body.length ≤ 2000000; omega⟩
      · have := gb_rows (G := G) (cap := rows.length + 1) (e := 24) (T2r.but hb' (by omega))
        simpa using this
      · by_cases hl : i < e.to.length
        · simp only [List.getElem?_append_left hl] at hi
          obtain ⟨cs, h1, h2⟩ := s.hrx i r hi
          exact ⟨cs, by rw [List.getElem?_append_left (by omega)]; exact h1, h2.grown h⟩
        · have hl2 := (List.getElem?_eq_some_iff.1 hi).1
          simp at hl2
          have : i = e.to.length := by omega
          subst this
          simp at hi
          subst hi
          exact ⟨_, by rw [← hrl]; simp, zeroR_at⟩)
    (fun h => app_ne _ _ (congrArg (fun d => d.to) h))
  repeat (first
    | (refine wpOps_plain rfl ?_
       simp only [stepE, evVal, opd, upd, setO, argsE, List.getD, binE, binInt, binStr, unE, wantedE, w0, w1, w2, Nat.reduceEqDiff, ↓reduceIte, Nat.reduceAdd, reduceCtorEq, eq_self, decide_true, decide_false, Bool.false_eq_true, Int.reduceBEq, Int.reduceBNe, Int.reduceLT, Int.reduceLE, Int.reduceGE, Int.reduceGT, Int.reduceEq, s.A2, s.A5, p])
    | (apply wpOps_on
       · simp only [wantedE, upd, setO, w0, w1, ↓reduceIte, Nat.reduceEqDiff, reduceCtorEq, Bool.false_eq_true, Int.reduceBEq, eq_self, decide_true, decide_false])
    | (apply wpOps_off
       · simp only [wantedE, upd, setO, w0, w1, ↓reduceIte, Nat.reduceEqDiff, reduceCtorEq, Bool.false_eq_true, Int.reduceBEq, eq_self, decide_true, decide_false]
       try dsimp only)
    | (apply wpOps_if
       · rfl
       · simp only [stepE, evVal, opd, upd, setO, argsE, List.getD, binE, binInt, binStr, unE, wantedE, w0, w1, w2, Nat.reduceEqDiff, ↓reduceIte, Nat.reduceAdd, reduceCtorEq, eq_self, decide_true, decide_false, Bool.false_eq_true, Int.reduceBEq, Int.reduceBNe, Int.reduceLT, Int.reduceLE, Int.reduceGE, Int.reduceGT, Int.reduceEq]; exact rfl
       · intro hb; simp only [stepE, evVal, opd, upd, setO, argsE, List.getD, binE, binInt, binStr, unE, wantedE, w0, w1, w2, Nat.reduceEqDiff, ↓reduceIte, Nat.reduceAdd, reduceCtorEq, eq_self, decide_true, decide_false, Bool.false_eq_true, Int.reduceBEq, Int.reduceBNe, Int.reduceLT, Int.reduceLE, Int.reduceGE, Int.reduceGT, Int.reduceEq, hb, s.A2, s.A5, p]; exact rfl))
  refine wpOps_nil ?_
  exact ⟨rfl, hd _ (by simp [upd, s.A2]) (by simp [upd, s.A5])⟩

theorem case11 (s : Sit m e bE bX bT g rows rv tv bv A N) : wpC T G K11 (fun ex s => ex = .normal ∧ Done m e s) ⟨A, N, [], none⟩ := by
  have oE := s.oE
  have oX := s.oX
  have oT := s.oT
  have low := s.low
  have hb := s.bnd.2.2.2.2
  have ltT := s.T.lt
  have ltN := s.gr.le
  refine wpC_reg ?_
  apply wpOps_mklit (cs := [])
  · rfl
  intro N1 e1
  have gN1 : Grown N N1 := by subst e1; exact Grown.rfl'.push
  have l1 : N1.low = N.low := by subst e1; rfl
  have ln1 : N1.bl.length = N.bl.length + 1 := by subst e1; simp [Mem.push]
  have a0 := get_row (G := G) (s.RE.grown gN1) (env_body s.k1 s.k2 s.pok.1)
  repeat (first
    | (refine wpOps_plain rfl ?_
       simp only [stepE, evVal, opd, upd, setO, argsE, List.getD, binE, binInt, binStr, unE, wantedE, w0, w1, w2, Nat.reduceEqDiff, ↓reduceIte, Nat.reduceAdd, reduceCtorEq, eq_self, decide_true, decide_false, Bool.false_eq_true, Int.reduceBEq, Int.reduceBNe, Int.reduceLT, Int.reduceLE, Int.reduceGE, Int.reduceGT, Int.reduceEq, s.A2, s.A5, a0])
    | (apply wpOps_on
       · simp only [wantedE, upd, setO, w0, w1, ↓reduceIte, Nat.reduceEqDiff, reduceCtorEq, Bool.false_eq_true, Int.reduceBEq, eq_self, decide_true, decide_false])
    | (apply wpOps_off
       · simp only [wantedE, upd, setO, w0, w1, ↓reduceIte, Nat.reduceEqDiff, reduceCtorEq, Bool.false_eq_true, Int.reduceBEq, eq_self, decide_true, decide_false]
       try dsimp only)
    | (apply wpOps_if
       · rfl
       · simp only [stepE, evVal, opd, upd, setO, argsE, List.getD, binE, binInt, binStr, unE, wantedE, w0, w1, w2, Nat.reduceEqDiff, ↓reduceIte, Nat.reduceAdd, reduceCtorEq, eq_self, decide_true, decide_false, Bool.false_eq_true, Int.reduceBEq, Int.reduceBNe, Int.reduceLT, Int.reduceLE, Int.reduceGE, Int.reduceGT, Int.reduceEq]; exact rfl
       · intro hb; simp only [stepE, evVal, opd, upd, setO, argsE, List.getD, binE, binInt, binStr, unE, wantedE, w0, w1, w2, Nat.reduceEqDiff, ↓reduceIte, Nat.reduceAdd, reduceCtorEq, eq_self, decide_true, decide_false, Bool.false_eq_true, Int.reduceBEq, Int.reduceBNe, Int.reduceLT, Int.reduceLE, Int.reduceGE, Int.reduceGT, Int.reduceEq, hb, s.A2, s.A5, a0]; exact rfl))
  obtain ⟨g2, N2, p2, T2, h2, t2, w2'⟩ := gb_append (G := G) (bytes := 1) (tag := 6597069766657) (nr := byteRows e.body) (gb_lit (esz := 1) e1) byteRows_one (by omega) (by simp [byteRows_len]; omega)
  simp only [List.length_nil, List.nil_append, byteRows_len, byteRows_flat, Nat.zero_add] at p2 T2
  have gr1 := s.gr.trans gN1
  refine wpOps_append (new := bytesE e.body) (n := e.body.length) (by simp only [stepE, evVal, opd, upd, setO, argsE, List.getD, binE, binInt, binStr, unE, wantedE, w0, w1, w2, Nat.reduceEqDiff, ↓reduceIte, Nat.reduceAdd, reduceCtorEq, eq_self, decide_true, decide_false, Bool.false_eq_true, Int.reduceBEq, Int.reduceBNe, Int.reduceLT, Int.reduceLE, Int.reduceGE, Int.reduceGT, Int.reduceEq]; exact bytes_src (bytes_grown gr1 s.hb)) (by simp only [stepE, evVal, opd, upd, setO, argsE, List.getD, binE, binInt, binStr, unE, wantedE, w0, w1, w2, Nat.reduceEqDiff, ↓reduceIte, Nat.reduceAdd, reduceCtorEq, eq_self, decide_true, decide_false, Bool.false_eq_true, Int.reduceBEq, Int.reduceBNe, Int.reduceLT, Int.reduceLE, Int.reduceGE, Int.reduceGT, Int.reduceEq, p2]; exact rfl) ?_
  have gr2 : Grown m N2 := grown_but gr1 t2 (by omega)
  apply wpOps_mklit (cs := [.int .u8 0])
  · exact rfl
  intro N3 e3
  have gN3 : Grown N2 N3 := by subst e3; exact Grown.rfl'.push
  have l3 : N3.low = N2.low := by subst e3; rfl
  have ln3 := gN3.le
  have ln2 := t2.1
  obtain ⟨g4, N4, p4, T4, h4, t4, w4⟩ := gb_append (G := G) (bytes := 1) (tag := 6597069766657) (nr := [[.int .u8 0]]) (T2.grown gN3) (by simp) (by omega) (by simp [byteRows_len]; omega)
  simp only [List.length_singleton, List.flatten_cons, List.flatten_nil, List.append_nil, byteRows_len] at p4
  refine wpOps_append (new := [.int .u8 0]) (n := 1) (by simp only [stepE, evVal, opd, upd, setO, argsE, List.getD, binE, binInt, binStr, unE, wantedE, w0, w1, w2, Nat.reduceEqDiff, ↓reduceIte, Nat.reduceAdd, reduceCtorEq, eq_self, decide_true, decide_false, Bool.false_eq_true, Int.reduceBEq, Int.reduceBNe, Int.reduceLT, Int.reduceLE, Int.reduceGE, Int.reduceGT, Int.reduceEq]; exact src_lit e3 rfl) (by simp only [stepE, evVal, opd, upd, setO, argsE, List.getD, binE, binInt, binStr, unE, wantedE, w0, w1, w2, Nat.reduceEqDiff, ↓reduceIte, Nat.reduceAdd, reduceCtorEq, eq_self, decide_true, decide_false, Bool.false_eq_true, Int.reduceBEq, Int.reduceBNe, Int.reduceLT, Int.reduceLE, Int.reduceGE, Int.reduceGT, Int.reduceEq, p4]; exact rfl) ?_
  have gr4 : Grown m N4 := grown_but (gr2.trans gN3) t4 (by omega)
  obtain ⟨N', p, hd⟩ := fin3 (x := { e with body := e.body ++ [0] }) (off := 71) (v := .slice (some ⟨.mem N.bl.length g4, 0⟩) (e.body.length + 1) (e.body.length + 1) 1) (by omega) gr4 oE oX ((((s.RE.grown gN1).but t2 (by omega)).grown gN3).but t4 (by omega)) ((((s.RX.grown gN1).but t2 (by omega)).grown gN3).but t4 (by omega)) (by rw [envC_len s.k1 s.k2 s.pok.1]; omega) (fun N' h => s.envE h)
    (fun N' h hb' => by
      rw [env_put_body s.k1 s.k2 s.pok.1]
      refine ⟨rv, _, _, rfl, s.k1, s.k2, ⟨rv, rfl, rows_grown h s.hr, s.pok⟩, s.recs h (((((s.T.grown gN1).but t2 (by omega)).grown gN3).but t4 (by omega)).but hb' (by omega)), .inr ⟨_, _, _, by simp only [List.length_append, List.length_singleton]; rfl, ?_⟩, by show e.to.length ≤ 2000000; omega, by simp; omega⟩
      have hT := T4.but hb' (by omega)
      have hfl : (byteRows e.body ++ [[EV.int .u8 0]]).flatten = bytesE (e.body ++ [0]) := by
        simp [List.flatten_append, byteRows_flat, bytesE, byteE]
      have := gb_getN (G := G) hT (off := 0) (n := (e.body ++ [0]).length) (ds := bytesE (e.body ++ [0])) (by rw [hfl]; exact sub_all (by simp [bytesE]))
      exact this)
    (fun h => app_ne _ _ (congrArg (fun d => d.body) h))
  repeat (first
    | (refine wpOps_plain rfl ?_
       simp only [stepE, evVal, opd, upd, setO, argsE, List.getD, binE, binInt, binStr, unE, wantedE, w0, w1, w2, Nat.reduceEqDiff, ↓reduceIte, Nat.reduceAdd, reduceCtorEq, eq_self, decide_true, decide_false, Bool.false_eq_true, Int.reduceBEq, Int.reduceBNe, Int.reduceLT, Int.reduceLE, Int.reduceGE, Int.reduceGT, Int.reduceEq, s.A2, s.A5, p])
    | (apply wpOps_on
       · simp only [wantedE, upd, setO, w0, w1, ↓reduceIte, Nat.reduceEqDiff, reduceCtorEq, Bool.false_eq_true, Int.reduceBEq, eq_self, decide_true, decide_false])
    | (apply wpOps_off
       · simp only [wantedE, upd, setO, w0, w1, ↓reduceIte, Nat.reduceEqDiff, reduceCtorEq, Bool.false_eq_true, Int.reduceBEq, eq_self, decide_true, decide_false]
       try dsimp only)
    | (apply wpOps_if
       · rfl
       · simp only [stepE, evVal, opd, upd, setO, argsE, List.getD, binE, binInt, binStr, unE, wantedE, w0, w1, w2, Nat.reduceEqDiff, ↓reduceIte, Nat.reduceAdd, reduceCtorEq, eq_self, decide_true, decide_false, Bool.false_eq_true, Int.reduceBEq, Int.reduceBNe, Int.reduceLT, Int.reduceLE, Int.reduceGE, Int.reduceGT, Int.reduceEq]; exact rfl
       · intro hb; simp only [stepE, evVal, opd, upd, setO, argsE, List.getD, binE, binInt, binStr, unE, wantedE, w0, w1, w2, Nat.reduceEqDiff, ↓reduceIte, Nat.reduceAdd, reduceCtorEq, eq_self, decide_true, decide_false, Bool.false_eq_true, Int.reduceBEq, Int.reduceBNe, Int.reduceLT, Int.reduceLE, Int.reduceGE, Int.reduceGT, Int.reduceEq, hb, s.A2, s.A5, p]; exact rfl))
  refine wpOps_nil ?_
  exact ⟨rfl, hd _ (by simp [upd, s.A2]) (by simp [upd, s.A5])⟩
end
end Go.Proofs.YtjomofcdanpdgadGreatDoor.recordUnlike
