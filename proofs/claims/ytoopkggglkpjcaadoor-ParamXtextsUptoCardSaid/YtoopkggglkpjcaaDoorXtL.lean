/- A part of the proof of the statement that this claim hands in: what single functions come to. There are no conditions. -/
import Derived.Test.YtoopkggglkpjcaaDoorXtK
set_option linter.unusedSectionVars false
set_option linter.unusedVariables false
set_option linter.unusedSimpArgs false
namespace Go.Proofs.YtoopkggglkpjcaaDoor.paramXtexts
open Go.Ev hiding Comes

/-- A slice of bytes that grows by append from nil on. -/
def Out (m : Mem) (v : EV) (k : Option Nat) (s : List UInt8) (n : Nat) : Prop :=
  match k with
  | none => v = .slice none 0 0 0 ∧ s = []
  | some k => ∃ g, g < n ∧ v = .slice (some ⟨.mem k (tagB + g), 0⟩) s.length s.length 1 ∧ m.bl[k]? = some (.cells (bytesE s) (tagB + g) true)

theorem Out.keep {m m' : Mem} {v : EV} {k : Option Nat} {s : List UInt8} {n : Nat} (h : Out m v k s n) (hk : ∀ j, k = some j → m'.bl[j]? = m.bl[j]?) : Out m' v k s n := by
  cases k with
  | none => exact h
  | some k =>
    obtain ⟨g, h1, h2, h3⟩ := h
    exact ⟨g, h1, h2, by rw [hk k rfl]; exact h3⟩
theorem Out.lt {m : Mem} {v : EV} {j : Nat} {s : List UInt8} {n : Nat} (h : Out m v (some j) s n) : j < m.bl.length := by
  obtain ⟨g, _, _, h3⟩ := h
  exact (List.getElem?_eq_some_iff.1 h3).1
theorem Out.more {m : Mem} {v : EV} {k : Option Nat} {s : List UInt8} {n n' : Nat} (h : Out m v k s n) (hn : n ≤ n') : Out m v k s n' := by
  cases k with
  | none => exact h
  | some k =>
    obtain ⟨g, h1, h2, h3⟩ := h
    exact ⟨g, by omega, h2, h3⟩
theorem Out.slice {m : Mem} {v : EV} {k : Option Nat} {s : List UInt8} {n : Nat} (h : Out m v k s n) : ∃ a cap e, v = .slice a s.length cap e := by
  cases k with
  | none =>
    obtain ⟨rfl, rfl⟩ := h
    exact ⟨none, 0, 0, rfl⟩
  | some k =>
    obtain ⟨g, _, rfl, _⟩ := h
    exact ⟨_, _, _, rfl⟩

theorem out_append (m : Mem) (v : EV) (k : Option Nat) (s t : List UInt8) (n : Nat) (h : Out m v k s n) (ht : t ≠ []) (hn : n < 1099511627000) (hs : s.length + t.length ≤ 140737488355328) :
    ∃ v' m' k', appendE G m 1 1 6597069766657 v (bytesE t) t.length = some (v', m') ∧ Out m' v' (some k') (s ++ t) (n + 1) ∧ (k = some k' ∨ k = none ∧ k' = m.bl.length) ∧ (∀ j, j < m.bl.length → some j ≠ k → m'.bl[j]? = m.bl[j]?) ∧ m.bl.length ≤ m'.bl.length ∧ min m.low k' ≤ m'.low := by
  have htl : t.length ≠ 0 := fun e => ht (List.length_eq_zero_iff.1 e)
  cases k with
  | none =>
    obtain ⟨rfl, rfl⟩ := h
    refine ⟨.slice (some ⟨.mem m.bl.length tagB, 0⟩) t.length t.length 1, m.push (.cells (bytesE t) tagB true), m.bl.length, ?_, ⟨0, by omega, by simp, ?_⟩, .inr ⟨rfl, rfl⟩, ?_, ?_, ?_⟩
    · simp only [appendE, if_neg htl]
      rw [if_pos (by simp at hs; omega)]
      rfl
    · simp [Mem.push]
    · intro j hj _
      simp only [Mem.push, List.getElem?_append_left hj]
    · simp [Mem.push]
    · simp only [Mem.push]; omega
  | some k =>
    obtain ⟨g, hg, rfl, hk⟩ := h
    have hklt : k < m.bl.length := (List.getElem?_eq_some_iff.1 hk).1
    obtain ⟨t1, t2, t3⟩ := tag_next (n := g) (by omega)
    refine ⟨.slice (some ⟨.mem k (tagB + g + 1), 0⟩) (s.length + t.length) (s.length + t.length) 1, ⟨m.bl.set k (.cells (bytesE s ++ bytesE t) (tagB + g + 1) true), min m.low k⟩, k, ?_, ⟨g + 1, by omega, by simp [Nat.add_assoc], ?_⟩, .inl rfl, ?_, ?_, ?_⟩
    · simp only [appendE, ne_eq, not_true_eq_false, if_false]
      rw [if_neg (by omega), if_pos (by omega)]
      simp only [hk, Nat.mul_one, Nat.zero_add, bytesE_len]
      rw [if_pos ⟨trivial, Nat.le_refl _, t1, .inr ⟨t2, t3, trivial⟩⟩]
      simp only [List.drop_zero, Option.some.injEq, Prod.mk.injEq]
      refine ⟨trivial, ?_⟩
      rw [← bytesE_len (s := s), List.take_length]
    · simp only [bytesE_append, List.getElem?_set, if_true, hklt]
      rfl
    · intro j hj hjk
      simp only
      rw [List.getElem?_set_ne (show k ≠ j from fun e => hjk (by rw [e]))]
    · simp
    · simp only; omega

theorem wpOps_tostr3 {m : Mem} {v : EV} {k : Option Nat} {n : Nat} {s : List UInt8} (ho : Out m v k s n) {x : Opd} {dst : Option Nat} {os : List EOper} {Q : Ex → St → Prop} {A : Fr} {d : List (FuncId × List EV)} {p : Option (Option EV)}
    (hx : opd A x = v) (h : Go.Ev.wpOps T G os Q ⟨setO A dst (.str s), m, d, p⟩) : Go.Ev.wpOps T G (⟨dst, .toStr x, none⟩ :: os) Q ⟨A, m, d, p⟩ := by
  cases k with
  | none =>
    obtain ⟨rfl, rfl⟩ := ho
    refine wpOps_step rfl ?_
    simp only [stepE, evVal, hx]
    cases dst <;> exact h
  | some k =>
    obtain ⟨g, _, rfl, hk⟩ := ho
    have := getN_cells (G := G) hk
    rw [bytesE_len] at this
    exact wpOps_tostr2 hx this h

theorem c40 (m : Mem) (a : Ad) (cap e : Nat) (b : UInt8) (hg0 : m.getN G a 1 = some [byteE b]) (ho : oldAd m.bl.length a = true) :
    Go.Ev.Comes T G 40 [.slice (some a) 1 cap e] m none ⟨.val (.str (hexB b)), m, none⟩ := by
  refine comes_ofM T40 rfl fun M hg hlen hlow => ?_
  refine wpC_seq (wpC_reg ?_)
  repeat (first
    | (refine wpOps_plain rfl ?_
       simp only [stepE, evVal, opd, upd, setO, argsE, List.getD, binE, binInt, binStr, unE, wantedE, w0, w1, w2, Nat.reduceEqDiff, ↓reduceIte, Nat.reduceAdd, reduceCtorEq, eq_self, decide_true, decide_false, Bool.false_eq_true, Int.reduceBEq, Int.reduceBNe, Int.reduceLT, Int.reduceLE, Int.reduceGE, Int.reduceGT, Int.reduceEq])
    | (apply wpOps_on
       · simp only [wantedE, upd, w0, w1, ↓reduceIte, Nat.reduceEqDiff, reduceCtorEq, Bool.false_eq_true, Int.reduceBEq, eq_self, decide_true, decide_false])
    | (apply wpOps_off
       · simp only [wantedE, upd, w0, w1, ↓reduceIte, Nat.reduceEqDiff, reduceCtorEq, Bool.false_eq_true, Int.reduceBEq, eq_self, decide_true, decide_false]
       try dsimp only)
    | (apply wpOps_if
       · rfl
       · simp only [stepE, evVal, opd, upd, setO, argsE, List.getD, binE, binInt, binStr, unE, wantedE, w0, w1, w2, Nat.reduceEqDiff, ↓reduceIte, Nat.reduceAdd, reduceCtorEq, eq_self, decide_true, decide_false, Bool.false_eq_true, Int.reduceBEq, Int.reduceBNe, Int.reduceLT, Int.reduceLE, Int.reduceGE, Int.reduceGT, Int.reduceEq]; exact rfl
       · intro hb; simp only [stepE, evVal, opd, upd, setO, argsE, List.getD, binE, binInt, binStr, unE, wantedE, w0, w1, w2, Nat.reduceEqDiff, ↓reduceIte, Nat.reduceAdd, reduceCtorEq, eq_self, decide_true, decide_false, Bool.false_eq_true, Int.reduceBEq, Int.reduceBNe, Int.reduceLT, Int.reduceLE, Int.reduceGE, Int.reduceGT, Int.reduceEq, hb]; exact rfl))
  refine wpOps_nil (wpC_seq (wpC_reg ?_))
  repeat (first
    | (refine wpOps_plain rfl ?_
       simp only [stepE, evVal, opd, upd, setO, argsE, List.getD, binE, binInt, binStr, unE, wantedE, w0, w1, w2, Nat.reduceEqDiff, ↓reduceIte, Nat.reduceAdd, reduceCtorEq, eq_self, decide_true, decide_false, Bool.false_eq_true, Int.reduceBEq, Int.reduceBNe, Int.reduceLT, Int.reduceLE, Int.reduceGE, Int.reduceGT, Int.reduceEq])
    | (apply wpOps_on
       · simp only [wantedE, upd, w0, w1, ↓reduceIte, Nat.reduceEqDiff, reduceCtorEq, Bool.false_eq_true, Int.reduceBEq, eq_self, decide_true, decide_false])
    | (apply wpOps_off
       · simp only [wantedE, upd, w0, w1, ↓reduceIte, Nat.reduceEqDiff, reduceCtorEq, Bool.false_eq_true, Int.reduceBEq, eq_self, decide_true, decide_false]
       try dsimp only)
    | (apply wpOps_if
       · rfl
       · simp only [stepE, evVal, opd, upd, setO, argsE, List.getD, binE, binInt, binStr, unE, wantedE, w0, w1, w2, Nat.reduceEqDiff, ↓reduceIte, Nat.reduceAdd, reduceCtorEq, eq_self, decide_true, decide_false, Bool.false_eq_true, Int.reduceBEq, Int.reduceBNe, Int.reduceLT, Int.reduceLE, Int.reduceGE, Int.reduceGT, Int.reduceEq]; exact rfl
       · intro hb; simp only [stepE, evVal, opd, upd, setO, argsE, List.getD, binE, binInt, binStr, unE, wantedE, w0, w1, w2, Nat.reduceEqDiff, ↓reduceIte, Nat.reduceAdd, reduceCtorEq, eq_self, decide_true, decide_false, Bool.false_eq_true, Int.reduceBEq, Int.reduceBNe, Int.reduceLT, Int.reduceLE, Int.reduceGE, Int.reduceGT, Int.reduceEq, hb]; exact rfl))
  refine wpOps_nil (wpC_seq (wpC_seq (wpC_reg ?_)))
  repeat (first
    | (refine wpOps_plain rfl ?_
       simp only [stepE, evVal, opd, upd, setO, argsE, List.getD, binE, binInt, binStr, unE, wantedE, w0, w1, w2, Nat.reduceEqDiff, ↓reduceIte, Nat.reduceAdd, reduceCtorEq, eq_self, decide_true, decide_false, Bool.false_eq_true, Int.reduceBEq, Int.reduceBNe, Int.reduceLT, Int.reduceLE, Int.reduceGE, Int.reduceGT, Int.reduceEq])
    | (apply wpOps_on
       · simp only [wantedE, upd, w0, w1, ↓reduceIte, Nat.reduceEqDiff, reduceCtorEq, Bool.false_eq_true, Int.reduceBEq, eq_self, decide_true, decide_false])
    | (apply wpOps_off
       · simp only [wantedE, upd, w0, w1, ↓reduceIte, Nat.reduceEqDiff, reduceCtorEq, Bool.false_eq_true, Int.reduceBEq, eq_self, decide_true, decide_false]
       try dsimp only)
    | (apply wpOps_if
       · rfl
       · simp only [stepE, evVal, opd, upd, setO, argsE, List.getD, binE, binInt, binStr, unE, wantedE, w0, w1, w2, Nat.reduceEqDiff, ↓reduceIte, Nat.reduceAdd, reduceCtorEq, eq_self, decide_true, decide_false, Bool.false_eq_true, Int.reduceBEq, Int.reduceBNe, Int.reduceLT, Int.reduceLE, Int.reduceGE, Int.reduceGT, Int.reduceEq]; exact rfl
       · intro hb; simp only [stepE, evVal, opd, upd, setO, argsE, List.getD, binE, binInt, binStr, unE, wantedE, w0, w1, w2, Nat.reduceEqDiff, ↓reduceIte, Nat.reduceAdd, reduceCtorEq, eq_self, decide_true, decide_false, Bool.false_eq_true, Int.reduceBEq, Int.reduceBNe, Int.reduceLT, Int.reduceLE, Int.reduceGE, Int.reduceGT, Int.reduceEq, hb]; exact rfl))
  refine wpOps_nil (wpC_block (wpC_loop (fun n st => ∃ i A N k, st = ⟨A, N, [], none⟩ ∧ Grown m N ∧ m.bl.length ≤ N.low ∧ n = 1 - i ∧ i ≤ 1 ∧ A 0 = .slice (some a) 1 cap e ∧ A 4 = .int .i64 i ∧ Out N (A 3) k (if i = 0 then [] else hexB b) 10 ∧ (i = 0 → k = none)) (fun n st hI => ?_) 1 _ ?_))
  · obtain ⟨i, A, N, k, rfl, gN, lN, rfl, hi, A0, A4, ON, hk⟩ := hI
    refine wpC_seq (wpC_seq (wpC_reg ?_))
    repeat (first
      | (refine wpOps_plain rfl ?_
         simp only [stepE, evVal, opd, upd, setO, argsE, List.getD, binE, binInt, binStr, unE, wantedE, w0, w1, w2, Nat.reduceEqDiff, ↓reduceIte, Nat.reduceAdd, reduceCtorEq, eq_self, decide_true, decide_false, Bool.false_eq_true, Int.reduceBEq, Int.reduceBNe, Int.reduceLT, Int.reduceLE, Int.reduceGE, Int.reduceGT, Int.reduceEq, A0, A4])
      | (apply wpOps_on
         · simp only [wantedE, upd, w0, w1, ↓reduceIte, Nat.reduceEqDiff, reduceCtorEq, Bool.false_eq_true, Int.reduceBEq, eq_self, decide_true, decide_false])
      | (apply wpOps_off
         · simp only [wantedE, upd, w0, w1, ↓reduceIte, Nat.reduceEqDiff, reduceCtorEq, Bool.false_eq_true, Int.reduceBEq, eq_self, decide_true, decide_false]
         try dsimp only)
      | (apply wpOps_if
         · rfl
         · simp only [stepE, evVal, opd, upd, setO, argsE, List.getD, binE, binInt, binStr, unE, wantedE, w0, w1, w2, Nat.reduceEqDiff, ↓reduceIte, Nat.reduceAdd, reduceCtorEq, eq_self, decide_true, decide_false, Bool.false_eq_true, Int.reduceBEq, Int.reduceBNe, Int.reduceLT, Int.reduceLE, Int.reduceGE, Int.reduceGT, Int.reduceEq]; exact rfl
         · intro hb; simp only [stepE, evVal, opd, upd, setO, argsE, List.getD, binE, binInt, binStr, unE, wantedE, w0, w1, w2, Nat.reduceEqDiff, ↓reduceIte, Nat.reduceAdd, reduceCtorEq, eq_self, decide_true, decide_false, Bool.false_eq_true, Int.reduceBEq, Int.reduceBNe, Int.reduceLT, Int.reduceLE, Int.reduceGE, Int.reduceGT, Int.reduceEq, hb, A0, A4]; exact rfl))
    refine wpOps_nil (wpC_cond (t := decide ((i : Int) < ((1 : Nat) : Int))) (by simp only [stepE, evVal, opd, upd, setO, argsE, List.getD, binE, binInt, binStr, unE, wantedE, w0, w1, w2, Nat.reduceEqDiff, ↓reduceIte, Nat.reduceAdd, reduceCtorEq, eq_self, decide_true, decide_false, Bool.false_eq_true, Int.reduceBEq, Int.reduceBNe, Int.reduceLT, Int.reduceLE, Int.reduceGE, Int.reduceGT, Int.reduceEq]) (fun hlt => ?_) (fun hge => ?_))
    · have hi0 : i = 0 := by simp at hlt; omega
      subst hi0
      have hk0 := hk rfl
      subst hk0
      obtain ⟨A3, _⟩ := ON
      refine wpC_skip ?_
      simp only [thenE]
      have j0 : (0 : Int) ≤ ((0 : Nat) : Int) := by decide
      have j1 : ((0 : Nat) : Int) < ((1 : Nat) : Int) := by decide
      have gl' : N.get G a = some (byteE b) := get_of_getN (getN_grown gN hg0)
      have oN := oldAd_le ho gN.le
      refine wpC_seq (wpC_block (wpC_regD2 ?_))
      simp only [List.take_succ_cons, List.take_zero, List.drop_succ_cons, List.drop_zero]
      have k0 : (0 : Int) ≤ ((b.toNat / 16 : Nat) : Int) := by omega
      have k1 : (0 : Int) ≤ ((b.toNat % 16 : Nat) : Int) := by omega
      have hb := b.toNat_lt
      have x0 := hexU_get (k := b.toNat / 16) (by omega)
      have x1 := hexU_get (k := b.toNat % 16) (by omega)
      unfold hexU at x0 x1
      repeat (first
        | (refine wpD_pfloat rfl (by first | rfl | (simp only [floatOk, oldAd_plus, oldAd_mem, decide_eq_true_eq, opd, upd, ↓reduceIte, Nat.reduceEqDiff, A3, A0, A4, j0, j1, Nat.zero_mul, Ad.plus_zero, gl', oN, byteE, quo16, rem16, k0, k1, x0, x1]; done)) ?_
           simp only [stepE, evVal, opd, upd, setO, argsE, List.getD, binE, binInt, binStr, unE, wantedE, w0, w1, w2, Nat.reduceEqDiff, ↓reduceIte, Nat.reduceAdd, reduceCtorEq, eq_self, decide_true, decide_false, Bool.false_eq_true, Int.reduceBEq, Int.reduceBNe, Int.reduceLT, Int.reduceLE, Int.reduceGE, Int.reduceGT, Int.reduceEq, A3, A0, A4, j0, j1, Nat.zero_mul, Ad.plus_zero, gl', oN, byteE, quo16, rem16, k0, k1, x0, x1])
        | (refine wpD_plain rfl ?_
           simp only [stepE, evVal, opd, upd, setO, argsE, List.getD, binE, binInt, binStr, unE, wantedE, w0, w1, w2, Nat.reduceEqDiff, ↓reduceIte, Nat.reduceAdd, reduceCtorEq, eq_self, decide_true, decide_false, Bool.false_eq_true, Int.reduceBEq, Int.reduceBNe, Int.reduceLT, Int.reduceLE, Int.reduceGE, Int.reduceGT, Int.reduceEq, A3, A0, A4, j0, j1, Nat.zero_mul, Ad.plus_zero, gl', oN, byteE, quo16, rem16, k0, k1, x0, x1])
        | (apply wpD_on
           · simp only [wantedE, upd, w0, w1, ↓reduceIte, Nat.reduceEqDiff, reduceCtorEq, Bool.false_eq_true, Int.reduceBEq, eq_self, decide_true, decide_false])
        | (apply wpD_off
           · simp only [wantedE, upd, w0, w1, ↓reduceIte, Nat.reduceEqDiff, reduceCtorEq, Bool.false_eq_true, Int.reduceBEq, eq_self, decide_true, decide_false]
           try dsimp only)
        | (apply wpD_iffloat
           · simp only [stepE, evVal, opd, upd, setO, argsE, List.getD, binE, binInt, binStr, unE, wantedE, w0, w1, w2, Nat.reduceEqDiff, ↓reduceIte, Nat.reduceAdd, reduceCtorEq, eq_self, decide_true, decide_false, Bool.false_eq_true, Int.reduceBEq, Int.reduceBNe, Int.reduceLT, Int.reduceLE, Int.reduceGE, Int.reduceGT, Int.reduceEq]; exact rfl
           · intro hb; first | rfl | (simp only [floatOk, oldAd_plus, oldAd_mem, decide_eq_true_eq, opd, upd, ↓reduceIte, Nat.reduceEqDiff, hb, A3, A0, A4, j0, j1, Nat.zero_mul, Ad.plus_zero, gl', oN, byteE, quo16, rem16, k0, k1, x0, x1]; done)
           · intro hb; simp only [stepE, evVal, opd, upd, setO, argsE, List.getD, binE, binInt, binStr, unE, wantedE, w0, w1, w2, Nat.reduceEqDiff, ↓reduceIte, Nat.reduceAdd, reduceCtorEq, eq_self, decide_true, decide_false, Bool.false_eq_true, Int.reduceBEq, Int.reduceBNe, Int.reduceLT, Int.reduceLE, Int.reduceGE, Int.reduceGT, Int.reduceEq, hb, A3, A0, A4, j0, j1, Nat.zero_mul, Ad.plus_zero, gl', oN, byteE, quo16, rem16, k0, k1, x0, x1]; exact rfl)
        | (apply wpD_ifstep
           · rfl
           · simp only [stepE, evVal, opd, upd, setO, argsE, List.getD, binE, binInt, binStr, unE, wantedE, w0, w1, w2, Nat.reduceEqDiff, ↓reduceIte, Nat.reduceAdd, reduceCtorEq, eq_self, decide_true, decide_false, Bool.false_eq_true, Int.reduceBEq, Int.reduceBNe, Int.reduceLT, Int.reduceLE, Int.reduceGE, Int.reduceGT, Int.reduceEq]; exact rfl
           · intro hb; simp only [stepE, evVal, opd, upd, setO, argsE, List.getD, binE, binInt, binStr, unE, wantedE, w0, w1, w2, Nat.reduceEqDiff, ↓reduceIte, Nat.reduceAdd, reduceCtorEq, eq_self, decide_true, decide_false, Bool.false_eq_true, Int.reduceBEq, Int.reduceBNe, Int.reduceLT, Int.reduceLE, Int.reduceGE, Int.reduceGT, Int.reduceEq, hb, A3, A0, A4, j0, j1, Nat.zero_mul, Ad.plus_zero, gl', oN, byteE, quo16, rem16, k0, k1, x0, x1]; exact rfl))
      apply wpD_mklit (cs := [byteE (dig (b.toNat / 16)), byteE (dig (b.toNat % 16))])
      · rfl
      intro N1 e2
      have gN1 : Grown N N1 := by subst e2; exact ⟨[_], rfl⟩
      have l1 : N1.low = N.bl.length := by subst e2; rfl
      have gl1 := gN1.le
      have hge := gN.le
      refine wpD_nil ⟨show N.bl.length ≤ N1.low by omega, ?_⟩
      obtain ⟨v', N2, k', p2, O2, hk', hs2, hl2, hw2⟩ := out_append N1 (.slice none 0 0 0) none [] (hexB b) 0 ⟨rfl, rfl⟩ (by simp [hexB]) (by decide) (by simp [hexB])
      refine wpD_append (new := bytesE (hexB b)) (n := 2) (by simp only [stepE, evVal, opd, upd, setO, argsE, List.getD, binE, binInt, binStr, unE, wantedE, w0, w1, w2, Nat.reduceEqDiff, ↓reduceIte, Nat.reduceAdd, reduceCtorEq, eq_self, decide_true, decide_false, Bool.false_eq_true, Int.reduceBEq, Int.reduceBNe, Int.reduceLT, Int.reduceLE, Int.reduceGE, Int.reduceGT, Int.reduceEq]; exact src_lit (N := ⟨N.bl, N.bl.length⟩) e2 rfl) (by simp only [stepE, evVal, opd, upd, setO, argsE, List.getD, binE, binInt, binStr, unE, wantedE, w0, w1, w2, Nat.reduceEqDiff, ↓reduceIte, Nat.reduceAdd, reduceCtorEq, eq_self, decide_true, decide_false, Bool.false_eq_true, Int.reduceBEq, Int.reduceBNe, Int.reduceLT, Int.reduceLE, Int.reduceGE, Int.reduceGT, Int.reduceEq]; exact p2) ?_
      repeat (first
        | (refine wpD_pfloat rfl (by first | rfl | (simp only [floatOk, oldAd_plus, oldAd_mem, decide_eq_true_eq, opd, upd, ↓reduceIte, Nat.reduceEqDiff]; done)) ?_
           simp only [stepE, evVal, opd, upd, setO, argsE, List.getD, binE, binInt, binStr, unE, wantedE, w0, w1, w2, Nat.reduceEqDiff, ↓reduceIte, Nat.reduceAdd, reduceCtorEq, eq_self, decide_true, decide_false, Bool.false_eq_true, Int.reduceBEq, Int.reduceBNe, Int.reduceLT, Int.reduceLE, Int.reduceGE, Int.reduceGT, Int.reduceEq])
        | (refine wpD_plain rfl ?_
           simp only [stepE, evVal, opd, upd, setO, argsE, List.getD, binE, binInt, binStr, unE, wantedE, w0, w1, w2, Nat.reduceEqDiff, ↓reduceIte, Nat.reduceAdd, reduceCtorEq, eq_self, decide_true, decide_false, Bool.false_eq_true, Int.reduceBEq, Int.reduceBNe, Int.reduceLT, Int.reduceLE, Int.reduceGE, Int.reduceGT, Int.reduceEq])
        | (apply wpD_on
           · simp only [wantedE, upd, w0, w1, ↓reduceIte, Nat.reduceEqDiff, reduceCtorEq, Bool.false_eq_true, Int.reduceBEq, eq_self, decide_true, decide_false])
        | (apply wpD_off
           · simp only [wantedE, upd, w0, w1, ↓reduceIte, Nat.reduceEqDiff, reduceCtorEq, Bool.false_eq_true, Int.reduceBEq, eq_self, decide_true, decide_false]
           try dsimp only)
        | (apply wpD_iffloat
           · simp only [stepE, evVal, opd, upd, setO, argsE, List.getD, binE, binInt, binStr, unE, wantedE, w0, w1, w2, Nat.reduceEqDiff, ↓reduceIte, Nat.reduceAdd, reduceCtorEq, eq_self, decide_true, decide_false, Bool.false_eq_true, Int.reduceBEq, Int.reduceBNe, Int.reduceLT, Int.reduceLE, Int.reduceGE, Int.reduceGT, Int.reduceEq]; exact rfl
           · intro hb; first | rfl | (simp only [floatOk, oldAd_plus, oldAd_mem, decide_eq_true_eq, opd, upd, ↓reduceIte, Nat.reduceEqDiff, hb]; done)
           · intro hb; simp only [stepE, evVal, opd, upd, setO, argsE, List.getD, binE, binInt, binStr, unE, wantedE, w0, w1, w2, Nat.reduceEqDiff, ↓reduceIte, Nat.reduceAdd, reduceCtorEq, eq_self, decide_true, decide_false, Bool.false_eq_true, Int.reduceBEq, Int.reduceBNe, Int.reduceLT, Int.reduceLE, Int.reduceGE, Int.reduceGT, Int.reduceEq, hb]; exact rfl)
        | (apply wpD_ifstep
           · rfl
           · simp only [stepE, evVal, opd, upd, setO, argsE, List.getD, binE, binInt, binStr, unE, wantedE, w0, w1, w2, Nat.reduceEqDiff, ↓reduceIte, Nat.reduceAdd, reduceCtorEq, eq_self, decide_true, decide_false, Bool.false_eq_true, Int.reduceBEq, Int.reduceBNe, Int.reduceLT, Int.reduceLE, Int.reduceGE, Int.reduceGT, Int.reduceEq]; exact rfl
           · intro hb; simp only [stepE, evVal, opd, upd, setO, argsE, List.getD, binE, binInt, binStr, unE, wantedE, w0, w1, w2, Nat.reduceEqDiff, ↓reduceIte, Nat.reduceAdd, reduceCtorEq, eq_self, decide_true, decide_false, Bool.false_eq_true, Int.reduceBEq, Int.reduceBNe, Int.reduceLT, Int.reduceLE, Int.reduceGE, Int.reduceGT, Int.reduceEq, hb]; exact rfl))
      refine wpD_nil ?_
      simp only [thenE, againE, blockE]
      refine wpC_reg ?_
      repeat (first
        | (refine wpOps_plain rfl ?_
           simp only [stepE, evVal, opd, upd, setO, argsE, List.getD, binE, binInt, binStr, unE, wantedE, w0, w1, w2, Nat.reduceEqDiff, ↓reduceIte, Nat.reduceAdd, reduceCtorEq, eq_self, decide_true, decide_false, Bool.false_eq_true, Int.reduceBEq, Int.reduceBNe, Int.reduceLT, Int.reduceLE, Int.reduceGE, Int.reduceGT, Int.reduceEq, A4])
        | (apply wpOps_on
           · simp only [wantedE, upd, w0, w1, ↓reduceIte, Nat.reduceEqDiff, reduceCtorEq, Bool.false_eq_true, Int.reduceBEq, eq_self, decide_true, decide_false])
        | (apply wpOps_off
           · simp only [wantedE, upd, w0, w1, ↓reduceIte, Nat.reduceEqDiff, reduceCtorEq, Bool.false_eq_true, Int.reduceBEq, eq_self, decide_true, decide_false]
           try dsimp only)
        | (apply wpOps_if
           · rfl
           · simp only [stepE, evVal, opd, upd, setO, argsE, List.getD, binE, binInt, binStr, unE, wantedE, w0, w1, w2, Nat.reduceEqDiff, ↓reduceIte, Nat.reduceAdd, reduceCtorEq, eq_self, decide_true, decide_false, Bool.false_eq_true, Int.reduceBEq, Int.reduceBNe, Int.reduceLT, Int.reduceLE, Int.reduceGE, Int.reduceGT, Int.reduceEq]; exact rfl
           · intro hb; simp only [stepE, evVal, opd, upd, setO, argsE, List.getD, binE, binInt, binStr, unE, wantedE, w0, w1, w2, Nat.reduceEqDiff, ↓reduceIte, Nat.reduceAdd, reduceCtorEq, eq_self, decide_true, decide_false, Bool.false_eq_true, Int.reduceBEq, Int.reduceBNe, Int.reduceLT, Int.reduceLE, Int.reduceGE, Int.reduceGT, Int.reduceEq, hb, A4]; exact rfl))
      refine wpOps_nil ?_
      have hw : IntKind.i64.wrap (((0 : Nat) : Int) + 1) = ((1 : Nat) : Int) := rfl
      have hkk : k' = N1.bl.length := by
        rcases hk' with h | ⟨_, h⟩
        · cases h
        · exact h
      refine ⟨0, by omega, 1, _, ⟨N2.bl, lowD N N2⟩, some k', rfl, ⟨N2.bl.drop m.bl.length, ?_⟩, ?_, rfl, by omega, by simp [upd, A0], by simp only [upd, if_true, hw], ?_, by omega⟩
      · simp only
        obtain ⟨l, hl⟩ := gN.trans gN1
        have : m.bl = N2.bl.take m.bl.length := by
          apply List.ext_getElem?
          intro q
          rw [List.getElem?_take]
          split
          · rename_i hq
            rw [hs2 q (by omega) (by simp), hl, List.getElem?_append_left hq]
          · rename_i hq
            rw [List.getElem?_eq_none (by omega)]
        calc N2.bl = N2.bl.take m.bl.length ++ N2.bl.drop m.bl.length := (List.take_append_drop ..).symm
          _ = m.bl ++ N2.bl.drop m.bl.length := by rw [← this]
      · simp only [lowD]
        split
        · exact lN
        · omega
      · have : Out N2 v' (some k') (hexB b) 1 := O2
        simp only [upd, if_true, Nat.reduceEqDiff, if_false]
        exact (this.more (by omega))
    · have hie : i = 1 := by simp at hge; omega
      subst hie
      refine wpC_exit ?_
      simp only [thenE, againE, blockE, ↓reduceIte]
      refine wpC_seq (wpC_reg ?_)
      repeat (first
        | (refine wpOps_plain rfl ?_
           simp only [stepE, evVal, opd, upd, setO, argsE, List.getD, binE, binInt, binStr, unE, wantedE, w0, w1, w2, Nat.reduceEqDiff, ↓reduceIte, Nat.reduceAdd, reduceCtorEq, eq_self, decide_true, decide_false, Bool.false_eq_true, Int.reduceBEq, Int.reduceBNe, Int.reduceLT, Int.reduceLE, Int.reduceGE, Int.reduceGT, Int.reduceEq])
        | (apply wpOps_on
           · simp only [wantedE, upd, w0, w1, ↓reduceIte, Nat.reduceEqDiff, reduceCtorEq, Bool.false_eq_true, Int.reduceBEq, eq_self, decide_true, decide_false])
        | (apply wpOps_off
           · simp only [wantedE, upd, w0, w1, ↓reduceIte, Nat.reduceEqDiff, reduceCtorEq, Bool.false_eq_true, Int.reduceBEq, eq_self, decide_true, decide_false]
           try dsimp only)
        | (apply wpOps_if
           · rfl
           · simp only [stepE, evVal, opd, upd, setO, argsE, List.getD, binE, binInt, binStr, unE, wantedE, w0, w1, w2, Nat.reduceEqDiff, ↓reduceIte, Nat.reduceAdd, reduceCtorEq, eq_self, decide_true, decide_false, Bool.false_eq_true, Int.reduceBEq, Int.reduceBNe, Int.reduceLT, Int.reduceLE, Int.reduceGE, Int.reduceGT, Int.reduceEq]; exact rfl
           · intro hb; simp only [stepE, evVal, opd, upd, setO, argsE, List.getD, binE, binInt, binStr, unE, wantedE, w0, w1, w2, Nat.reduceEqDiff, ↓reduceIte, Nat.reduceAdd, reduceCtorEq, eq_self, decide_true, decide_false, Bool.false_eq_true, Int.reduceBEq, Int.reduceBNe, Int.reduceLT, Int.reduceLE, Int.reduceGE, Int.reduceGT, Int.reduceEq, hb]; exact rfl))
      refine wpOps_tostr3 ON (by simp only [stepE, evVal, opd, upd, setO, argsE, List.getD, binE, binInt, binStr, unE, wantedE, w0, w1, w2, Nat.reduceEqDiff, ↓reduceIte, Nat.reduceAdd, reduceCtorEq, eq_self, decide_true, decide_false, Bool.false_eq_true, Int.reduceBEq, Int.reduceBNe, Int.reduceLT, Int.reduceLE, Int.reduceGE, Int.reduceGT, Int.reduceEq]) ?_
      repeat (first
        | (refine wpOps_plain rfl ?_
           simp only [stepE, evVal, opd, upd, setO, argsE, List.getD, binE, binInt, binStr, unE, wantedE, w0, w1, w2, Nat.reduceEqDiff, ↓reduceIte, Nat.reduceAdd, reduceCtorEq, eq_self, decide_true, decide_false, Bool.false_eq_true, Int.reduceBEq, Int.reduceBNe, Int.reduceLT, Int.reduceLE, Int.reduceGE, Int.reduceGT, Int.reduceEq])
        | (apply wpOps_on
           · simp only [wantedE, upd, w0, w1, ↓reduceIte, Nat.reduceEqDiff, reduceCtorEq, Bool.false_eq_true, Int.reduceBEq, eq_self, decide_true, decide_false])
        | (apply wpOps_off
           · simp only [wantedE, upd, w0, w1, ↓reduceIte, Nat.reduceEqDiff, reduceCtorEq, Bool.false_eq_true, Int.reduceBEq, eq_self, decide_true, decide_false]
           try dsimp only)
        | (apply wpOps_if
           · rfl
           · simp only [stepE, evVal, opd, upd, setO, argsE, List.getD, binE, binInt, binStr, unE, wantedE, w0, w1, w2, Nat.reduceEqDiff, ↓reduceIte, Nat.reduceAdd, reduceCtorEq, eq_self, decide_true, decide_false, Bool.false_eq_true, Int.reduceBEq, Int.reduceBNe, Int.reduceLT, Int.reduceLE, Int.reduceGE, Int.reduceGT, Int.reduceEq]; exact rfl
           · intro hb; simp only [stepE, evVal, opd, upd, setO, argsE, List.getD, binE, binInt, binStr, unE, wantedE, w0, w1, w2, Nat.reduceEqDiff, ↓reduceIte, Nat.reduceAdd, reduceCtorEq, eq_self, decide_true, decide_false, Bool.false_eq_true, Int.reduceBEq, Int.reduceBNe, Int.reduceLT, Int.reduceLE, Int.reduceGE, Int.reduceGT, Int.reduceEq, hb]; exact rfl))
      refine wpOps_nil (wpC_ret (post_ret ?_ (by omega) rfl))
      simp only [F40, resultsE, resE, upd, ↓reduceIte, Nat.reduceEqDiff]
  · refine ⟨0, _, M, none, rfl, hg, by omega, by omega, by omega, ?_, ?_, ⟨?_, rfl⟩, fun _ => rfl⟩ <;> simp [upd, argsE]
end Go.Proofs.YtoopkggglkpjcaaDoor.paramXtexts
