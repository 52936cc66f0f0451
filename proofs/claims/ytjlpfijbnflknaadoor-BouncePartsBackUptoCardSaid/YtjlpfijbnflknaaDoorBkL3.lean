/- A part of the proof of the statement that this claim hands in: what single functions come to. There are no conditions. -/
import Derived.Test.YtjlpfijbnflknaaDoorBkL2
import Derived.Test.YtjlpfijbnflknaaDoorBkEv20
import Derived.Test.YtjlpfijbnflknaaDoorBkEv30
set_option linter.unusedVariables false
set_option linter.unusedSimpArgs false
set_option linter.unusedSectionVars false

namespace Go.Proofs.YtjlpfijbnflknaaDoor.bouncePartsBack
open Go.Ev hiding Comes
variable [GG]

/-- What parts come to. -/
def sumL (l : List (List UInt8)) : Nat := (l.map fun s => s.length + 1).sum
/-- A body without its end. -/
def bod (b : List UInt8) (l : List (List UInt8)) : List UInt8 := l.flatMap fun p => opM b ++ ([13, 10] ++ (p ++ [13, 10]))
theorem bod_len (b : List UInt8) (l : List (List UInt8)) : (bod b l).length ≤ sumL l * (b.length + 7) := by
  induction l with
  | nil => simp [bod, sumL]
  | cons p l ih =>
    simp only [bod, sumL, List.flatMap_cons, List.length_append, List.map_cons, List.sum_cons, opM, List.length_cons, List.length_nil] at ih ⊢
    rw [Nat.add_mul]
    have : p.length + 1 + (b.length + 6) ≤ (p.length + 1) * (b.length + 7) := by
      have : (p.length + 1) * (b.length + 7) = p.length * (b.length + 7) + (b.length + 7) := by rw [Nat.add_mul, Nat.one_mul]
      have h2 : p.length * 1 ≤ p.length * (b.length + 7) := Nat.mul_le_mul_left _ (by omega)
      omega
    omega
theorem law (m : Mem) (x : EV) (ll : List (List UInt8)) (hx : ByteRows G m x ll) (hl : ll.length ≤ 2000000) (hs : ∀ s ∈ ll, s.length ≤ 2000000) :
    Go.Ev.Comes T G f_l30_BouncePartsBack [x] m none ⟨.val (.bool true), m, none⟩ := by
  refine comes2 T_l30_BouncePartsBack rfl fun M hg hlen hlow => ?_
  have hl0 : m.bl.length ≤ M.low := by omega
  have hx := hx.grown hg
  obtain ⟨a0, c0, e0, sx⟩ := hx.slice
  have lx : lnbE x = some (.int .i64 ll.length) := by rw [sx]; rfl
  have hL := allMarks_len hs
  obtain ⟨n, hn, h1, h2⟩ := least (allMarks ll)
  have hB := c_bounce_Boundary M x ll hx hl hs n h1 h2
  have hd := dec_len 19 n (by omega)
  have hdp := dec_pos n
  have hno : ∀ q ∈ ll, inB q (61 :: 95 :: dec n) = false := fun q hq => by
    cases hb : inB q (61 :: 95 :: dec n) with
    | false => rfl
    | true => exact absurd ((allMarks_any (by omega)).1 (List.any_eq_true.2 ⟨q, hq, hb⟩)) h1
  have h13 : (13 : UInt8) ∉ 61 :: 95 :: dec n := fun h => by
    simp at h
    have := dec_digits n _ h
    revert this
    decide
  have hbl : 2 < (61 :: 95 :: dec n).length ∧ (61 :: 95 :: dec n).length ≤ 22 := by simp; omega
  generalize 61 :: 95 :: dec n = b at hB hno h13 hbl
  obtain ⟨hb1, hb2⟩ := hbl
  simp only [F_l30_BouncePartsBack]
  simp +contextual only [vq, vc, ve, vv, vn, vl, ↓reduceIte, Nat.reduceEqDiff, Nat.reduceAdd, Nat.reduceMul, Nat.reduceSub, Nat.reduceLeDiff, Nat.reduceLT, Nat.reduceBEq, Nat.reduceBNe, reduceCtorEq, Int.reduceBEq, Int.reduceBNe, Int.reduceLT, Int.reduceLE, Int.reduceEq, Int.reduceToNat, Int.reduceAdd, Int.reduceSub, Int.reduceNeg, callR_val (c_l30_head M), callR_val hB, lx]
  refine loop2 (fun q st => ∃ (i : Nat) (k : Option Nat) (v : EV) (A : Fr) (N : Mem), st = ⟨A, N, [], none⟩ ∧ q = ll.length - i ∧ i ≤ ll.length ∧ sumL (ll.take i) ≤ 1048576 ∧ A 0 = x ∧ A 3 = .str b ∧ A 4 = v ∧ A 5 = .int .i64 (sumL (ll.take i) : Nat) ∧ A 15 = x ∧ A 16 = .int .i64 ll.length ∧ A 17 = .int .i64 (i : Nat) ∧ Priv k 1 tagB N v (bytesE (bod b (ll.take i))) (bod b (ll.take i)).length ∧ (∀ j, k = some j → M.bl.length ≤ j) ∧ Grown M N ∧ m.bl.length ≤ N.low) ll.length ⟨0, none, _, _, M, rfl, by omega, by omega, by simp [sumL], by simp +contextual only [vq, vc, ve, vv, vn, vl, ↓reduceIte, Nat.reduceEqDiff, Nat.reduceAdd, Nat.reduceMul, Nat.reduceSub, Nat.reduceLeDiff, Nat.reduceLT, Nat.reduceBEq, Nat.reduceBNe, reduceCtorEq, Int.reduceBEq, Int.reduceBNe, Int.reduceLT, Int.reduceLE, Int.reduceEq, Int.reduceToNat, Int.reduceAdd, Int.reduceSub, Int.reduceNeg], by simp +contextual only [vq, vc, ve, vv, vn, vl, ↓reduceIte, Nat.reduceEqDiff, Nat.reduceAdd, Nat.reduceMul, Nat.reduceSub, Nat.reduceLeDiff, Nat.reduceLT, Nat.reduceBEq, Nat.reduceBNe, reduceCtorEq, Int.reduceBEq, Int.reduceBNe, Int.reduceLT, Int.reduceLE, Int.reduceEq, Int.reduceToNat, Int.reduceAdd, Int.reduceSub, Int.reduceNeg], by simp +contextual only [vq, vc, ve, vv, vn, vl, ↓reduceIte, Nat.reduceEqDiff, Nat.reduceAdd, Nat.reduceMul, Nat.reduceSub, Nat.reduceLeDiff, Nat.reduceLT, Nat.reduceBEq, Nat.reduceBNe, reduceCtorEq, Int.reduceBEq, Int.reduceBNe, Int.reduceLT, Int.reduceLE, Int.reduceEq, Int.reduceToNat, Int.reduceAdd, Int.reduceSub, Int.reduceNeg], by simp +contextual only [vq, vc, ve, vv, vn, vl, ↓reduceIte, Nat.reduceEqDiff, Nat.reduceAdd, Nat.reduceMul, Nat.reduceSub, Nat.reduceLeDiff, Nat.reduceLT, Nat.reduceBEq, Nat.reduceBNe, reduceCtorEq, Int.reduceBEq, Int.reduceBNe, Int.reduceLT, Int.reduceLE, Int.reduceEq, Int.reduceToNat, Int.reduceAdd, Int.reduceSub, Int.reduceNeg]; rfl, by simp +contextual only [vq, vc, ve, vv, vn, vl, ↓reduceIte, Nat.reduceEqDiff, Nat.reduceAdd, Nat.reduceMul, Nat.reduceSub, Nat.reduceLeDiff, Nat.reduceLT, Nat.reduceBEq, Nat.reduceBNe, reduceCtorEq, Int.reduceBEq, Int.reduceBNe, Int.reduceLT, Int.reduceLE, Int.reduceEq, Int.reduceToNat, Int.reduceAdd, Int.reduceSub, Int.reduceNeg], by simp +contextual only [vq, vc, ve, vv, vn, vl, ↓reduceIte, Nat.reduceEqDiff, Nat.reduceAdd, Nat.reduceMul, Nat.reduceSub, Nat.reduceLeDiff, Nat.reduceLT, Nat.reduceBEq, Nat.reduceBNe, reduceCtorEq, Int.reduceBEq, Int.reduceBNe, Int.reduceLT, Int.reduceLE, Int.reduceEq, Int.reduceToNat, Int.reduceAdd, Int.reduceSub, Int.reduceNeg], by simp +contextual only [vq, vc, ve, vv, vn, vl, ↓reduceIte, Nat.reduceEqDiff, Nat.reduceAdd, Nat.reduceMul, Nat.reduceSub, Nat.reduceLeDiff, Nat.reduceLT, Nat.reduceBEq, Nat.reduceBNe, reduceCtorEq, Int.reduceBEq, Int.reduceBNe, Int.reduceLT, Int.reduceLE, Int.reduceEq, Int.reduceToNat, Int.reduceAdd, Int.reduceSub, Int.reduceNeg]; rfl, Priv.nil, (fun _ h => by cases h), Grown.rfl', hl0⟩ fun J hJ q st hI => ?_
  obtain ⟨i, k, v, A, N, rfl, rfl, hi, hsum, A0, A3, A4, A5, A15, A16, A17, hv, hk, hgN, hlN⟩ := hI
  by_cases hlt : i < ll.length
  · obtain ⟨a, cap, y, e, hy1, hy2, hyM⟩ := hx.at hlt
    have hy := hyM.grown hgN
    have hy1 := get_grown hgN hy1
    have hsi := hs _ (List.getElem_mem hlt)
    have hni := hno _ (List.getElem_mem hlt)
    have hst : sumL (ll.take (i + 1)) = sumL (ll.take i) + (ll[i].length + 1) := by
      rw [List.take_succ_eq_append_getElem hlt]
      simp only [sumL, List.map_append, List.sum_append, List.map_cons, List.map_nil, List.sum_cons, List.sum_nil]
      omega
    have hbt : bod b (ll.take (i + 1)) = bod b (ll.take i) ++ (opM b ++ [13, 10]) ++ ll[i] ++ [13, 10] := by
      rw [List.take_succ_eq_append_getElem hlt]
      simp only [bod, List.flatMap_append, List.flatMap_cons, List.flatMap_nil, List.append_nil, List.append_assoc]
    generalize ll[i] = p at hy hyM hsi hni hst hbt
    rw [e] at A15
    obtain ⟨ay, cy, ey, sy⟩ := hy.slice
    have ly : lnbE y = some (.int .i64 p.length) := by rw [sy]; rfl
    have w1 : IntKind.i64.wrap ((p.length : Int) + 1) = ((p.length + 1 : Nat) : Int) := wrap_of (by omega) (by omega)
    have w2 : IntKind.i64.wrap ((sumL (ll.take i) : Int) + ((p.length + 1 : Nat) : Int)) = ((sumL (ll.take (i + 1)) : Nat) : Int) := wrap_of (by omega) (by omega)
    by_cases hbig : 1048576 < sumL (ll.take (i + 1))
    · have kb : (1048576 : Int) < (sumL (ll.take (i + 1)) : Nat) := by omega
      simp +contextual only [vq, vc, ve, vv, vn, vl, ↓reduceIte, Nat.reduceEqDiff, Nat.reduceAdd, Nat.reduceMul, Nat.reduceSub, Nat.reduceLeDiff, Nat.reduceLT, Nat.reduceBEq, Nat.reduceBNe, reduceCtorEq, Int.reduceBEq, Int.reduceBNe, Int.reduceLT, Int.reduceLE, Int.reduceEq, Int.reduceToNat, Int.reduceAdd, Int.reduceSub, Int.reduceNeg, A0, A3, A4, A5, A15, A16, A17, hlt, hy1, ly, w1, w2, kb, hlN]
    · have kb : ¬ (1048576 : Int) < (sumL (ll.take (i + 1)) : Nat) := by omega
      simp +contextual only [vq, vc, ve, vv, vn, vl, ↓reduceIte, Nat.reduceEqDiff, Nat.reduceAdd, Nat.reduceMul, Nat.reduceSub, Nat.reduceLeDiff, Nat.reduceLT, Nat.reduceBEq, Nat.reduceBNe, reduceCtorEq, Int.reduceBEq, Int.reduceBNe, Int.reduceLT, Int.reduceLE, Int.reduceEq, Int.reduceToNat, Int.reduceAdd, Int.reduceSub, Int.reduceNeg, A0, A3, A4, A5, A15, A16, A17, hlt, hy1, ly, w1, w2, kb]
      refine loop2 (fun q st => ∃ (j : Nat) (B : Fr), st = ⟨B, N, [], none⟩ ∧ q = p.length + 1 - j ∧ j ≤ p.length + 1 ∧ B 0 = x ∧ B 3 = .str b ∧ B 4 = v ∧ B 5 = .int .i64 (sumL (ll.take (i + 1)) : Nat) ∧ B 7 = y ∧ B 8 = .int .i64 (j : Nat) ∧ B 15 = x ∧ B 16 = .int .i64 ll.length ∧ B 17 = .int .i64 (i : Nat)) (p.length + 1) ⟨0, _, rfl, by omega, by omega, by simp +contextual only [vq, vc, ve, vv, vn, vl, ↓reduceIte, Nat.reduceEqDiff, Nat.reduceAdd, Nat.reduceMul, Nat.reduceSub, Nat.reduceLeDiff, Nat.reduceLT, Nat.reduceBEq, Nat.reduceBNe, reduceCtorEq, Int.reduceBEq, Int.reduceBNe, Int.reduceLT, Int.reduceLE, Int.reduceEq, Int.reduceToNat, Int.reduceAdd, Int.reduceSub, Int.reduceNeg, A0], by simp +contextual only [vq, vc, ve, vv, vn, vl, ↓reduceIte, Nat.reduceEqDiff, Nat.reduceAdd, Nat.reduceMul, Nat.reduceSub, Nat.reduceLeDiff, Nat.reduceLT, Nat.reduceBEq, Nat.reduceBNe, reduceCtorEq, Int.reduceBEq, Int.reduceBNe, Int.reduceLT, Int.reduceLE, Int.reduceEq, Int.reduceToNat, Int.reduceAdd, Int.reduceSub, Int.reduceNeg, A3], by simp +contextual only [vq, vc, ve, vv, vn, vl, ↓reduceIte, Nat.reduceEqDiff, Nat.reduceAdd, Nat.reduceMul, Nat.reduceSub, Nat.reduceLeDiff, Nat.reduceLT, Nat.reduceBEq, Nat.reduceBNe, reduceCtorEq, Int.reduceBEq, Int.reduceBNe, Int.reduceLT, Int.reduceLE, Int.reduceEq, Int.reduceToNat, Int.reduceAdd, Int.reduceSub, Int.reduceNeg, A4], by simp +contextual only [vq, vc, ve, vv, vn, vl, ↓reduceIte, Nat.reduceEqDiff, Nat.reduceAdd, Nat.reduceMul, Nat.reduceSub, Nat.reduceLeDiff, Nat.reduceLT, Nat.reduceBEq, Nat.reduceBNe, reduceCtorEq, Int.reduceBEq, Int.reduceBNe, Int.reduceLT, Int.reduceLE, Int.reduceEq, Int.reduceToNat, Int.reduceAdd, Int.reduceSub, Int.reduceNeg], by simp +contextual only [vq, vc, ve, vv, vn, vl, ↓reduceIte, Nat.reduceEqDiff, Nat.reduceAdd, Nat.reduceMul, Nat.reduceSub, Nat.reduceLeDiff, Nat.reduceLT, Nat.reduceBEq, Nat.reduceBNe, reduceCtorEq, Int.reduceBEq, Int.reduceBNe, Int.reduceLT, Int.reduceLE, Int.reduceEq, Int.reduceToNat, Int.reduceAdd, Int.reduceSub, Int.reduceNeg], by simp +contextual only [vq, vc, ve, vv, vn, vl, ↓reduceIte, Nat.reduceEqDiff, Nat.reduceAdd, Nat.reduceMul, Nat.reduceSub, Nat.reduceLeDiff, Nat.reduceLT, Nat.reduceBEq, Nat.reduceBNe, reduceCtorEq, Int.reduceBEq, Int.reduceBNe, Int.reduceLT, Int.reduceLE, Int.reduceEq, Int.reduceToNat, Int.reduceAdd, Int.reduceSub, Int.reduceNeg]; rfl, by simp +contextual only [vq, vc, ve, vv, vn, vl, ↓reduceIte, Nat.reduceEqDiff, Nat.reduceAdd, Nat.reduceMul, Nat.reduceSub, Nat.reduceLeDiff, Nat.reduceLT, Nat.reduceBEq, Nat.reduceBNe, reduceCtorEq, Int.reduceBEq, Int.reduceBNe, Int.reduceLT, Int.reduceLE, Int.reduceEq, Int.reduceToNat, Int.reduceAdd, Int.reduceSub, Int.reduceNeg, A15, e], by simp +contextual only [vq, vc, ve, vv, vn, vl, ↓reduceIte, Nat.reduceEqDiff, Nat.reduceAdd, Nat.reduceMul, Nat.reduceSub, Nat.reduceLeDiff, Nat.reduceLT, Nat.reduceBEq, Nat.reduceBNe, reduceCtorEq, Int.reduceBEq, Int.reduceBNe, Int.reduceLT, Int.reduceLE, Int.reduceEq, Int.reduceToNat, Int.reduceAdd, Int.reduceSub, Int.reduceNeg, A16], by simp +contextual only [vq, vc, ve, vv, vn, vl, ↓reduceIte, Nat.reduceEqDiff, Nat.reduceAdd, Nat.reduceMul, Nat.reduceSub, Nat.reduceLeDiff, Nat.reduceLT, Nat.reduceBEq, Nat.reduceBNe, reduceCtorEq, Int.reduceBEq, Int.reduceBNe, Int.reduceLT, Int.reduceLE, Int.reduceEq, Int.reduceToNat, Int.reduceAdd, Int.reduceSub, Int.reduceNeg, A17]⟩ fun J2 hJ2 q st hI => ?_
      obtain ⟨j, B, rfl, rfl, hj, B0, B3, B4, B5, B7, B8, B15, B16, B17⟩ := hI
      have w3 : IntKind.i64.wrap ((j : Int) + (b.length : Int)) = ((j + b.length : Nat) : Int) := wrap_of (by omega) (by omega)
      by_cases hjl : j + b.length ≤ p.length
      · obtain ⟨ap, capp, ey2, hcp, hop, hgp, _⟩ := hy.pos (fun e => by rw [e] at hjl; simp only [List.length_nil] at hjl; omega)
        have hpg := part_getN hgp (show j ≤ j + b.length by omega) hjl
        have hne : ((p.drop j).take (j + b.length - j) == b) = false := by
          rw [show j + b.length - j = b.length by omega]
          simp only [beq_eq_false_iff_ne, ne_eq]
          intro h
          have := (inB_iff (by omega)).2 ⟨j, h⟩
          rw [hni] at this
          cases this
        have k1 : j ≤ j + b.length := by omega
        have k2 : j + b.length ≤ capp := by omega
        rw [ey2] at B7
        simp +contextual only [vq, vc, ve, vv, vn, vl, ↓reduceIte, Nat.reduceEqDiff, Nat.reduceAdd, Nat.reduceMul, Nat.reduceSub, Nat.reduceLeDiff, Nat.reduceLT, Nat.reduceBEq, Nat.reduceBNe, reduceCtorEq, Int.reduceBEq, Int.reduceBNe, Int.reduceLT, Int.reduceLE, Int.reduceEq, Int.reduceToNat, Int.reduceAdd, Int.reduceSub, Int.reduceNeg, B3, B7, B8, w3, hjl, k1, k2, hpg, hne, wsucc (show j < j + 1 by omega) (by omega)]
        exact again2 hJ2 (p.length + 1 - (j + 1)) (by omega) ⟨j + 1, _, rfl, rfl, by omega, by simp +contextual only [vq, vc, ve, vv, vn, vl, ↓reduceIte, Nat.reduceEqDiff, Nat.reduceAdd, Nat.reduceMul, Nat.reduceSub, Nat.reduceLeDiff, Nat.reduceLT, Nat.reduceBEq, Nat.reduceBNe, reduceCtorEq, Int.reduceBEq, Int.reduceBNe, Int.reduceLT, Int.reduceLE, Int.reduceEq, Int.reduceToNat, Int.reduceAdd, Int.reduceSub, Int.reduceNeg, B0], by simp +contextual only [vq, vc, ve, vv, vn, vl, ↓reduceIte, Nat.reduceEqDiff, Nat.reduceAdd, Nat.reduceMul, Nat.reduceSub, Nat.reduceLeDiff, Nat.reduceLT, Nat.reduceBEq, Nat.reduceBNe, reduceCtorEq, Int.reduceBEq, Int.reduceBNe, Int.reduceLT, Int.reduceLE, Int.reduceEq, Int.reduceToNat, Int.reduceAdd, Int.reduceSub, Int.reduceNeg, B3], by simp +contextual only [vq, vc, ve, vv, vn, vl, ↓reduceIte, Nat.reduceEqDiff, Nat.reduceAdd, Nat.reduceMul, Nat.reduceSub, Nat.reduceLeDiff, Nat.reduceLT, Nat.reduceBEq, Nat.reduceBNe, reduceCtorEq, Int.reduceBEq, Int.reduceBNe, Int.reduceLT, Int.reduceLE, Int.reduceEq, Int.reduceToNat, Int.reduceAdd, Int.reduceSub, Int.reduceNeg, B4], by simp +contextual only [vq, vc, ve, vv, vn, vl, ↓reduceIte, Nat.reduceEqDiff, Nat.reduceAdd, Nat.reduceMul, Nat.reduceSub, Nat.reduceLeDiff, Nat.reduceLT, Nat.reduceBEq, Nat.reduceBNe, reduceCtorEq, Int.reduceBEq, Int.reduceBNe, Int.reduceLT, Int.reduceLE, Int.reduceEq, Int.reduceToNat, Int.reduceAdd, Int.reduceSub, Int.reduceNeg, B5], by simp +contextual only [vq, vc, ve, vv, vn, vl, ↓reduceIte, Nat.reduceEqDiff, Nat.reduceAdd, Nat.reduceMul, Nat.reduceSub, Nat.reduceLeDiff, Nat.reduceLT, Nat.reduceBEq, Nat.reduceBNe, reduceCtorEq, Int.reduceBEq, Int.reduceBNe, Int.reduceLT, Int.reduceLE, Int.reduceEq, Int.reduceToNat, Int.reduceAdd, Int.reduceSub, Int.reduceNeg, B7, ey2], by simp +contextual only [vq, vc, ve, vv, vn, vl, ↓reduceIte, Nat.reduceEqDiff, Nat.reduceAdd, Nat.reduceMul, Nat.reduceSub, Nat.reduceLeDiff, Nat.reduceLT, Nat.reduceBEq, Nat.reduceBNe, reduceCtorEq, Int.reduceBEq, Int.reduceBNe, Int.reduceLT, Int.reduceLE, Int.reduceEq, Int.reduceToNat, Int.reduceAdd, Int.reduceSub, Int.reduceNeg], by simp +contextual only [vq, vc, ve, vv, vn, vl, ↓reduceIte, Nat.reduceEqDiff, Nat.reduceAdd, Nat.reduceMul, Nat.reduceSub, Nat.reduceLeDiff, Nat.reduceLT, Nat.reduceBEq, Nat.reduceBNe, reduceCtorEq, Int.reduceBEq, Int.reduceBNe, Int.reduceLT, Int.reduceLE, Int.reduceEq, Int.reduceToNat, Int.reduceAdd, Int.reduceSub, Int.reduceNeg, B15], by simp +contextual only [vq, vc, ve, vv, vn, vl, ↓reduceIte, Nat.reduceEqDiff, Nat.reduceAdd, Nat.reduceMul, Nat.reduceSub, Nat.reduceLeDiff, Nat.reduceLT, Nat.reduceBEq, Nat.reduceBNe, reduceCtorEq, Int.reduceBEq, Int.reduceBNe, Int.reduceLT, Int.reduceLE, Int.reduceEq, Int.reduceToNat, Int.reduceAdd, Int.reduceSub, Int.reduceNeg, B16], by simp +contextual only [vq, vc, ve, vv, vn, vl, ↓reduceIte, Nat.reduceEqDiff, Nat.reduceAdd, Nat.reduceMul, Nat.reduceSub, Nat.reduceLeDiff, Nat.reduceLT, Nat.reduceBEq, Nat.reduceBNe, reduceCtorEq, Int.reduceBEq, Int.reduceBNe, Int.reduceLT, Int.reduceLE, Int.reduceEq, Int.reduceToNat, Int.reduceAdd, Int.reduceSub, Int.reduceNeg, B17]⟩
      · have q1 : 2 + b.length ≤ 9223372036854775807 := by omega
        have q2 : b.length ≤ 9223372036854775803 := by omega
        have hle := hgN.le
        have hbd := bod_len b (ll.take i)
        have hbd2 : sumL (ll.take i) * (b.length + 7) ≤ 1048576 * 29 := Nat.mul_le_mul hsum (by omega)
        obtain ⟨v1, N1, k1, a1, p1, h1k, g1, l1⟩ := priv_grow hv hk hgN (by omega) hlN (45 :: 45 :: (b ++ [13, 10])) (by simp; omega)
        have a1 : appendE G N 1 1 tagB v (bytesE (45 :: 45 :: (b ++ [13, 10]))) ((b ++ [13, 10]).length + 1 + 1) = some (v1, N1) := a1
        obtain ⟨v2, N2, k2, a2, p2, h2k, g2, l2⟩ := priv_grow p1 h1k g1 (by omega) l1 p (by simp; omega)
        have hsrc := (hyM.grown g1).src
        simp +contextual only [vq, vc, ve, vv, vn, vl, ↓reduceIte, Nat.reduceEqDiff, Nat.reduceAdd, Nat.reduceMul, Nat.reduceSub, Nat.reduceLeDiff, Nat.reduceLT, Nat.reduceBEq, Nat.reduceBNe, reduceCtorEq, Int.reduceBEq, Int.reduceBNe, Int.reduceLT, Int.reduceLE, Int.reduceEq, Int.reduceToNat, Int.reduceAdd, Int.reduceSub, Int.reduceNeg, B3, B4, B7, B8, ly, w3, hjl, q1, q2, a1, hsrc, a2]
        refine new_mk fun N3 n3 => ?_
        have gN3 : Grown N2 N3 := by rw [n3]; exact Grown.rfl'.push
        have R3 : RowIs N3 N2.bl.length [.int .u8 13, .int .u8 10] := by rw [n3]; exact row_push _ _
        obtain ⟨v3, N4, k3, a3, p3, h3k, g3, l3⟩ := priv_grow (p2.grown gN3) h2k (g2.trans gN3) (n1 := m.bl.length) (by omega) (by rw [n3]; exact l2) [13, 10] (by simp; omega)
        have a3 : appendE G N3 1 1 tagB v2 [.int .u8 13, .int .u8 10] 2 = some (v3, N4) := a3
        have hbt2 : bod b (ll.take (i + 1)) = bod b (ll.take i) ++ 45 :: 45 :: (b ++ [13, 10]) ++ p ++ [13, 10] := by rw [hbt]; simp [opM]
        rw [← hbt2] at p3
        simp +contextual only [vq, vc, ve, vv, vn, vl, ↓reduceIte, Nat.reduceEqDiff, Nat.reduceAdd, Nat.reduceMul, Nat.reduceSub, Nat.reduceLeDiff, Nat.reduceLT, Nat.reduceBEq, Nat.reduceBNe, reduceCtorEq, Int.reduceBEq, Int.reduceBNe, Int.reduceLT, Int.reduceLE, Int.reduceEq, Int.reduceToNat, Int.reduceAdd, Int.reduceSub, Int.reduceNeg, R3.getN (G := G), a3, B17, wsucc hlt (by omega)]
        exact again2 hJ (ll.length - (i + 1)) (by omega) ⟨i + 1, k3, v3, _, N4, rfl, rfl, by omega, by omega, by simp +contextual only [vq, vc, ve, vv, vn, vl, ↓reduceIte, Nat.reduceEqDiff, Nat.reduceAdd, Nat.reduceMul, Nat.reduceSub, Nat.reduceLeDiff, Nat.reduceLT, Nat.reduceBEq, Nat.reduceBNe, reduceCtorEq, Int.reduceBEq, Int.reduceBNe, Int.reduceLT, Int.reduceLE, Int.reduceEq, Int.reduceToNat, Int.reduceAdd, Int.reduceSub, Int.reduceNeg, B0], by simp +contextual only [vq, vc, ve, vv, vn, vl, ↓reduceIte, Nat.reduceEqDiff, Nat.reduceAdd, Nat.reduceMul, Nat.reduceSub, Nat.reduceLeDiff, Nat.reduceLT, Nat.reduceBEq, Nat.reduceBNe, reduceCtorEq, Int.reduceBEq, Int.reduceBNe, Int.reduceLT, Int.reduceLE, Int.reduceEq, Int.reduceToNat, Int.reduceAdd, Int.reduceSub, Int.reduceNeg, B3], by simp +contextual only [vq, vc, ve, vv, vn, vl, ↓reduceIte, Nat.reduceEqDiff, Nat.reduceAdd, Nat.reduceMul, Nat.reduceSub, Nat.reduceLeDiff, Nat.reduceLT, Nat.reduceBEq, Nat.reduceBNe, reduceCtorEq, Int.reduceBEq, Int.reduceBNe, Int.reduceLT, Int.reduceLE, Int.reduceEq, Int.reduceToNat, Int.reduceAdd, Int.reduceSub, Int.reduceNeg], by simp +contextual only [vq, vc, ve, vv, vn, vl, ↓reduceIte, Nat.reduceEqDiff, Nat.reduceAdd, Nat.reduceMul, Nat.reduceSub, Nat.reduceLeDiff, Nat.reduceLT, Nat.reduceBEq, Nat.reduceBNe, reduceCtorEq, Int.reduceBEq, Int.reduceBNe, Int.reduceLT, Int.reduceLE, Int.reduceEq, Int.reduceToNat, Int.reduceAdd, Int.reduceSub, Int.reduceNeg, B5], by simp +contextual only [vq, vc, ve, vv, vn, vl, ↓reduceIte, Nat.reduceEqDiff, Nat.reduceAdd, Nat.reduceMul, Nat.reduceSub, Nat.reduceLeDiff, Nat.reduceLT, Nat.reduceBEq, Nat.reduceBNe, reduceCtorEq, Int.reduceBEq, Int.reduceBNe, Int.reduceLT, Int.reduceLE, Int.reduceEq, Int.reduceToNat, Int.reduceAdd, Int.reduceSub, Int.reduceNeg, B15], by simp +contextual only [vq, vc, ve, vv, vn, vl, ↓reduceIte, Nat.reduceEqDiff, Nat.reduceAdd, Nat.reduceMul, Nat.reduceSub, Nat.reduceLeDiff, Nat.reduceLT, Nat.reduceBEq, Nat.reduceBNe, reduceCtorEq, Int.reduceBEq, Int.reduceBNe, Int.reduceLT, Int.reduceLE, Int.reduceEq, Int.reduceToNat, Int.reduceAdd, Int.reduceSub, Int.reduceNeg, B16], by simp +contextual only [vq, vc, ve, vv, vn, vl, ↓reduceIte, Nat.reduceEqDiff, Nat.reduceAdd, Nat.reduceMul, Nat.reduceSub, Nat.reduceLeDiff, Nat.reduceLT, Nat.reduceBEq, Nat.reduceBNe, reduceCtorEq, Int.reduceBEq, Int.reduceBNe, Int.reduceLT, Int.reduceLE, Int.reduceEq, Int.reduceToNat, Int.reduceAdd, Int.reduceSub, Int.reduceNeg], p3, h3k, g3, l3⟩
  · have hil : i = ll.length := by omega
    subst hil
    rw [List.take_length] at hsum hv
    have q1 : 2 + b.length ≤ 9223372036854775807 := by omega
    have q2 : b.length ≤ 9223372036854775803 := by omega
    have hle := hgN.le
    have hbd := bod_len b ll
    have hbd2 : sumL ll * (b.length + 7) ≤ 1048576 * 29 := Nat.mul_le_mul hsum (by omega)
    obtain ⟨v1, N1, k1, a1, p1, h1k, g1, l1⟩ := priv_grow hv hk hgN (by omega) hlN (45 :: 45 :: (b ++ [45, 45])) (by simp; omega)
    have a1 : appendE G N 1 1 tagB v (bytesE (45 :: 45 :: (b ++ [45, 45]))) ((b ++ [45, 45]).length + 1 + 1) = some (v1, N1) := a1
    have hbody : bod b ll ++ 45 :: 45 :: (b ++ [45, 45]) = bodyOf b ll := rfl
    rw [hbody] at p1
    have hbo : (bodyOf b ll).length ≤ 100000000 := by rw [← hbody]; simp; omega
    obtain ⟨pv, N2, kp, ep, hcP, g2, l2, ho2⟩ := c_bounce_Parts N1 v1 (bodyOf b ll) b p1.bytes hbo (by omega)
    obtain ⟨pa1, pc1, pe1, sv1⟩ := p1.slice
    have lv1 : lnbE v1 = some (.int .i64 (bodyOf b ll).length) := by rw [sv1]; rfl
    have hres := res_body (b := b) (by omega) h13 hno
    have hll2 : m.bl.length ≤ N2.low := by have := g1.le; omega
    by_cases h0 : ll.length = 0
    · rw [if_pos h0] at hres
      rw [hres] at hcP ho2
      obtain ⟨oa, oc, oe, so⟩ := ho2.slice
      simp +contextual only [vq, vc, ve, vv, vn, vl, ↓reduceIte, Nat.reduceEqDiff, Nat.reduceAdd, Nat.reduceMul, Nat.reduceSub, Nat.reduceLeDiff, Nat.reduceLT, Nat.reduceBEq, Nat.reduceBNe, reduceCtorEq, Int.reduceBEq, Int.reduceBNe, Int.reduceLT, Int.reduceLE, Int.reduceEq, Int.reduceToNat, Int.reduceAdd, Int.reduceSub, Int.reduceNeg, A0, A3, A4, A16, A17, lx, hlt, q1, q2, a1, callR_val hcP]
      refine new_mk fun N3 n3 => ?_
      have R3 : RowIs N3 N2.bl.length [.int .i64 0, .int .i64 0] := by rw [n3]; exact row_push _ _
      obtain ⟨N4, w1, w2, w3, w4⟩ := putN_row (off := 0) (vs := [.int .i64 300, .int .i64 ((bodyOf b ll).length : Nat)]) R3 (by simp)
      have w2 : RowIs N4 N2.bl.length [.int .i64 300, .int .i64 ((bodyOf b ll).length : Nat)] := w2
      have l3 : m.bl.length ≤ N3.low := by rw [n3]; exact hll2
      have hge := (g1.trans g2).le
      have l4 : m.bl.length ≤ N4.low := by omega
      have lp : lnbE pv = some (.int .i64 ((0 : Nat) : Int)) := by rw [so]; rfl
      have k0 : ((ll.length : Int) == 0) = true := beq_iff_eq.2 (by omega)
      simp +contextual only [vq, vc, ve, vv, vn, vl, ↓reduceIte, Nat.reduceEqDiff, Nat.reduceAdd, Nat.reduceMul, Nat.reduceSub, Nat.reduceLeDiff, Nat.reduceLT, Nat.reduceBEq, Nat.reduceBNe, reduceCtorEq, Int.reduceBEq, Int.reduceBNe, Int.reduceLT, Int.reduceLE, Int.reduceEq, Int.reduceToNat, Int.reduceAdd, Int.reduceSub, Int.reduceNeg, w1, A0, lx, k0, lp, w2.getN (G := G), lv1, l4]
    · rw [if_neg h0] at hres
      rw [hres] at hcP ho2
      simp +contextual only [vq, vc, ve, vv, vn, vl, ↓reduceIte, Nat.reduceEqDiff, Nat.reduceAdd, Nat.reduceMul, Nat.reduceSub, Nat.reduceLeDiff, Nat.reduceLT, Nat.reduceBEq, Nat.reduceBNe, reduceCtorEq, Int.reduceBEq, Int.reduceBNe, Int.reduceLT, Int.reduceLE, Int.reduceEq, Int.reduceToNat, Int.reduceAdd, Int.reduceSub, Int.reduceNeg, A0, A3, A4, A16, A17, lx, hlt, q1, q2, a1, callR_val hcP]
      refine new_mk fun N3 n3 => ?_
      have R3 : RowIs N3 N2.bl.length [.int .i64 0, .int .i64 0] := by rw [n3]; exact row_push _ _
      obtain ⟨N4, w1, w2, w3, w4⟩ := putN_row (off := 0) (vs := [.int .i64 0, .int .i64 0]) R3 (by simp)
      have w2 : RowIs N4 N2.bl.length [.int .i64 0, .int .i64 0] := w2
      have l3 : m.bl.length ≤ N3.low := by rw [n3]; exact hll2
      have hge := (g1.trans g2).le
      have l4 : m.bl.length ≤ N4.low := by omega
      have g23 : Grown N2 N3 := by rw [n3]; exact Grown.rfl'.push
      have hl23 := g23.le
      have g24 : Grown N2 N4 := grown_of (by have := w3.1; omega) fun j hj => by rw [w3.2 j (by omega), g23.at hj]
      have k0 : ((ll.length : Int) == 0) = false := beq_eq_false_iff_ne.2 (by omega)
      have k1 : (2 : Int) < (b.length : Int) := by omega
      have hS := c_l30_sameParts N4 pv x ll ll (ho2.grown g24).rows (hx.grown ((g1.trans g2).trans g24)) (by omega) (by omega)
      simp +contextual only [vq, vc, ve, vv, vn, vl, ↓reduceIte, Nat.reduceEqDiff, Nat.reduceAdd, Nat.reduceMul, Nat.reduceSub, Nat.reduceLeDiff, Nat.reduceLT, Nat.reduceBEq, Nat.reduceBNe, reduceCtorEq, Int.reduceBEq, Int.reduceBNe, Int.reduceLT, Int.reduceLE, Int.reduceEq, Int.reduceToNat, Int.reduceAdd, Int.reduceSub, Int.reduceNeg, w1, A0, A3, lx, k0, k1, w2.getN (G := G), callR_val hS, l4]
theorem lawAll (m : Mem) (xs : List EV) (hro : RO m) (hs : SitArgs 1048576 m [.slice (.slice (.int .u8))] xs) : ∃ m' p', Go.Ev.Comes T G f_l30_BouncePartsBack xs m none ⟨.val (.bool true), m', p'⟩ := by
  obtain ⟨ys, r, rfl, h1, _, rfl⟩ := hs
  obtain ⟨v, ll, rfl, hp, hl, hb⟩ := sits_byteRows h1
  exact ⟨m, none, law m v ll hp (by omega) (fun s hs => by have := hb s hs; omega)⟩
end Go.Proofs.YtjlpfijbnflknaaDoor.bouncePartsBack
