/- A part of the proof of the statement that this claim hands in: what single functions come to. There are no conditions. -/
import Derived.Test.YtjlpfijbnflknaaDoorBpL2
import Derived.Test.YtjlpfijbnflknaaDoorBpEv20
import Derived.Test.YtjlpfijbnflknaaDoorBpEv30
import Derived.Test.YtjlpfijbnflknaaDoorBpEv31
set_option linter.unusedVariables false
set_option linter.unusedSimpArgs false
set_option linter.unusedSectionVars false
namespace Go.Proofs.YtjlpfijbnflknaaDoor.bounceParts
open Go.Ev hiding Comes
variable [GG]

theorem c_r30_Parts (m : Mem) (x : EV) (s b : List UInt8) (hx : BytesAt G m x s) (hs : s.length ≤ 100000000) (hb : b.length ≤ 1000000000) :
    ∃ v m' k es, Go.Ev.Comes T G f_r30_Parts [x, .str b] m none ⟨.val (.tuple [v, .agg (resParts s b).2]), m', none⟩ ∧ Grown m m' ∧ min m.low m.bl.length ≤ m'.low ∧ Outs m.bl.length k es m' v (resParts s b).1 := by
  suffices H : ∃ r, Go.Ev.Comes T G f_r30_Parts [x, .str b] m none r ∧ ∃ v m' k es, r = ⟨.val (.tuple [v, .agg (resParts s b).2]), m', none⟩ ∧ Grown m m' ∧ min m.low m.bl.length ≤ m'.low ∧ Outs m.bl.length k es m' v (resParts s b).1 by
    obtain ⟨_, hc, v, m', k, es, rfl, h⟩ := H
    exact ⟨v, m', k, es, hc, h⟩
  refine comes2P T_r30_Parts rfl fun M hg hlen hlow => ?_
  have hl0 : m.bl.length ≤ M.low := by omega
  have hx := hx.grown hg
  obtain ⟨a0, c0, e0, sx⟩ := hx.slice
  have lx : lnbE x = some (.int .i64 s.length) := by rw [sx]; rfl
  have q1 : 2 + b.length ≤ 9223372036854775807 := by omega
  have q2 : b.length ≤ 9223372036854775803 := by omega
  simp only [F_r30_Parts]
  simp +contextual only [vq, vc, ve, vv, vn, vl, ↓reduceIte, Nat.reduceEqDiff, Nat.reduceAdd, Nat.reduceMul, Nat.reduceSub, Nat.reduceLeDiff, Nat.reduceLT, Nat.reduceBEq, Nat.reduceBNe, reduceCtorEq, Int.reduceBEq, Int.reduceBNe, Int.reduceLT, Int.reduceLE, Int.reduceEq, Int.reduceToNat, Int.reduceAdd, Int.reduceSub, Int.reduceNeg]
  refine new_mk fun M1 e1 => ?_
  have g1 : Grown M M1 := by rw [e1]; exact Grown.rfl'.push
  have l1 : m.bl.length ≤ M1.low := by rw [e1]; exact hl0
  have b1 : M1.bl.length = M.bl.length + 1 := by rw [e1]; simp [Mem.push]
  obtain ⟨rv, M2, hcR, g2, l2, hR⟩ := c_r30_Rows M1 x s (hx.grown g1) hs
  have R1 : RowIs M2 M.bl.length [.int .i64 0, .int .i64 0] := RowIs.grown g2 (by rw [e1]; exact row_push _ _)
  have lm2 : m.bl.length ≤ M2.low := by omega
  obtain ⟨ra, rc, re, sr⟩ := hR.slice
  have lr : lnbE rv = some (.int .i64 (lines s).length) := by rw [sr]; rfl
  have hle2 := g2.le
  have hbl := bulk_lines _ s (Nat.le_refl _)
  have hll : 2 * (lines s).length ≤ bulkL (lines s) := by
    generalize lines s = l
    induction l with
    | nil => simp
    | cons x l ih => simp [bulkL] at ih ⊢; omega
  simp +contextual only [vq, vc, ve, vv, vn, vl, ↓reduceIte, Nat.reduceEqDiff, Nat.reduceAdd, Nat.reduceMul, Nat.reduceSub, Nat.reduceLeDiff, Nat.reduceLT, Nat.reduceBEq, Nat.reduceBNe, reduceCtorEq, Int.reduceBEq, Int.reduceBNe, Int.reduceLT, Int.reduceLE, Int.reduceEq, Int.reduceToNat, Int.reduceAdd, Int.reduceSub, Int.reduceNeg, callR_val hcR]
  refine loop2 (fun q st => ∃ (i : Nat) (inside : Bool) (out inner : List (List UInt8)) (k : Option Nat) (es : List (Option Nat)) (ki : Option Nat) (v w : EV) (A : Fr) (N : Mem), st = ⟨A, N, [], none⟩ ∧ q = (lines s).length - i ∧ i ≤ (lines s).length ∧
      partsOf (opM b) (clM b) ((lines s).drop i) inside out inner = partsOf (opM b) (clM b) (lines s) false [] [] ∧ out.length ≤ i ∧ inner.length ≤ i ∧ bulkL inner + bulkL ((lines s).drop i) ≤ bulkL (lines s) ∧
      A 0 = x ∧ A 1 = .str b ∧ A 5 = .ptr (some ⟨.mem M.bl.length 0, 0⟩) ∧ A 6 = rv ∧ A 7 = v ∧ A 8 = w ∧ A 9 = .bool inside ∧ A 10 = .int .i64 (i : Nat) ∧
      Outs M2.bl.length k es N v out ∧ Priv ki 1 0 N w (inner.map .str) inner.length ∧ (∀ j, ki = some j → M2.bl.length ≤ j ∧ ¬ Uses k es j) ∧ Grown M2 N ∧ m.bl.length ≤ N.low)
    (lines s).length ⟨0, false, [], [], none, [], none, _, _, _, M2, rfl, by omega, by omega, rfl, by simp, by simp, by simp [bulkL], by simp +contextual only [vq, vc, ve, vv, vn, vl, ↓reduceIte, Nat.reduceEqDiff, Nat.reduceAdd, Nat.reduceMul, Nat.reduceSub, Nat.reduceLeDiff, Nat.reduceLT, Nat.reduceBEq, Nat.reduceBNe, reduceCtorEq, Int.reduceBEq, Int.reduceBNe, Int.reduceLT, Int.reduceLE, Int.reduceEq, Int.reduceToNat, Int.reduceAdd, Int.reduceSub, Int.reduceNeg], by simp +contextual only [vq, vc, ve, vv, vn, vl, ↓reduceIte, Nat.reduceEqDiff, Nat.reduceAdd, Nat.reduceMul, Nat.reduceSub, Nat.reduceLeDiff, Nat.reduceLT, Nat.reduceBEq, Nat.reduceBNe, reduceCtorEq, Int.reduceBEq, Int.reduceBNe, Int.reduceLT, Int.reduceLE, Int.reduceEq, Int.reduceToNat, Int.reduceAdd, Int.reduceSub, Int.reduceNeg], by simp +contextual only [vq, vc, ve, vv, vn, vl, ↓reduceIte, Nat.reduceEqDiff, Nat.reduceAdd, Nat.reduceMul, Nat.reduceSub, Nat.reduceLeDiff, Nat.reduceLT, Nat.reduceBEq, Nat.reduceBNe, reduceCtorEq, Int.reduceBEq, Int.reduceBNe, Int.reduceLT, Int.reduceLE, Int.reduceEq, Int.reduceToNat, Int.reduceAdd, Int.reduceSub, Int.reduceNeg], by simp +contextual only [vq, vc, ve, vv, vn, vl, ↓reduceIte, Nat.reduceEqDiff, Nat.reduceAdd, Nat.reduceMul, Nat.reduceSub, Nat.reduceLeDiff, Nat.reduceLT, Nat.reduceBEq, Nat.reduceBNe, reduceCtorEq, Int.reduceBEq, Int.reduceBNe, Int.reduceLT, Int.reduceLE, Int.reduceEq, Int.reduceToNat, Int.reduceAdd, Int.reduceSub, Int.reduceNeg], by simp +contextual only [vq, vc, ve, vv, vn, vl, ↓reduceIte, Nat.reduceEqDiff, Nat.reduceAdd, Nat.reduceMul, Nat.reduceSub, Nat.reduceLeDiff, Nat.reduceLT, Nat.reduceBEq, Nat.reduceBNe, reduceCtorEq, Int.reduceBEq, Int.reduceBNe, Int.reduceLT, Int.reduceLE, Int.reduceEq, Int.reduceToNat, Int.reduceAdd, Int.reduceSub, Int.reduceNeg], by simp +contextual only [vq, vc, ve, vv, vn, vl, ↓reduceIte, Nat.reduceEqDiff, Nat.reduceAdd, Nat.reduceMul, Nat.reduceSub, Nat.reduceLeDiff, Nat.reduceLT, Nat.reduceBEq, Nat.reduceBNe, reduceCtorEq, Int.reduceBEq, Int.reduceBNe, Int.reduceLT, Int.reduceLE, Int.reduceEq, Int.reduceToNat, Int.reduceAdd, Int.reduceSub, Int.reduceNeg], by simp +contextual only [vq, vc, ve, vv, vn, vl, ↓reduceIte, Nat.reduceEqDiff, Nat.reduceAdd, Nat.reduceMul, Nat.reduceSub, Nat.reduceLeDiff, Nat.reduceLT, Nat.reduceBEq, Nat.reduceBNe, reduceCtorEq, Int.reduceBEq, Int.reduceBNe, Int.reduceLT, Int.reduceLE, Int.reduceEq, Int.reduceToNat, Int.reduceAdd, Int.reduceSub, Int.reduceNeg], by simp +contextual only [vq, vc, ve, vv, vn, vl, ↓reduceIte, Nat.reduceEqDiff, Nat.reduceAdd, Nat.reduceMul, Nat.reduceSub, Nat.reduceLeDiff, Nat.reduceLT, Nat.reduceBEq, Nat.reduceBNe, reduceCtorEq, Int.reduceBEq, Int.reduceBNe, Int.reduceLT, Int.reduceLE, Int.reduceEq, Int.reduceToNat, Int.reduceAdd, Int.reduceSub, Int.reduceNeg]; rfl, Outs.nil, Priv.nil, (fun _ h => by cases h), Grown.rfl', lm2⟩ fun J hJ q st hI => ?_
  obtain ⟨i, inside, out, inner, k, es, ki, v, w, A, N, rfl, rfl, hi, hp, hoi, hii, hbk, A0, A1, A5, A6, A7, A8, A9, A10, hout, hw, hki, hgN, hlN⟩ := hI
  by_cases hlt : i < (lines s).length
  · obtain ⟨a, cap, ex, hy, ho⟩ := (hR.grown hgN).at hlt
    rw [List.drop_eq_getElem_cons hlt] at hp hbk
    generalize (lines s)[i] = r at hp hbk hy
    rw [ex] at A6
    have hlen2 : ((lines s).drop (i + 1)).length = (lines s).length - (i + 1) := by simp
    have hrb : bulkL (r :: (lines s).drop (i + 1)) = r.length + 2 + bulkL ((lines s).drop (i + 1)) := by simp [bulkL]
    rw [hrb] at hbk
    have hle := hgN.le
    -- what both marks do
    have hand : ∃ u N1 kj ua uc ue, Go.Ev.Comes T G f_r30_joined [w] N none ⟨.val u, N1, none⟩ ∧ u = .slice ua (join inner).length uc ue ∧ m.bl.length ≤ N1.low ∧ ∀ N2, N2 = N1.push (.cells [u] 0 true) → RowIs N2 N1.bl.length [u] ∧ ∃ v' N3 k', appendE G N2 1 24 0 v [u] 1 = some (v', N3) ∧ Outs M2.bl.length k' (es ++ [kj]) N3 v' (out ++ [join inner]) ∧ Grown M2 N3 ∧ m.bl.length ≤ N3.low := by
      obtain ⟨u, N1, kj, hcJ, gJ, lJ, hpJ, hkJ⟩ := c_r30_joined N w inner (priv_strs hw) (by omega) (by omega)
      obtain ⟨ua, uc, ue, su⟩ := hpJ.slice
      have hleJ := gJ.le
      refine ⟨u, N1, kj, ua, uc, ue, hcJ, su, by omega, fun N2 n2 => ⟨by rw [n2]; exact row_push _ _, ?_⟩⟩
      obtain ⟨v', N3, k', hap, ho3, _, hag, hl3, hw3⟩ := (hout.grown gJ).add hpJ (fun j hj => ⟨by have := hkJ j hj; omega, fun hq => by have := (hout.used hq).2; have := hkJ j hj; omega⟩) n2 (by omega) (by omega)
      exact ⟨v', N3, k', hap, ho3, grown_of (by omega) fun j hj => by
        rw [hag j (by omega) fun h => by have := (hout.used (.inl h)).1; omega, (hgN.trans gJ).at hj], hw3 _ (by omega) (by omega)⟩
    cases inside with
    | false =>
      cases hro : (r == 45 :: 45 :: b) with
      | true =>
        simp +contextual only [vq, vc, ve, vv, vn, vl, ↓reduceIte, Nat.reduceEqDiff, Nat.reduceAdd, Nat.reduceMul, Nat.reduceSub, Nat.reduceLeDiff, Nat.reduceLT, Nat.reduceBEq, Nat.reduceBNe, reduceCtorEq, Int.reduceBEq, Int.reduceBNe, Int.reduceLT, Int.reduceLE, Int.reduceEq, Int.reduceToNat, Int.reduceAdd, Int.reduceSub, Int.reduceNeg, A0, A1, A6, A9, A10, hlt, hy, q1, hro, wsucc hlt (by omega)]
        exact again2 hJ ((lines s).length - (i + 1)) (by omega) ⟨i + 1, true, out, inner, k, es, ki, v, w, _, N, rfl, rfl, by omega, by rw [← hp]; simp only [partsOf, opM, hro], by omega, by omega, by omega, by simp +contextual only [vq, vc, ve, vv, vn, vl, ↓reduceIte, Nat.reduceEqDiff, Nat.reduceAdd, Nat.reduceMul, Nat.reduceSub, Nat.reduceLeDiff, Nat.reduceLT, Nat.reduceBEq, Nat.reduceBNe, reduceCtorEq, Int.reduceBEq, Int.reduceBNe, Int.reduceLT, Int.reduceLE, Int.reduceEq, Int.reduceToNat, Int.reduceAdd, Int.reduceSub, Int.reduceNeg, A0], by simp +contextual only [vq, vc, ve, vv, vn, vl, ↓reduceIte, Nat.reduceEqDiff, Nat.reduceAdd, Nat.reduceMul, Nat.reduceSub, Nat.reduceLeDiff, Nat.reduceLT, Nat.reduceBEq, Nat.reduceBNe, reduceCtorEq, Int.reduceBEq, Int.reduceBNe, Int.reduceLT, Int.reduceLE, Int.reduceEq, Int.reduceToNat, Int.reduceAdd, Int.reduceSub, Int.reduceNeg, A1], by simp +contextual only [vq, vc, ve, vv, vn, vl, ↓reduceIte, Nat.reduceEqDiff, Nat.reduceAdd, Nat.reduceMul, Nat.reduceSub, Nat.reduceLeDiff, Nat.reduceLT, Nat.reduceBEq, Nat.reduceBNe, reduceCtorEq, Int.reduceBEq, Int.reduceBNe, Int.reduceLT, Int.reduceLE, Int.reduceEq, Int.reduceToNat, Int.reduceAdd, Int.reduceSub, Int.reduceNeg, A5], by simp +contextual only [vq, vc, ve, vv, vn, vl, ↓reduceIte, Nat.reduceEqDiff, Nat.reduceAdd, Nat.reduceMul, Nat.reduceSub, Nat.reduceLeDiff, Nat.reduceLT, Nat.reduceBEq, Nat.reduceBNe, reduceCtorEq, Int.reduceBEq, Int.reduceBNe, Int.reduceLT, Int.reduceLE, Int.reduceEq, Int.reduceToNat, Int.reduceAdd, Int.reduceSub, Int.reduceNeg, A6, ex], by simp +contextual only [vq, vc, ve, vv, vn, vl, ↓reduceIte, Nat.reduceEqDiff, Nat.reduceAdd, Nat.reduceMul, Nat.reduceSub, Nat.reduceLeDiff, Nat.reduceLT, Nat.reduceBEq, Nat.reduceBNe, reduceCtorEq, Int.reduceBEq, Int.reduceBNe, Int.reduceLT, Int.reduceLE, Int.reduceEq, Int.reduceToNat, Int.reduceAdd, Int.reduceSub, Int.reduceNeg, A7], by simp +contextual only [vq, vc, ve, vv, vn, vl, ↓reduceIte, Nat.reduceEqDiff, Nat.reduceAdd, Nat.reduceMul, Nat.reduceSub, Nat.reduceLeDiff, Nat.reduceLT, Nat.reduceBEq, Nat.reduceBNe, reduceCtorEq, Int.reduceBEq, Int.reduceBNe, Int.reduceLT, Int.reduceLE, Int.reduceEq, Int.reduceToNat, Int.reduceAdd, Int.reduceSub, Int.reduceNeg, A8], by simp +contextual only [vq, vc, ve, vv, vn, vl, ↓reduceIte, Nat.reduceEqDiff, Nat.reduceAdd, Nat.reduceMul, Nat.reduceSub, Nat.reduceLeDiff, Nat.reduceLT, Nat.reduceBEq, Nat.reduceBNe, reduceCtorEq, Int.reduceBEq, Int.reduceBNe, Int.reduceLT, Int.reduceLE, Int.reduceEq, Int.reduceToNat, Int.reduceAdd, Int.reduceSub, Int.reduceNeg], by simp +contextual only [vq, vc, ve, vv, vn, vl, ↓reduceIte, Nat.reduceEqDiff, Nat.reduceAdd, Nat.reduceMul, Nat.reduceSub, Nat.reduceLeDiff, Nat.reduceLT, Nat.reduceBEq, Nat.reduceBNe, reduceCtorEq, Int.reduceBEq, Int.reduceBNe, Int.reduceLT, Int.reduceLE, Int.reduceEq, Int.reduceToNat, Int.reduceAdd, Int.reduceSub, Int.reduceNeg], hout, hw, hki, hgN, hlN⟩
      | false =>
        simp +contextual only [vq, vc, ve, vv, vn, vl, ↓reduceIte, Nat.reduceEqDiff, Nat.reduceAdd, Nat.reduceMul, Nat.reduceSub, Nat.reduceLeDiff, Nat.reduceLT, Nat.reduceBEq, Nat.reduceBNe, reduceCtorEq, Int.reduceBEq, Int.reduceBNe, Int.reduceLT, Int.reduceLE, Int.reduceEq, Int.reduceToNat, Int.reduceAdd, Int.reduceSub, Int.reduceNeg, A0, A1, A6, A9, A10, hlt, hy, q1, hro, wsucc hlt (by omega)]
        exact again2 hJ ((lines s).length - (i + 1)) (by omega) ⟨i + 1, false, out, inner, k, es, ki, v, w, _, N, rfl, rfl, by omega, by rw [← hp]; simp only [partsOf, opM, hro], by omega, by omega, by omega, by simp +contextual only [vq, vc, ve, vv, vn, vl, ↓reduceIte, Nat.reduceEqDiff, Nat.reduceAdd, Nat.reduceMul, Nat.reduceSub, Nat.reduceLeDiff, Nat.reduceLT, Nat.reduceBEq, Nat.reduceBNe, reduceCtorEq, Int.reduceBEq, Int.reduceBNe, Int.reduceLT, Int.reduceLE, Int.reduceEq, Int.reduceToNat, Int.reduceAdd, Int.reduceSub, Int.reduceNeg, A0], by simp +contextual only [vq, vc, ve, vv, vn, vl, ↓reduceIte, Nat.reduceEqDiff, Nat.reduceAdd, Nat.reduceMul, Nat.reduceSub, Nat.reduceLeDiff, Nat.reduceLT, Nat.reduceBEq, Nat.reduceBNe, reduceCtorEq, Int.reduceBEq, Int.reduceBNe, Int.reduceLT, Int.reduceLE, Int.reduceEq, Int.reduceToNat, Int.reduceAdd, Int.reduceSub, Int.reduceNeg, A1], by simp +contextual only [vq, vc, ve, vv, vn, vl, ↓reduceIte, Nat.reduceEqDiff, Nat.reduceAdd, Nat.reduceMul, Nat.reduceSub, Nat.reduceLeDiff, Nat.reduceLT, Nat.reduceBEq, Nat.reduceBNe, reduceCtorEq, Int.reduceBEq, Int.reduceBNe, Int.reduceLT, Int.reduceLE, Int.reduceEq, Int.reduceToNat, Int.reduceAdd, Int.reduceSub, Int.reduceNeg, A5], by simp +contextual only [vq, vc, ve, vv, vn, vl, ↓reduceIte, Nat.reduceEqDiff, Nat.reduceAdd, Nat.reduceMul, Nat.reduceSub, Nat.reduceLeDiff, Nat.reduceLT, Nat.reduceBEq, Nat.reduceBNe, reduceCtorEq, Int.reduceBEq, Int.reduceBNe, Int.reduceLT, Int.reduceLE, Int.reduceEq, Int.reduceToNat, Int.reduceAdd, Int.reduceSub, Int.reduceNeg, A6, ex], by simp +contextual only [vq, vc, ve, vv, vn, vl, ↓reduceIte, Nat.reduceEqDiff, Nat.reduceAdd, Nat.reduceMul, Nat.reduceSub, Nat.reduceLeDiff, Nat.reduceLT, Nat.reduceBEq, Nat.reduceBNe, reduceCtorEq, Int.reduceBEq, Int.reduceBNe, Int.reduceLT, Int.reduceLE, Int.reduceEq, Int.reduceToNat, Int.reduceAdd, Int.reduceSub, Int.reduceNeg, A7], by simp +contextual only [vq, vc, ve, vv, vn, vl, ↓reduceIte, Nat.reduceEqDiff, Nat.reduceAdd, Nat.reduceMul, Nat.reduceSub, Nat.reduceLeDiff, Nat.reduceLT, Nat.reduceBEq, Nat.reduceBNe, reduceCtorEq, Int.reduceBEq, Int.reduceBNe, Int.reduceLT, Int.reduceLE, Int.reduceEq, Int.reduceToNat, Int.reduceAdd, Int.reduceSub, Int.reduceNeg, A8], by simp +contextual only [vq, vc, ve, vv, vn, vl, ↓reduceIte, Nat.reduceEqDiff, Nat.reduceAdd, Nat.reduceMul, Nat.reduceSub, Nat.reduceLeDiff, Nat.reduceLT, Nat.reduceBEq, Nat.reduceBNe, reduceCtorEq, Int.reduceBEq, Int.reduceBNe, Int.reduceLT, Int.reduceLE, Int.reduceEq, Int.reduceToNat, Int.reduceAdd, Int.reduceSub, Int.reduceNeg], by simp +contextual only [vq, vc, ve, vv, vn, vl, ↓reduceIte, Nat.reduceEqDiff, Nat.reduceAdd, Nat.reduceMul, Nat.reduceSub, Nat.reduceLeDiff, Nat.reduceLT, Nat.reduceBEq, Nat.reduceBNe, reduceCtorEq, Int.reduceBEq, Int.reduceBNe, Int.reduceLT, Int.reduceLE, Int.reduceEq, Int.reduceToNat, Int.reduceAdd, Int.reduceSub, Int.reduceNeg], hout, hw, hki, hgN, hlN⟩
    | true =>
      cases hro : (r == 45 :: 45 :: b) with
      | true =>
        obtain ⟨u, N1, kj, ua, uc, ue, hcJ, su, lJ, hnext⟩ := hand
        subst su
        simp +contextual only [vq, vc, ve, vv, vn, vl, ↓reduceIte, Nat.reduceEqDiff, Nat.reduceAdd, Nat.reduceMul, Nat.reduceSub, Nat.reduceLeDiff, Nat.reduceLT, Nat.reduceBEq, Nat.reduceBNe, reduceCtorEq, Int.reduceBEq, Int.reduceBNe, Int.reduceLT, Int.reduceLE, Int.reduceEq, Int.reduceToNat, Int.reduceAdd, Int.reduceSub, Int.reduceNeg, A0, A1, A6, A7, A8, A9, A10, hlt, hy, q1, hro, callR_val hcJ]
        refine new_mk fun N2 n2 => ?_
        obtain ⟨R2, v', N3, k', hap, ho3, g3, l3⟩ := hnext N2 n2
        simp +contextual only [vq, vc, ve, vv, vn, vl, ↓reduceIte, Nat.reduceEqDiff, Nat.reduceAdd, Nat.reduceMul, Nat.reduceSub, Nat.reduceLeDiff, Nat.reduceLT, Nat.reduceBEq, Nat.reduceBNe, reduceCtorEq, Int.reduceBEq, Int.reduceBNe, Int.reduceLT, Int.reduceLE, Int.reduceEq, Int.reduceToNat, Int.reduceAdd, Int.reduceSub, Int.reduceNeg, R2.getN (G := G), hap, A10, wsucc hlt (by omega)]
        exact again2 hJ ((lines s).length - (i + 1)) (by omega) ⟨i + 1, true, out ++ [join inner], [], k', _, none, v', _, _, N3, rfl, rfl, by omega, by rw [← hp]; simp [partsOf, opM, hro], by simp; omega, by simp, by simp [bulkL] at hbk ⊢; omega, by simp +contextual only [vq, vc, ve, vv, vn, vl, ↓reduceIte, Nat.reduceEqDiff, Nat.reduceAdd, Nat.reduceMul, Nat.reduceSub, Nat.reduceLeDiff, Nat.reduceLT, Nat.reduceBEq, Nat.reduceBNe, reduceCtorEq, Int.reduceBEq, Int.reduceBNe, Int.reduceLT, Int.reduceLE, Int.reduceEq, Int.reduceToNat, Int.reduceAdd, Int.reduceSub, Int.reduceNeg, A0], by simp +contextual only [vq, vc, ve, vv, vn, vl, ↓reduceIte, Nat.reduceEqDiff, Nat.reduceAdd, Nat.reduceMul, Nat.reduceSub, Nat.reduceLeDiff, Nat.reduceLT, Nat.reduceBEq, Nat.reduceBNe, reduceCtorEq, Int.reduceBEq, Int.reduceBNe, Int.reduceLT, Int.reduceLE, Int.reduceEq, Int.reduceToNat, Int.reduceAdd, Int.reduceSub, Int.reduceNeg, A1], by simp +contextual only [vq, vc, ve, vv, vn, vl, ↓reduceIte, Nat.reduceEqDiff, Nat.reduceAdd, Nat.reduceMul, Nat.reduceSub, Nat.reduceLeDiff, Nat.reduceLT, Nat.reduceBEq, Nat.reduceBNe, reduceCtorEq, Int.reduceBEq, Int.reduceBNe, Int.reduceLT, Int.reduceLE, Int.reduceEq, Int.reduceToNat, Int.reduceAdd, Int.reduceSub, Int.reduceNeg, A5], by simp +contextual only [vq, vc, ve, vv, vn, vl, ↓reduceIte, Nat.reduceEqDiff, Nat.reduceAdd, Nat.reduceMul, Nat.reduceSub, Nat.reduceLeDiff, Nat.reduceLT, Nat.reduceBEq, Nat.reduceBNe, reduceCtorEq, Int.reduceBEq, Int.reduceBNe, Int.reduceLT, Int.reduceLE, Int.reduceEq, Int.reduceToNat, Int.reduceAdd, Int.reduceSub, Int.reduceNeg, A6, ex], by simp +contextual only [vq, vc, ve, vv, vn, vl, ↓reduceIte, Nat.reduceEqDiff, Nat.reduceAdd, Nat.reduceMul, Nat.reduceSub, Nat.reduceLeDiff, Nat.reduceLT, Nat.reduceBEq, Nat.reduceBNe, reduceCtorEq, Int.reduceBEq, Int.reduceBNe, Int.reduceLT, Int.reduceLE, Int.reduceEq, Int.reduceToNat, Int.reduceAdd, Int.reduceSub, Int.reduceNeg], by simp +contextual only [vq, vc, ve, vv, vn, vl, ↓reduceIte, Nat.reduceEqDiff, Nat.reduceAdd, Nat.reduceMul, Nat.reduceSub, Nat.reduceLeDiff, Nat.reduceLT, Nat.reduceBEq, Nat.reduceBNe, reduceCtorEq, Int.reduceBEq, Int.reduceBNe, Int.reduceLT, Int.reduceLE, Int.reduceEq, Int.reduceToNat, Int.reduceAdd, Int.reduceSub, Int.reduceNeg], by simp +contextual only [vq, vc, ve, vv, vn, vl, ↓reduceIte, Nat.reduceEqDiff, Nat.reduceAdd, Nat.reduceMul, Nat.reduceSub, Nat.reduceLeDiff, Nat.reduceLT, Nat.reduceBEq, Nat.reduceBNe, reduceCtorEq, Int.reduceBEq, Int.reduceBNe, Int.reduceLT, Int.reduceLE, Int.reduceEq, Int.reduceToNat, Int.reduceAdd, Int.reduceSub, Int.reduceNeg, A9], by simp +contextual only [vq, vc, ve, vv, vn, vl, ↓reduceIte, Nat.reduceEqDiff, Nat.reduceAdd, Nat.reduceMul, Nat.reduceSub, Nat.reduceLeDiff, Nat.reduceLT, Nat.reduceBEq, Nat.reduceBNe, reduceCtorEq, Int.reduceBEq, Int.reduceBNe, Int.reduceLT, Int.reduceLE, Int.reduceEq, Int.reduceToNat, Int.reduceAdd, Int.reduceSub, Int.reduceNeg], ho3, Priv.nil, (fun _ h => by cases h), g3, l3⟩
      | false =>
        cases hrc : (r == 45 :: 45 :: (b ++ [45, 45])) with
        | true =>
          obtain ⟨u, N1, kj, ua, uc, ue, hcJ, su, lJ, hnext⟩ := hand
          subst su
          simp +contextual only [vq, vc, ve, vv, vn, vl, ↓reduceIte, Nat.reduceEqDiff, Nat.reduceAdd, Nat.reduceMul, Nat.reduceSub, Nat.reduceLeDiff, Nat.reduceLT, Nat.reduceBEq, Nat.reduceBNe, reduceCtorEq, Int.reduceBEq, Int.reduceBNe, Int.reduceLT, Int.reduceLE, Int.reduceEq, Int.reduceToNat, Int.reduceAdd, Int.reduceSub, Int.reduceNeg, A0, A1, A6, A7, A8, A9, A10, hlt, hy, q1, q2, hro, hrc, callR_val hcJ]
          refine new_mk fun N2 n2 => ?_
          obtain ⟨R2, v', N5, k', hap, ho5, g35, lw5⟩ := hnext N2 n2
          have hres : resParts s b = (out ++ [join inner], [.int .i64 0, .int .i64 0]) := by
            unfold resParts
            rw [← hp]
            simp [partsOf, opM, clM, hro, hrc]
          rw [hres]
          have RN := R1.grown g35
          obtain ⟨N6, w1, w2, w3, w4⟩ := putN_row (off := 0) (vs := [.int .i64 0, .int .i64 0]) RN (by simp)
          have w2 : RowIs N6 M.bl.length [.int .i64 0, .int .i64 0] := w2
          have ho6 := ho5.keep (N' := N6) fun j hj => w3.2 j (by have := (ho5.used hj).1; omega)
          have lw : m.bl.length ≤ N6.low := by omega
          have hle5 := g35.le
          have hl6 := w3.1
          have ho7 := ho6
          obtain ⟨xs, x1, x2, x3, x4, x5, x6⟩ := ho6
          rcases x3.row with ⟨_, _, h0⟩ | ⟨j, g, hk, rfl, _⟩
          · simp at h0
          have hjn := x4 j hk
          have hnr : noref m.bl.length (.tuple [.slice (some ⟨.mem j g, 0⟩) (out ++ [join inner]).length (out ++ [join inner]).length 1, .agg [.int .i64 0, .int .i64 0]]) = false := by
            simp [noref, norefs]
            omega
          simp +contextual only [vq, vc, ve, vv, vn, vl, ↓reduceIte, Nat.reduceEqDiff, Nat.reduceAdd, Nat.reduceMul, Nat.reduceSub, Nat.reduceLeDiff, Nat.reduceLT, Nat.reduceBEq, Nat.reduceBNe, reduceCtorEq, Int.reduceBEq, Int.reduceBNe, Int.reduceLT, Int.reduceLE, Int.reduceEq, Int.reduceToNat, Int.reduceAdd, Int.reduceSub, Int.reduceNeg, R2.getN (G := G), hap, A5, w1]
          exact postX_new (by simp +contextual only [vq, vc, ve, vv, vn, vl, ↓reduceIte, Nat.reduceEqDiff, Nat.reduceAdd, Nat.reduceMul, Nat.reduceSub, Nat.reduceLeDiff, Nat.reduceLT, Nat.reduceBEq, Nat.reduceBNe, reduceCtorEq, Int.reduceBEq, Int.reduceBNe, Int.reduceLT, Int.reduceLE, Int.reduceEq, Int.reduceToNat, Int.reduceAdd, Int.reduceSub, Int.reduceNeg, w2.getN (G := G), A5]) hnr ⟨_, ⟨N6.bl, min m.low N6.low⟩, k', _, rfl, grown_of (by simp only; omega) fun i hi => by
            simp only
            rw [w3.2 i (by omega), (((hg.trans g1).trans g2).trans g35).at hi], by simp only; omega, (ho7.weak (by omega)).keep fun j hj => rfl⟩
        | false =>
          simp +contextual only [vq, vc, ve, vv, vn, vl, ↓reduceIte, Nat.reduceEqDiff, Nat.reduceAdd, Nat.reduceMul, Nat.reduceSub, Nat.reduceLeDiff, Nat.reduceLT, Nat.reduceBEq, Nat.reduceBNe, reduceCtorEq, Int.reduceBEq, Int.reduceBNe, Int.reduceLT, Int.reduceLE, Int.reduceEq, Int.reduceToNat, Int.reduceAdd, Int.reduceSub, Int.reduceNeg, A0, A1, A6, A7, A8, A9, A10, hlt, hy, q1, q2, hro, hrc]
          refine new_mk fun N2 n2 => ?_
          have gN2 : Grown N N2 := by rw [n2]; exact Grown.rfl'.push
          have lN2 : m.bl.length ≤ N2.low := by rw [n2]; exact hlN
          have hleg := gN2.le
          have R2 : RowIs N2 N.bl.length [.str r] := by rw [n2]; exact row_push _ _
          have ho2 := hout.grown gN2
          obtain ⟨w', N3, ki', ha, hw3, hk3, hag, hl3, hlo3⟩ := (hw.grown gN2).app (G := G) (bytes := 16) (cnt := 1) (new := [.str r]) tagOk_0 (by omega) rfl (by omega)
          have hki3 : ∀ j, ki' = some j → M2.bl.length ≤ j ∧ ¬ Uses k es j := fun j hj => by
            rcases hk3 with h | ⟨_, h⟩
            · exact hki j (by rw [← h, hj])
            · rw [h] at hj
              cases hj
              exact ⟨by omega, fun hq => by have := (hout.used hq).2; omega⟩
          have g3 : Grown M2 N3 := grown_of (by omega) fun j hj => by
            rw [hag j (by omega) fun h => by have := (hki j h.symm).1; omega, (hgN.trans gN2).at hj]
          have ho3 := ho2.keep (N' := N3) fun j hj => hag j (ho2.used hj).2 fun h => (hki j h.symm).2 hj
          simp +contextual only [vq, vc, ve, vv, vn, vl, ↓reduceIte, Nat.reduceEqDiff, Nat.reduceAdd, Nat.reduceMul, Nat.reduceSub, Nat.reduceLeDiff, Nat.reduceLT, Nat.reduceBEq, Nat.reduceBNe, reduceCtorEq, Int.reduceBEq, Int.reduceBNe, Int.reduceLT, Int.reduceLE, Int.reduceEq, Int.reduceToNat, Int.reduceAdd, Int.reduceSub, Int.reduceNeg, R2.getN (G := G), ha, A9, A10, wsucc hlt (by omega)]
          exact again2 hJ ((lines s).length - (i + 1)) (by omega) ⟨i + 1, true, out, inner ++ [r], k, es, ki', v, w', _, N3, rfl, rfl, by omega, by rw [← hp]; simp [partsOf, opM, clM, hro, hrc], by omega, by simp; omega, by simp [bulkL] at hbk ⊢; omega, by simp +contextual only [vq, vc, ve, vv, vn, vl, ↓reduceIte, Nat.reduceEqDiff, Nat.reduceAdd, Nat.reduceMul, Nat.reduceSub, Nat.reduceLeDiff, Nat.reduceLT, Nat.reduceBEq, Nat.reduceBNe, reduceCtorEq, Int.reduceBEq, Int.reduceBNe, Int.reduceLT, Int.reduceLE, Int.reduceEq, Int.reduceToNat, Int.reduceAdd, Int.reduceSub, Int.reduceNeg, A0], by simp +contextual only [vq, vc, ve, vv, vn, vl, ↓reduceIte, Nat.reduceEqDiff, Nat.reduceAdd, Nat.reduceMul, Nat.reduceSub, Nat.reduceLeDiff, Nat.reduceLT, Nat.reduceBEq, Nat.reduceBNe, reduceCtorEq, Int.reduceBEq, Int.reduceBNe, Int.reduceLT, Int.reduceLE, Int.reduceEq, Int.reduceToNat, Int.reduceAdd, Int.reduceSub, Int.reduceNeg, A1], by simp +contextual only [vq, vc, ve, vv, vn, vl, ↓reduceIte, Nat.reduceEqDiff, Nat.reduceAdd, Nat.reduceMul, Nat.reduceSub, Nat.reduceLeDiff, Nat.reduceLT, Nat.reduceBEq, Nat.reduceBNe, reduceCtorEq, Int.reduceBEq, Int.reduceBNe, Int.reduceLT, Int.reduceLE, Int.reduceEq, Int.reduceToNat, Int.reduceAdd, Int.reduceSub, Int.reduceNeg, A5], by simp +contextual only [vq, vc, ve, vv, vn, vl, ↓reduceIte, Nat.reduceEqDiff, Nat.reduceAdd, Nat.reduceMul, Nat.reduceSub, Nat.reduceLeDiff, Nat.reduceLT, Nat.reduceBEq, Nat.reduceBNe, reduceCtorEq, Int.reduceBEq, Int.reduceBNe, Int.reduceLT, Int.reduceLE, Int.reduceEq, Int.reduceToNat, Int.reduceAdd, Int.reduceSub, Int.reduceNeg, A6, ex], by simp +contextual only [vq, vc, ve, vv, vn, vl, ↓reduceIte, Nat.reduceEqDiff, Nat.reduceAdd, Nat.reduceMul, Nat.reduceSub, Nat.reduceLeDiff, Nat.reduceLT, Nat.reduceBEq, Nat.reduceBNe, reduceCtorEq, Int.reduceBEq, Int.reduceBNe, Int.reduceLT, Int.reduceLE, Int.reduceEq, Int.reduceToNat, Int.reduceAdd, Int.reduceSub, Int.reduceNeg, A7], by simp +contextual only [vq, vc, ve, vv, vn, vl, ↓reduceIte, Nat.reduceEqDiff, Nat.reduceAdd, Nat.reduceMul, Nat.reduceSub, Nat.reduceLeDiff, Nat.reduceLT, Nat.reduceBEq, Nat.reduceBNe, reduceCtorEq, Int.reduceBEq, Int.reduceBNe, Int.reduceLT, Int.reduceLE, Int.reduceEq, Int.reduceToNat, Int.reduceAdd, Int.reduceSub, Int.reduceNeg], by simp +contextual only [vq, vc, ve, vv, vn, vl, ↓reduceIte, Nat.reduceEqDiff, Nat.reduceAdd, Nat.reduceMul, Nat.reduceSub, Nat.reduceLeDiff, Nat.reduceLT, Nat.reduceBEq, Nat.reduceBNe, reduceCtorEq, Int.reduceBEq, Int.reduceBNe, Int.reduceLT, Int.reduceLE, Int.reduceEq, Int.reduceToNat, Int.reduceAdd, Int.reduceSub, Int.reduceNeg], by simp +contextual only [vq, vc, ve, vv, vn, vl, ↓reduceIte, Nat.reduceEqDiff, Nat.reduceAdd, Nat.reduceMul, Nat.reduceSub, Nat.reduceLeDiff, Nat.reduceLT, Nat.reduceBEq, Nat.reduceBNe, reduceCtorEq, Int.reduceBEq, Int.reduceBNe, Int.reduceLT, Int.reduceLE, Int.reduceEq, Int.reduceToNat, Int.reduceAdd, Int.reduceSub, Int.reduceNeg], ho3, by simpa using hw3, hki3, g3, hlo3 _ lN2 (by omega) (fun j hj => by have := (hki j hj).1; omega)⟩
  · have hil : i = (lines s).length := by omega
    subst hil
    rw [List.drop_length] at hp
    have hres : resParts s b = ([], [.int .i64 300, .int .i64 (s.length : Nat)]) := by
      unfold resParts
      rw [← hp]
      cases inside <;> rfl
    rw [hres]
    obtain ⟨N1, w1, w2, w3, w4⟩ := putN_row (off := 0) (vs := [.int .i64 300, .int .i64 (s.length : Nat)]) (R1.grown hgN) (by simp)
    have w2 : RowIs N1 M.bl.length [.int .i64 300, .int .i64 (s.length : Nat)] := w2
    have lw : m.bl.length ≤ N1.low := by omega
    simp +contextual only [vq, vc, ve, vv, vn, vl, ↓reduceIte, Nat.reduceEqDiff, Nat.reduceAdd, Nat.reduceMul, Nat.reduceSub, Nat.reduceLeDiff, Nat.reduceLT, Nat.reduceBEq, Nat.reduceBNe, reduceCtorEq, Int.reduceBEq, Int.reduceBNe, Int.reduceLT, Int.reduceLE, Int.reduceEq, Int.reduceToNat, Int.reduceAdd, Int.reduceSub, Int.reduceNeg, A0, A5, A6, A10, lr, hlt, lx, w1]
    exact postX_same (v := .tuple [.slice none 0 0 0, .agg [.int .i64 300, .int .i64 (s.length : Nat)]]) (by simp +contextual only [vq, vc, ve, vv, vn, vl, ↓reduceIte, Nat.reduceEqDiff, Nat.reduceAdd, Nat.reduceMul, Nat.reduceSub, Nat.reduceLeDiff, Nat.reduceLT, Nat.reduceBEq, Nat.reduceBNe, reduceCtorEq, Int.reduceBEq, Int.reduceBNe, Int.reduceLT, Int.reduceLE, Int.reduceEq, Int.reduceToNat, Int.reduceAdd, Int.reduceSub, Int.reduceNeg, w2.getN (G := G), A5]) lw rfl ⟨_, m, none, [], rfl, Grown.rfl', by omega, Outs.nil⟩
end Go.Proofs.YtjlpfijbnflknaaDoor.bounceParts

namespace Go.Proofs.YtjlpfijbnflknaaDoor.bounceParts
open Go.Ev hiding Comes
variable [GG]

theorem c_l30_sameParts (m : Mem) (x y : EV) (l r : List (List UInt8)) (hx : ByteRows G m x l) (hy : ByteRows G m y r) (hl : l.length ≤ 1000000000000) (hr : r.length ≤ 1000000000000) :
    Go.Ev.Comes T G f_l30_sameParts [x, y] m none ⟨.val (.bool (l == r)), m, none⟩ := by
  refine comes2 T_l30_sameParts rfl fun M hg hlen hlow => ?_
  have hl0 : m.bl.length ≤ M.low := by omega
  have hx := hx.grown hg
  have hy := hy.grown hg
  obtain ⟨a1, c1, e1, sx⟩ := hx.slice
  obtain ⟨a2, c2, e2, sy⟩ := hy.slice
  have lx : lnbE x = some (.int .i64 l.length) := by rw [sx]; rfl
  have ly : lnbE y = some (.int .i64 r.length) := by rw [sy]; rfl
  simp only [F_l30_sameParts]
  by_cases hlr : l.length = r.length
  · have k0 : ((l.length : Int) != (r.length : Int)) = false := by rw [hlr]; simp
    simp +contextual only [vq, vc, ve, vv, vn, vl, ↓reduceIte, Nat.reduceEqDiff, Nat.reduceAdd, Nat.reduceMul, Nat.reduceSub, Nat.reduceLeDiff, Nat.reduceLT, Nat.reduceBEq, Nat.reduceBNe, reduceCtorEq, Int.reduceBEq, Int.reduceBNe, Int.reduceLT, Int.reduceLE, Int.reduceEq, Int.reduceToNat, Int.reduceAdd, Int.reduceSub, Int.reduceNeg, lx, ly, k0]
    refine loop2 (fun n st => ∃ (i : Nat) (A : Fr), st = ⟨A, M, [], none⟩ ∧ n = l.length - i ∧ i ≤ l.length ∧ A 0 = x ∧ A 1 = y ∧ A 12 = .int .i64 l.length ∧ A 13 = .int .i64 (i : Nat) ∧ l.take i = r.take i) l.length ⟨0, _, rfl, by omega, by omega, by simp +contextual only [vq, vc, ve, vv, vn, vl, ↓reduceIte, Nat.reduceEqDiff, Nat.reduceAdd, Nat.reduceMul, Nat.reduceSub, Nat.reduceLeDiff, Nat.reduceLT, Nat.reduceBEq, Nat.reduceBNe, reduceCtorEq, Int.reduceBEq, Int.reduceBNe, Int.reduceLT, Int.reduceLE, Int.reduceEq, Int.reduceToNat, Int.reduceAdd, Int.reduceSub, Int.reduceNeg], by simp +contextual only [vq, vc, ve, vv, vn, vl, ↓reduceIte, Nat.reduceEqDiff, Nat.reduceAdd, Nat.reduceMul, Nat.reduceSub, Nat.reduceLeDiff, Nat.reduceLT, Nat.reduceBEq, Nat.reduceBNe, reduceCtorEq, Int.reduceBEq, Int.reduceBNe, Int.reduceLT, Int.reduceLE, Int.reduceEq, Int.reduceToNat, Int.reduceAdd, Int.reduceSub, Int.reduceNeg], by simp +contextual only [vq, vc, ve, vv, vn, vl, ↓reduceIte, Nat.reduceEqDiff, Nat.reduceAdd, Nat.reduceMul, Nat.reduceSub, Nat.reduceLeDiff, Nat.reduceLT, Nat.reduceBEq, Nat.reduceBNe, reduceCtorEq, Int.reduceBEq, Int.reduceBNe, Int.reduceLT, Int.reduceLE, Int.reduceEq, Int.reduceToNat, Int.reduceAdd, Int.reduceSub, Int.reduceNeg], by simp +contextual only [vq, vc, ve, vv, vn, vl, ↓reduceIte, Nat.reduceEqDiff, Nat.reduceAdd, Nat.reduceMul, Nat.reduceSub, Nat.reduceLeDiff, Nat.reduceLT, Nat.reduceBEq, Nat.reduceBNe, reduceCtorEq, Int.reduceBEq, Int.reduceBNe, Int.reduceLT, Int.reduceLE, Int.reduceEq, Int.reduceToNat, Int.reduceAdd, Int.reduceSub, Int.reduceNeg]; rfl, rfl⟩ fun J hJ n st hI => ?_
    obtain ⟨i, A, rfl, rfl, hi, A0, A1, A12, A13, ht⟩ := hI
    by_cases hil : i < l.length
    · have hir : i < r.length := by omega
      obtain ⟨a, cap, u, ex, hu1, hu2, hu⟩ := hx.at hil
      obtain ⟨b, capb, w, ey, hw1, hw2, hw⟩ := hy.at hir
      rw [ex] at A0
      rw [ey] at A1
      have tu := (hu.low (k := M.bl.length)).tosF (n0 := M.bl.length) (Nat.le_refl _)
      have tw := (hw.low (k := M.bl.length)).tosF (n0 := M.bl.length) (Nat.le_refl _)
      have htk : (l.take (i + 1) = r.take (i + 1)) ↔ l[i] = r[i] := by
        rw [List.take_succ_eq_append_getElem hil, List.take_succ_eq_append_getElem hir, ht, List.append_right_inj]
        simp only [List.cons.injEq, and_true]
      cases hb : (l[i] == r[i]) with
      | false =>
        have e : (l == r) = false := by
          simp only [beq_eq_false_iff_ne, ne_eq]
          intro h
          subst h
          simp at hb
        simp +contextual only [vq, vc, ve, vv, vn, vl, ↓reduceIte, Nat.reduceEqDiff, Nat.reduceAdd, Nat.reduceMul, Nat.reduceSub, Nat.reduceLeDiff, Nat.reduceLT, Nat.reduceBEq, Nat.reduceBNe, reduceCtorEq, Int.reduceBEq, Int.reduceBNe, Int.reduceLT, Int.reduceLE, Int.reduceEq, Int.reduceToNat, Int.reduceAdd, Int.reduceSub, Int.reduceNeg, A0, A1, A12, A13, hil, hir, hu1, hw1, hu2, hw2, tu, tw, hb, e, hl0]
      | true =>
        have hb' : l[i] = r[i] := by simpa using hb
        simp +contextual only [vq, vc, ve, vv, vn, vl, ↓reduceIte, Nat.reduceEqDiff, Nat.reduceAdd, Nat.reduceMul, Nat.reduceSub, Nat.reduceLeDiff, Nat.reduceLT, Nat.reduceBEq, Nat.reduceBNe, reduceCtorEq, Int.reduceBEq, Int.reduceBNe, Int.reduceLT, Int.reduceLE, Int.reduceEq, Int.reduceToNat, Int.reduceAdd, Int.reduceSub, Int.reduceNeg, A0, A1, A12, A13, hil, hir, hu1, hw1, hu2, hw2, tu, tw, hb, wsucc hil (by omega)]
        exact again2 hJ (l.length - (i + 1)) (by omega) ⟨i + 1, _, rfl, rfl, by omega, by simp +contextual only [vq, vc, ve, vv, vn, vl, ↓reduceIte, Nat.reduceEqDiff, Nat.reduceAdd, Nat.reduceMul, Nat.reduceSub, Nat.reduceLeDiff, Nat.reduceLT, Nat.reduceBEq, Nat.reduceBNe, reduceCtorEq, Int.reduceBEq, Int.reduceBNe, Int.reduceLT, Int.reduceLE, Int.reduceEq, Int.reduceToNat, Int.reduceAdd, Int.reduceSub, Int.reduceNeg, A0, ex], by simp +contextual only [vq, vc, ve, vv, vn, vl, ↓reduceIte, Nat.reduceEqDiff, Nat.reduceAdd, Nat.reduceMul, Nat.reduceSub, Nat.reduceLeDiff, Nat.reduceLT, Nat.reduceBEq, Nat.reduceBNe, reduceCtorEq, Int.reduceBEq, Int.reduceBNe, Int.reduceLT, Int.reduceLE, Int.reduceEq, Int.reduceToNat, Int.reduceAdd, Int.reduceSub, Int.reduceNeg, A1, ey], by simp +contextual only [vq, vc, ve, vv, vn, vl, ↓reduceIte, Nat.reduceEqDiff, Nat.reduceAdd, Nat.reduceMul, Nat.reduceSub, Nat.reduceLeDiff, Nat.reduceLT, Nat.reduceBEq, Nat.reduceBNe, reduceCtorEq, Int.reduceBEq, Int.reduceBNe, Int.reduceLT, Int.reduceLE, Int.reduceEq, Int.reduceToNat, Int.reduceAdd, Int.reduceSub, Int.reduceNeg, A12], by simp +contextual only [vq, vc, ve, vv, vn, vl, ↓reduceIte, Nat.reduceEqDiff, Nat.reduceAdd, Nat.reduceMul, Nat.reduceSub, Nat.reduceLeDiff, Nat.reduceLT, Nat.reduceBEq, Nat.reduceBNe, reduceCtorEq, Int.reduceBEq, Int.reduceBNe, Int.reduceLT, Int.reduceLE, Int.reduceEq, Int.reduceToNat, Int.reduceAdd, Int.reduceSub, Int.reduceNeg], htk.2 hb'⟩
    · have : i = l.length := by omega
      subst this
      have e : (l == r) = true := by
        rw [List.take_length, hlr, List.take_length] at ht
        simp [ht]
      simp +contextual only [vq, vc, ve, vv, vn, vl, ↓reduceIte, Nat.reduceEqDiff, Nat.reduceAdd, Nat.reduceMul, Nat.reduceSub, Nat.reduceLeDiff, Nat.reduceLT, Nat.reduceBEq, Nat.reduceBNe, reduceCtorEq, Int.reduceBEq, Int.reduceBNe, Int.reduceLT, Int.reduceLE, Int.reduceEq, Int.reduceToNat, Int.reduceAdd, Int.reduceSub, Int.reduceNeg, A12, A13, hil, hl0, e]
  · have k0 : ((l.length : Int) != (r.length : Int)) = true := by simp; omega
    have e : (l == r) = false := by
      simp only [beq_eq_false_iff_ne, ne_eq]
      exact fun h => hlr (by rw [h])
    simp +contextual only [vq, vc, ve, vv, vn, vl, ↓reduceIte, Nat.reduceEqDiff, Nat.reduceAdd, Nat.reduceMul, Nat.reduceSub, Nat.reduceLeDiff, Nat.reduceLT, Nat.reduceBEq, Nat.reduceBNe, reduceCtorEq, Int.reduceBEq, Int.reduceBNe, Int.reduceLT, Int.reduceLE, Int.reduceEq, Int.reduceToNat, Int.reduceAdd, Int.reduceSub, Int.reduceNeg, lx, ly, k0, e, hl0]
end Go.Proofs.YtjlpfijbnflknaaDoor.bounceParts

namespace Go.Proofs.YtjlpfijbnflknaaDoor.bounceParts
open Go.Ev hiding Comes
variable [GG]

theorem c_l30_lent (m : Mem) (x : EV) (s : List UInt8) (hx : BytesAt G m x s) (hs : s.length ≤ 100000000) :
    ∃ v m' j t, Go.Ev.Comes T G f_l30_lent [x] m none ⟨.val v, m', none⟩ ∧ Grown m m' ∧ min m.low m.bl.length ≤ m'.low ∧ Priv (some j) 1 tagB m' v (bytesE (s ++ t)) (s ++ t).length ∧ m.bl.length ≤ j ∧ t.length = 300 := by
  suffices H : ∃ r, Go.Ev.Comes T G f_l30_lent [x] m none r ∧ ∃ v m' j t, r = ⟨.val v, m', none⟩ ∧ Grown m m' ∧ min m.low m.bl.length ≤ m'.low ∧ Priv (some j) 1 tagB m' v (bytesE (s ++ t)) (s ++ t).length ∧ m.bl.length ≤ j ∧ t.length = 300 by
    obtain ⟨_, hc, v, m', j, t, rfl, h⟩ := H
    exact ⟨v, m', j, t, hc, h⟩
  refine comes2P T_l30_lent rfl fun M hg hlen hlow => ?_
  have hl0 : m.bl.length ≤ M.low := by omega
  have hx := hx.grown hg
  simp only [F_l30_lent]
  simp +contextual only [vq, vc, ve, vv, vn, vl, ↓reduceIte, Nat.reduceEqDiff, Nat.reduceAdd, Nat.reduceMul, Nat.reduceSub, Nat.reduceLeDiff, Nat.reduceLT, Nat.reduceBEq, Nat.reduceBNe, reduceCtorEq, Int.reduceBEq, Int.reduceBNe, Int.reduceLT, Int.reduceLE, Int.reduceEq, Int.reduceToNat, Int.reduceAdd, Int.reduceSub, Int.reduceNeg]
  refine new_mk fun M1 e1 => ?_
  obtain ⟨v, M2, ha, hv, g2, l2⟩ := copy_lit e1 hx (by omega)
  simp +contextual only [vq, vc, ve, vv, vn, vl, ↓reduceIte, Nat.reduceEqDiff, Nat.reduceAdd, Nat.reduceMul, Nat.reduceSub, Nat.reduceLeDiff, Nat.reduceLT, Nat.reduceBEq, Nat.reduceBNe, reduceCtorEq, Int.reduceBEq, Int.reduceBNe, Int.reduceLT, Int.reduceLE, Int.reduceEq, Int.reduceToNat, Int.reduceAdd, Int.reduceSub, Int.reduceNeg, ha]
  refine loop2 (fun q st => ∃ (i : Nat) (t : List UInt8) (k : Option Nat) (v : EV) (A : Fr) (N : Mem), st = ⟨A, N, [], none⟩ ∧ q = 300 - i ∧ i ≤ 300 ∧ t.length = i ∧ A 3 = v ∧ A 4 = .int .i64 (i : Nat) ∧ Priv k 1 tagB N v (bytesE (s ++ t)) (s ++ t).length ∧ (∀ j, k = some j → M.bl.length ≤ j) ∧ Grown M N ∧ m.bl.length ≤ N.low) 300 ⟨0, [], some M.bl.length, v, _, M2, rfl, rfl, by omega, rfl, by simp +contextual only [vq, vc, ve, vv, vn, vl, ↓reduceIte, Nat.reduceEqDiff, Nat.reduceAdd, Nat.reduceMul, Nat.reduceSub, Nat.reduceLeDiff, Nat.reduceLT, Nat.reduceBEq, Nat.reduceBNe, reduceCtorEq, Int.reduceBEq, Int.reduceBNe, Int.reduceLT, Int.reduceLE, Int.reduceEq, Int.reduceToNat, Int.reduceAdd, Int.reduceSub, Int.reduceNeg], by simp +contextual only [vq, vc, ve, vv, vn, vl, ↓reduceIte, Nat.reduceEqDiff, Nat.reduceAdd, Nat.reduceMul, Nat.reduceSub, Nat.reduceLeDiff, Nat.reduceLT, Nat.reduceBEq, Nat.reduceBNe, reduceCtorEq, Int.reduceBEq, Int.reduceBNe, Int.reduceLT, Int.reduceLE, Int.reduceEq, Int.reduceToNat, Int.reduceAdd, Int.reduceSub, Int.reduceNeg]; rfl, by simpa using hv, fun j hj => by cases hj; exact Nat.le_refl _, g2, l2 _ hl0 (by omega)⟩ fun J hJ q st hI => ?_
  obtain ⟨i, t, k, v, A, N, rfl, rfl, hi, ht, A3, A4, hv, hk, hgN, hlN⟩ := hI
  have e300 : ((i : Int) < 300) = (i < 300) := propext (by omega)
  by_cases hlt : i < 300
  · have w1 : IntKind.i64.wrap (161 + (i : Int)) = ((161 + i : Nat) : Int) := wrap_of (by omega) (by omega)
    have w2 : IntKind.u8.wrap ((161 + i : Nat) : Int) = (((UInt8.ofNat (161 + i)).toNat : Nat) : Int) := by
      rw [UInt8.toNat_ofNat']
      simp [IntKind.wrap, IntKind.signed, IntKind.bits]
    simp +contextual only [vq, vc, ve, vv, vn, vl, ↓reduceIte, Nat.reduceEqDiff, Nat.reduceAdd, Nat.reduceMul, Nat.reduceSub, Nat.reduceLeDiff, Nat.reduceLT, Nat.reduceBEq, Nat.reduceBNe, reduceCtorEq, Int.reduceBEq, Int.reduceBNe, Int.reduceLT, Int.reduceLE, Int.reduceEq, Int.reduceToNat, Int.reduceAdd, Int.reduceSub, Int.reduceNeg, A3, A4, e300, hlt, w1, w2]
    refine new_mk fun N1 n1 => ?_
    have gN1 : Grown N N1 := by rw [n1]; exact Grown.rfl'.push
    have R1 : RowIs N1 N.bl.length [.int .u8 ((UInt8.ofNat (161 + i)).toNat : Nat)] := by rw [n1]; exact row_push _ _
    obtain ⟨v', N2, k', a2, p2, h2, g2, l2⟩ := priv_grow (hv.grown gN1) hk (hgN.trans gN1) (n1 := m.bl.length) (by omega) (by rw [n1]; exact hlN) [UInt8.ofNat (161 + i)] (by simp; omega)
    have a2 : appendE G N1 1 1 tagB v [.int .u8 ((UInt8.ofNat (161 + i)).toNat : Nat)] 1 = some (v', N2) := a2
    simp +contextual only [vq, vc, ve, vv, vn, vl, ↓reduceIte, Nat.reduceEqDiff, Nat.reduceAdd, Nat.reduceMul, Nat.reduceSub, Nat.reduceLeDiff, Nat.reduceLT, Nat.reduceBEq, Nat.reduceBNe, reduceCtorEq, Int.reduceBEq, Int.reduceBNe, Int.reduceLT, Int.reduceLE, Int.reduceEq, Int.reduceToNat, Int.reduceAdd, Int.reduceSub, Int.reduceNeg, R1.getN (G := G), a2, A4, wsucc hlt (by omega)]
    exact again2 hJ (300 - (i + 1)) (by omega) ⟨i + 1, t ++ [UInt8.ofNat (161 + i)], k', v', _, N2, rfl, rfl, by omega, by simp; omega, by simp +contextual only [vq, vc, ve, vv, vn, vl, ↓reduceIte, Nat.reduceEqDiff, Nat.reduceAdd, Nat.reduceMul, Nat.reduceSub, Nat.reduceLeDiff, Nat.reduceLT, Nat.reduceBEq, Nat.reduceBNe, reduceCtorEq, Int.reduceBEq, Int.reduceBNe, Int.reduceLT, Int.reduceLE, Int.reduceEq, Int.reduceToNat, Int.reduceAdd, Int.reduceSub, Int.reduceNeg], by simp +contextual only [vq, vc, ve, vv, vn, vl, ↓reduceIte, Nat.reduceEqDiff, Nat.reduceAdd, Nat.reduceMul, Nat.reduceSub, Nat.reduceLeDiff, Nat.reduceLT, Nat.reduceBEq, Nat.reduceBNe, reduceCtorEq, Int.reduceBEq, Int.reduceBNe, Int.reduceLT, Int.reduceLE, Int.reduceEq, Int.reduceToNat, Int.reduceAdd, Int.reduceSub, Int.reduceNeg], by simpa using p2, h2, g2, l2⟩
  · have hi3 : i = 300 := by omega
    subst hi3
    rcases hv.row with ⟨_, _, h0⟩ | ⟨j, g, hj, rfl, _⟩
    · rw [List.length_append] at h0
      omega
    have hjl := hk j hj
    subst hj
    simp +contextual only [vq, vc, ve, vv, vn, vl, ↓reduceIte, Nat.reduceEqDiff, Nat.reduceAdd, Nat.reduceMul, Nat.reduceSub, Nat.reduceLeDiff, Nat.reduceLT, Nat.reduceBEq, Nat.reduceBNe, reduceCtorEq, Int.reduceBEq, Int.reduceBNe, Int.reduceLT, Int.reduceLE, Int.reduceEq, Int.reduceToNat, Int.reduceAdd, Int.reduceSub, Int.reduceNeg, A3, A4, e300, hlt]
    exact postX_new (v := .slice (some ⟨.mem j g, 0⟩) (s ++ t).length (s ++ t).length 1) (by simp +contextual only [vq, vc, ve, vv, vn, vl, ↓reduceIte, Nat.reduceEqDiff, Nat.reduceAdd, Nat.reduceMul, Nat.reduceSub, Nat.reduceLeDiff, Nat.reduceLT, Nat.reduceBEq, Nat.reduceBNe, reduceCtorEq, Int.reduceBEq, Int.reduceBNe, Int.reduceLT, Int.reduceLE, Int.reduceEq, Int.reduceToNat, Int.reduceAdd, Int.reduceSub, Int.reduceNeg]) (by simp [noref]; omega) ⟨_, _, j, t, rfl, hg.trans hgN, by simp only; omega, hv.keep fun _ _ => rfl, by omega, ht⟩
end Go.Proofs.YtjlpfijbnflknaaDoor.bounceParts

namespace Go.Proofs.YtjlpfijbnflknaaDoor.bounceParts
open Go.Ev hiding Comes
variable [GG]

section
variable {n0 : Nat} {k : Option Nat} {es : List (Option Nat)} {N : Mem} {v : EV} {ll : List (List UInt8)}
/-- A row of bytes, wherever. -/
theorem Priv.rowG {j tag n : Nat} {m : Mem} {v : EV} {rows : List EV} {esz : Nat} (h : Priv (some j) esz tag m v rows n) : ∃ g, v = .slice (some ⟨.mem j g, 0⟩) n n esz ∧ RowG m j g rows ∧ Gok tag g n := let ⟨g, h1, h2, _, h4⟩ := h; ⟨g, h2, h4, h1⟩
/-- One of the elements. -/
theorem Outs.get (h : Outs n0 k es N v ll) {p : Nat} (hp : p < ll.length) : ∃ a u e, v = .slice (some a) ll.length ll.length 1 ∧ oldAd N.bl.length a = true ∧ N.get G (a.plus p) = some u ∧ es[p]? = some e ∧ Priv e 1 tagB N u (bytesE ll[p]) ll[p].length ∧ ∀ j, e = some j → n0 ≤ j ∧ k ≠ some j := by
  obtain ⟨xs, h1, h2, h3, h4, h5, h6⟩ := h
  cases k with
  | none => obtain ⟨_, _, h0⟩ := h3; omega
  | some kk =>
    obtain ⟨g, rfl, hr, _⟩ := Priv.rowG h3
    obtain ⟨a, b⟩ := h5 p _ _ _ (List.getElem?_eq_getElem (by omega)) (List.getElem?_eq_getElem hp) (List.getElem?_eq_getElem (by omega))
    refine ⟨⟨.mem kk g, 0⟩, _, _, rfl, by simpa [oldAd] using hr.lt, ?_, List.getElem?_eq_getElem (by omega), a, b⟩
    rw [Ad.plus, Nat.zero_add, hr.get]
    exact List.getElem?_eq_getElem (by omega)
/-- A byte of an element is written. -/
theorem Outs.poke (h : Outs n0 k es N v ll) {p i : Nat} (hp : p < ll.length) (hi : i < ll[p].length) (c : UInt8) :
    ∃ a b, v = .slice (some a) ll.length ll.length 1 ∧ oldAd N.bl.length a = true ∧ N.get G (a.plus p) = some (.slice (some b) ll[p].length ll[p].length 1) ∧ N.get G (b.plus i) = some (byteE ll[p][i]) ∧ ∃ N', N.put1 (b.plus i) (byteE c) = some N' ∧ Outs n0 k es N' v (ll.set p (ll[p].set i c)) ∧ N'.bl.length = N.bl.length ∧ (∀ j, ¬ Uses k es j → N'.bl[j]? = N.bl[j]?) ∧ ∀ n1, n1 ≤ n0 → n1 ≤ N.low → n1 ≤ N'.low := by
  obtain ⟨a, u, e, hv, hoa, hu, he, hpr, hej⟩ := h.get hp
  cases e with
  | none => obtain ⟨_, _, h0⟩ := hpr; omega
  | some j =>
    obtain ⟨g, rfl, hr, hgk⟩ := Priv.rowG hpr
    obtain ⟨hn0, hkj⟩ := hej j rfl
    obtain ⟨N', w1, w2, w3, w4⟩ := hr.put1 (off := i) (v := byteE c) (by rw [bytes_len]; exact hi)
    refine ⟨a, ⟨.mem j g, 0⟩, hv, hoa, hu, ?_, N', by rw [Ad.plus, Nat.zero_add]; exact w1, ?_, w3.1, fun i hi => w3.2 i fun hq => hi (.inr (by rw [hq]; exact List.mem_of_getElem? he)), fun n1 h1 h2 => by omega⟩
    · rw [Ad.plus, Nat.zero_add, hr.get]
      simp [bytesE, hi]
    obtain ⟨xs, x1, x2, x3, x4, x5, x6⟩ := h
    have hset : (bytesE ll[p]).set i (byteE c) = bytesE (ll[p].set i c) := by simp [bytesE, List.map_set]
    rw [hset] at w2
    refine ⟨xs, by simp [x1], by simp [x2], by simpa using x3.keep fun q hq => w3.2 q fun hqj => hkj (by rw [hq, hqj]), x4, fun q w t f hw ht hf => ?_, x6⟩
    by_cases hqp : q = p
    · subst hqp
      rw [List.getElem?_set_self hp] at ht
      cases ht
      rw [he] at hf
      cases hf
      refine ⟨⟨g, by simpa using hgk, ?_, by simp [bytesE], w2⟩, fun j hj => by cases hj; exact ⟨hn0, hkj⟩⟩
      obtain ⟨aa, bb⟩ := x5 q w ll[q] _ hw (List.getElem?_eq_getElem hp) he
      obtain ⟨g2, e2, hr2, _⟩ := Priv.rowG aa
      rw [e2]
      have : g2 = g := by
        have h1 : N.bl[j]? = _ := hr2
        have h2 : N.bl[j]? = _ := hr
        rw [h1] at h2
        simpa using h2
      simp [this]
    · rw [List.getElem?_set_ne (by omega)] at ht
      obtain ⟨aa, bb⟩ := x5 q w t f hw ht hf
      exact ⟨aa.keep fun r hr2 => w3.2 r fun hrj => hqp (by subst hr2 hrj; exact x6 q p _ hf he), bb⟩
/-- A byte is put behind an element. -/
theorem Outs.push1 {N1 : Mem} (h : Outs n0 k es N v ll) {p : Nat} (hp : p < ll.length) (c : UInt8) (n1 : N1 = N.push (.cells [byteE c] 0 true)) (h0 : n0 ≤ N.bl.length) (hs : ll[p].length ≤ 1000000000) :
    ∃ a u, v = .slice (some a) ll.length ll.length 1 ∧ oldAd N.bl.length a = true ∧ N.get G (a.plus p) = some u ∧ RowIs N1 N.bl.length [byteE c] ∧ ∃ b d e N2, appendE G N1 1 1 tagB u [byteE c] 1 = some (.slice b (ll[p].length + 1) d e, N2) ∧ ∃ N3 es', N2.put1 (a.plus p) (.slice b (ll[p].length + 1) d e) = some N3 ∧ Outs n0 k es' N3 v (ll.set p (ll[p] ++ [c])) ∧ (∀ j, Uses k es' j → Uses k es j ∨ N.bl.length ≤ j) ∧ N.bl.length ≤ N3.bl.length ∧ (∀ j, j < N.bl.length → ¬ Uses k es j → N3.bl[j]? = N.bl[j]?) ∧ ∀ n1, n1 ≤ n0 → n1 ≤ N.low → n1 ≤ N3.low := by
  obtain ⟨a, u, e, hv, hoa, hu, he, hpr, hej⟩ := h.get hp
  have gN1 : Grown N N1 := by rw [n1]; exact Grown.rfl'.push
  have l1 : N1.bl.length = N.bl.length + 1 := by rw [n1]; simp [Mem.push]
  have w1 : N1.low = N.low := by rw [n1]; rfl
  obtain ⟨u', N2, e', ha, hp2, hee, hj, hle, hw⟩ := (hpr.grown gN1).app (G := G) (bytes := 1) (cnt := 1) (new := [byteE c]) tagB_ok' (by omega) rfl (by omega)
  have hbb : bytesE ll[p] ++ [byteE c] = bytesE (ll[p] ++ [c]) := by simp [bytesE]
  rw [hbb] at hp2
  obtain ⟨b, d, ee, su⟩ := hp2.slice
  subst su
  obtain ⟨xs, x1, x2, x3, x4, x5, x6⟩ := h
  have hused : ∀ j, Uses k es j → n0 ≤ j ∧ j < N.bl.length := fun j hj => Outs.used (⟨xs, x1, x2, x3, x4, x5, x6⟩ : Outs n0 k es N v ll) hj
  cases k with
  | none => obtain ⟨_, _, h0⟩ := x3; omega
  | some kk =>
    obtain ⟨g, hv2, hr, hgk⟩ := Priv.rowG x3
    have hea : a = ⟨.mem kk g, 0⟩ := by rw [hv] at hv2; simpa using hv2
    subst hea
    have hkn := x4 kk rfl
    have hkl := x3.lt
    have hek : ∀ j, e' = some j → n0 ≤ j ∧ some kk ≠ some j ∧ (some j = e ∨ j = N1.bl.length) := fun j hj' => by
      rcases hee with h | ⟨_, h⟩
      · have := hej j (by rw [← h, hj'])
        exact ⟨this.1, this.2, .inl (by rw [← hj', h])⟩
      · rw [h] at hj'
        cases hj'
        exact ⟨by omega, (by simp; omega), .inr rfl⟩
    have hr2 : RowG N2 kk g xs := by
      have : N2.bl[kk]? = N1.bl[kk]? := hj kk (by omega) fun hq => (hej kk hq.symm).2 rfl
      unfold RowG
      rw [this, gN1.at hkl]
      exact hr
    obtain ⟨N3, z1, z2, z3, z4⟩ := hr2.put1 (off := p) (v := .slice b (ll[p].length + 1) d ee) (by omega)
    have agree : ∀ j, j < N.bl.length → ¬ Uses (some kk) es j → N3.bl[j]? = N.bl[j]? := fun j h1 h2 => by
      rw [z3.2 j fun hq => h2 (.inl (by rw [hq])), hj j (by omega) fun hq => h2 (.inr (by rw [hq]; exact List.mem_of_getElem? he)), gN1.at h1]
    refine ⟨_, u, hv, hoa, hu, by rw [n1]; exact row_push _ _, b, d, ee, N2, ha, N3, es.set p e', by rw [Ad.plus, Nat.zero_add]; exact z1, ⟨xs.set p (.slice b (ll[p].length + 1) d ee), by simp [x1], by simp [x2], ?_, x4, fun q w t f hw' ht hf => ?_, fun q r j hq hr' => ?_⟩, fun j hj' => ?_, by have := z3.1; omega, agree, fun n1 h1 h2 => by
      have := hw n1 (by omega) (by omega) fun j hj' => by have := hej j hj'; omega
      omega⟩
    · refine ⟨g, by simpa using hgk, by simpa using hv2, by simp [x1], ?_⟩
      exact z2
    · by_cases hqp : q = p
      · subst hqp
        rw [List.getElem?_set_self (by omega)] at hw' hf
        rw [List.getElem?_set_self hp] at ht
        cases hw'
        cases ht
        cases hf
        refine ⟨?_, fun j hj' => ⟨(hek j hj').1, (hek j hj').2.1⟩⟩
        rw [List.length_append]
        exact hp2.keep fun j hj' => z3.2 j fun hq => (hek j hj').2.1 (by rw [hq])
      · rw [List.getElem?_set_ne (by omega)] at hw' ht hf
        obtain ⟨aa, bb⟩ := x5 q w t f hw' ht hf
        refine ⟨aa.keep fun j hj' => ?_, bb⟩
        have hjN := aa.ltk hj'
        rw [z3.2 j fun hq => (bb j hj').2 (by rw [hq]), hj j (by omega) fun hq => hqp (by subst hj'; rw [← hq] at he; exact x6 q p j hf he), gN1.at hjN]
    · have one : ∀ q, (es.set p e')[q]? = some (some j) → q = p ∨ es[q]? = some (some j) := fun q hq => by
        by_cases hqp : q = p
        · exact .inl hqp
        · rw [List.getElem?_set_ne (by omega)] at hq
          exact .inr hq
      have atp : ∀ q, (es.set p e')[q]? = some (some j) → q = p → (some j = e ∨ j = N1.bl.length) := fun q hq hqp => by
        subst hqp
        rw [List.getElem?_set_self (by omega)] at hq
        cases hq
        exact (hek j rfl).2.2
      by_cases h1 : q = p
      · by_cases h2 : r = p
        · rw [h1, h2]
        · have hr2 := (one r hr').resolve_left h2
          rcases atp q hq h1 with h | h
          · rw [← h] at he
            exact absurd (x6 p r j he hr2) fun hx => h2 hx.symm
          · have := (hused j (.inr (List.mem_of_getElem? hr2))).2
            omega
      · have hq2 := (one q hq).resolve_left h1
        by_cases h2 : r = p
        · rcases atp r hr' h2 with h | h
          · rw [← h] at he
            exact absurd (x6 p q j he hq2) fun hx => h1 hx.symm
          · have := (hused j (.inr (List.mem_of_getElem? hq2))).2
            omega
        · exact x6 q r j hq2 ((one r hr').resolve_left h2)
    · rcases hj' with hj' | hj'
      · exact .inl (.inl hj')
      · obtain ⟨q, hq⟩ := List.getElem?_of_mem hj'
        by_cases hqp : q = p
        · subst hqp
          rw [List.getElem?_set_self (by omega)] at hq
          cases hq
          rcases (hek j rfl).2.2 with h | h
          · exact .inl (.inr (by rw [h]; exact List.mem_of_getElem? he))
          · exact .inr (by omega)
        · rw [List.getElem?_set_ne (by omega)] at hq
          exact .inl (.inr (List.mem_of_getElem? hq))
end
end Go.Proofs.YtjlpfijbnflknaaDoor.bounceParts

namespace Go.Proofs.YtjlpfijbnflknaaDoor.bounceParts
open Go.Ev hiding Comes
variable [GG]

theorem sits_byte {N : Nat} {m : Mem} {r : List EV} (h : Sits N m (.int .u8) r) : ∃ b : UInt8, r = [byteE b] ∧ True := by
  obtain ⟨n, rfl, h1, h2⟩ := sits_int h
  have h1 : 0 ≤ n := h1
  have h2 : n ≤ 255 := h2
  refine ⟨UInt8.ofNat n.toNat, ?_, trivial⟩
  have : (UInt8.ofNat n.toNat).toNat = n.toNat := by
    rw [UInt8.toNat_ofNat']
    omega
  unfold byteE
  rw [this, Int.toNat_of_nonneg h1]
/-- A slice of bytes. -/
theorem sits_bytes {N : Nat} {m : Mem} {xs : List EV} (h : Sits N m (.slice (.int .u8)) xs) : ∃ v s, xs = [v] ∧ BytesAt G m v s ∧ s.length ≤ N := by
  obtain ⟨v, rows, rfl, h1, h2, h3⟩ := sits_slice (G := G) h
  obtain ⟨l, rfl, _⟩ := rows_of (fun r hr => sits_byte (h3 r hr))
  have e : (l.map fun b => [byteE b]) = (bytesE l).map fun x => [x] := by simp [bytesE]
  rw [e] at h1
  exact ⟨v, l, rfl, lent_bytesAt (n0 := 0) (n1 := 0) (mark := []) h1, by simpa using h2⟩
/-- A slice of slices of bytes. -/
theorem sits_byteRows {N : Nat} {m : Mem} {xs : List EV} (h : Sits N m (.slice (.slice (.int .u8))) xs) : ∃ v ll, xs = [v] ∧ ByteRows G m v ll ∧ ll.length ≤ N ∧ ∀ s ∈ ll, s.length ≤ N := by
  obtain ⟨v, rows, rfl, h1, h2, h3⟩ := sits_slice (G := G) h
  obtain ⟨l, rfl, h4⟩ := rows_of (α := EV × List UInt8) (f := fun p => [p.1]) (Q := fun p => BytesAt G m p.1 p.2 ∧ p.2.length ≤ N) (fun r hr => by
    obtain ⟨v, s, rfl, h5, h6⟩ := sits_bytes (h3 r hr)
    exact ⟨(v, s), rfl, h5, h6⟩)
  refine ⟨v, l.map (·.2), rfl, ⟨l.map (·.1), by simp, ?_, fun i x s hx hs => ?_⟩, by simpa using h2, fun s hs => ?_⟩
  · rw [List.map_map]
    exact h1
  · rw [List.getElem?_map, Option.map_eq_some_iff] at hx hs
    obtain ⟨p, hp, rfl⟩ := hx
    obtain ⟨q, hq, rfl⟩ := hs
    rw [hp] at hq
    cases hq
    exact (h4 p (List.mem_of_getElem? hp)).1
  · obtain ⟨p, hp, rfl⟩ := List.mem_map.1 hs
    exact (h4 p hp).2
end Go.Proofs.YtjlpfijbnflknaaDoor.bounceParts

namespace Go.Proofs.YtjlpfijbnflknaaDoor.bounceParts
open Go.Ev hiding Comes
variable [GG]

theorem pair_store {m M : Mem} {a b : EV} {x y : EV} (e : M = m.push (.cells [x, y] 0 true)) : ∃ M', M.putN ⟨.mem m.bl.length 0, 0⟩ [a, b] = some M' ∧ RowIs M' m.bl.length [a, b] ∧ Grown m M' ∧ M'.low = min m.low m.bl.length := by
  have R : RowIs M m.bl.length [x, y] := by rw [e]; exact row_push _ _
  have l1 : M.low = m.low := by rw [e]; rfl
  obtain ⟨M', w1, w2, w3, w4⟩ := putN_row (off := 0) (vs := [a, b]) R (by simp)
  have g : Grown m M := by rw [e]; exact Grown.rfl'.push
  have hl := g.le
  exact ⟨M', w1, w2, grown_of (by have := w3.1; omega) fun j hj => by rw [w3.2 j (by omega), g.at hj], by omega⟩
theorem rowG_all {m : Mem} {b g n : Nat} {cs : List EV} (h : RowG m b g cs) (hn : n = cs.length) : m.getN G ⟨.mem b g, 0⟩ n = some cs := by
  subst hn
  have h : m.bl[b]? = some (.cells cs g true) := h
  unfold Mem.getN
  split
  · rename_i h0
    rw [List.length_eq_zero_iff.1 h0]
  · simp only [Mem.row, h, if_true, Option.bind_some, Nat.zero_add, Nat.le_refl, List.drop_zero, List.take_length]
theorem parts_num {op cl : List UInt8} : ∀ (ls : List (List UInt8)) (ins : Bool) (out inner ll : List (List UInt8)), partsOf op cl ls ins out inner = some ll → ll.length ≤ out.length + ls.length
  | [], _, _, _, _, h => by simp [partsOf] at h
  | r :: ls, false, out, inner, ll, h => by
    have := parts_num ls _ _ _ _ h
    simp; omega
  | r :: ls, true, out, inner, ll, h => by
    simp only [partsOf] at h
    split at h
    · split at h
      · have := parts_num ls _ _ _ _ h
        simp at this ⊢; omega
      · cases h
        simp
    · have := parts_num ls _ _ _ _ h
      simp; omega
theorem res_num (s b : List UInt8) : 2 * (resParts s b).1.length ≤ s.length + 2 := by
  have hbk := bulk_lines _ s (Nat.le_refl _)
  have hll : 2 * (lines s).length ≤ bulkL (lines s) := by
    generalize lines s = l
    induction l with
    | nil => simp
    | cons x l ih => simp [bulkL] at ih ⊢; omega
  unfold resParts
  split
  · rename_i ll h
    have := parts_num _ _ _ _ _ h
    simp at this ⊢
    omega
  · simp
theorem parts_each {op cl : List UInt8} {B : Nat} : ∀ (ls : List (List UInt8)) (ins : Bool) (out inner ll : List (List UInt8)), partsOf op cl ls ins out inner = some ll → (∀ x ∈ out, x.length ≤ B) → bulkL inner + bulkL ls ≤ B → ∀ x ∈ ll, x.length ≤ B
  | [], _, _, _, _, h, _, _ => by simp [partsOf] at h
  | r :: ls, false, out, inner, ll, h, ho, hb => parts_each ls _ _ _ _ h ho (by simp [bulkL] at hb ⊢; omega)
  | r :: ls, true, out, inner, ll, h, ho, hb => by
    have hj := join_len (l := inner)
    have ho2 : ∀ x ∈ out ++ [join inner], x.length ≤ B := fun x hx => by
      rcases List.mem_append.1 hx with hx | hx
      · exact ho x hx
      · simp at hx
        subst hx
        simp [bulkL] at hb hj ⊢
        omega
    simp only [partsOf] at h
    split at h
    · split at h
      · exact parts_each ls _ _ _ _ h ho2 (by simp [bulkL] at hb ⊢; omega)
      · cases h
        exact ho2
    · exact parts_each ls _ _ _ _ h ho (by simp [bulkL] at hb ⊢; omega)
theorem res_each (s b : List UInt8) : ∀ x ∈ (resParts s b).1, x.length ≤ s.length + 2 := by
  have hbk := bulk_lines _ s (Nat.le_refl _)
  unfold resParts
  split
  · rename_i ll h
    exact parts_each _ _ _ _ _ h (by simp) (by simp [bulkL] at hbk ⊢; omega)
  · simp
def col (i : Nat) : UInt8 := UInt8.ofNat (200 + i % 50)
theorem col_nat (i : Nat) : (col i).toNat = 200 + i % 50 := by
  unfold col
  rw [UInt8.toNat_ofNat']
  omega
/-- The first i lists bear their colour. -/
def Col (i : Nat) (cur : List (List UInt8)) : Prop := ∀ (p : Nat) (l : List UInt8), cur[p]? = some l → p < i → ∀ (q : Nat) (c : UInt8), l[q]? = some c → c = col p
/-- How much was put behind. -/
def ext (i z p : Nat) : Nat := if p < i then 20 else if p = i then z else 0
theorem ext_self (i z : Nat) : ext i z i = z := by simp [ext]
theorem ext_ne {i z z' p : Nat} (h : p ≠ i) : ext i z p = ext i z' p := by simp [ext, h]
theorem ext_next (i p : Nat) : ext i 20 p = ext (i + 1) 0 p := by
  unfold ext
  by_cases h1 : p < i
  · rw [if_pos h1, if_pos (by omega)]
  · rw [if_neg h1]
    by_cases h2 : p = i
    · rw [if_pos h2, if_pos (by omega)]
    · rw [if_neg h2, if_neg (by omega), ite_self]
theorem ext_le (i z p : Nat) (hz : z ≤ 20) : ext i z p ≤ 20 := by
  unfold ext
  split
  · omega
  · split <;> omega
/-- As Col, but for what was put behind. -/
def Col2 (B i z : Nat) (cur : List (List UInt8)) : Prop := ∀ (p : Nat) (l : List UInt8), cur[p]? = some l → ext i z p ≤ l.length ∧ l.length ≤ B + ext i z p ∧ ∀ (q : Nat) (c : UInt8), q + ext i z p < l.length → l[q]? = some c → c = col p
theorem Col2.push {B i z : Nat} {cur : List (List UInt8)} (h : Col2 B i z cur) (hi : i < cur.length) (c0 : UInt8) : Col2 B i (z + 1) (cur.set i (cur[i] ++ [c0])) := fun p l hp => by
  by_cases hpi : p = i
  · subst hpi
    rw [List.getElem?_set_self hi] at hp
    cases hp
    obtain ⟨h1, h2, h3⟩ := h p _ (List.getElem?_eq_getElem hi)
    rw [ext_self] at h1 h2 h3 ⊢
    refine ⟨by simp; omega, by simp; omega, fun q c hq hc => ?_⟩
    rw [List.length_append] at hq
    simp only [List.length_cons, List.length_nil] at hq
    rw [List.getElem?_append_left (by omega)] at hc
    exact h3 q c (by omega) hc
  · rw [List.getElem?_set_ne (by omega)] at hp
    rw [ext_ne (z' := z) hpi]
    exact h p l hp
theorem Col2.next {B i : Nat} {cur : List (List UInt8)} (h : Col2 B i 20 cur) : Col2 B (i + 1) 0 cur := fun p l hp => by
  rw [← ext_next]
  exact h p l hp
theorem res_pair (s b : List UInt8) : ∃ p q : Int, (resParts s b).2 = [.int .i64 p, .int .i64 q] := by
  unfold resParts
  split
  · exact ⟨_, _, rfl⟩
  · exact ⟨_, _, rfl⟩
set_option maxHeartbeats 2000000 in
theorem law (m : Mem) (x : EV) (s b : List UInt8) (hx : BytesAt G m x s) (hs : s.length ≤ 2000000) (hb : b.length ≤ 2000000) :
    Go.Ev.Comes T G f_l30_BounceParts [x, .str b] m none ⟨.val (.bool true), m, none⟩ := by
  refine comes2 T_l30_BounceParts rfl fun M hg hlen hlow => ?_
  have hl0 : m.bl.length ≤ M.low := by omega
  have hx := hx.grown hg
  obtain ⟨a0, c0, e0, sx⟩ := hx.slice
  have lx : lnbE x = some (.int .i64 s.length) := by rw [sx]; rfl
  obtain ⟨ep, eq, her⟩ := res_pair s b
  obtain ⟨v5, M1, k5, es5, hc5, g1, l1, ho5⟩ := c_r30_Parts M x s b hx (by omega) (by omega)
  rw [her] at hc5
  simp only [F_l30_BounceParts]
  simp +contextual only [vq, vc, ve, vv, vn, vl, ↓reduceIte, Nat.reduceEqDiff, Nat.reduceAdd, Nat.reduceMul, Nat.reduceSub, Nat.reduceLeDiff, Nat.reduceLT, Nat.reduceBEq, Nat.reduceBNe, reduceCtorEq, Int.reduceBEq, Int.reduceBNe, Int.reduceLT, Int.reduceLE, Int.reduceEq, Int.reduceToNat, Int.reduceAdd, Int.reduceSub, Int.reduceNeg, callR_val hc5]
  refine new_mk fun M2 e2 => ?_
  obtain ⟨M3, w3, R6, g3, l3⟩ := pair_store (a := .int .i64 ep) (b := .int .i64 eq) e2
  have gM3 := g1.trans g3
  obtain ⟨v7, M4, j7, t7, hc7, g4, l4, hp7, hj7, ht7⟩ := c_l30_lent M3 x s (hx.grown gM3) (by omega)
  obtain ⟨gn7, sv7, hr7, _⟩ := Priv.rowG hp7
  have hB7 := hp7.bytes (G := G)
  rw [sv7] at hc7 hB7
  have hl7 : (s ++ t7).length = s.length + 300 := by rw [List.length_append, ht7]
  have hg7 := rowG_all hr7 (n := (s ++ t7).length) bytes_len.symm
  have ho7 : oldAd M4.bl.length ⟨.mem j7 gn7, 0⟩ = true := by simpa [oldAd] using hr7.lt
  have hB5 := bytes_take (h := s.length) (Nat.le_refl _) ho7 hg7 (by omega)
  rw [List.take_left] at hB5
  have k1 : s.length ≤ (s ++ t7).length := by omega
  obtain ⟨v9, M5, k9, es9, hc9, g5, l5, ho9⟩ := c_bounce_Parts M4 _ s b hB5 (by omega) (by omega)
  rw [her] at hc9
  simp +contextual only [vq, vc, ve, vv, vn, vl, ↓reduceIte, Nat.reduceEqDiff, Nat.reduceAdd, Nat.reduceMul, Nat.reduceSub, Nat.reduceLeDiff, Nat.reduceLT, Nat.reduceBEq, Nat.reduceBNe, reduceCtorEq, Int.reduceBEq, Int.reduceBNe, Int.reduceLT, Int.reduceLE, Int.reduceEq, Int.reduceToNat, Int.reduceAdd, Int.reduceSub, Int.reduceNeg, w3, callR_val hc7, hg7, lx, k1, callR_val hc9]
  refine new_mk fun M6 e6 => ?_
  obtain ⟨M7, w7, R10, g7, l7⟩ := pair_store (a := .int .i64 ep) (b := .int .i64 eq) e6
  obtain ⟨v11, M8, k11, es11, hc11, g8, l8, ho11⟩ := c_bounce_Parts M7 _ s b ((hB5.grown g5).grown g7) (by omega) (by omega)
  rw [her] at hc11
  simp +contextual only [vq, vc, ve, vv, vn, vl, ↓reduceIte, Nat.reduceEqDiff, Nat.reduceAdd, Nat.reduceMul, Nat.reduceSub, Nat.reduceLeDiff, Nat.reduceLT, Nat.reduceBEq, Nat.reduceBNe, reduceCtorEq, Int.reduceBEq, Int.reduceBNe, Int.reduceLT, Int.reduceLE, Int.reduceEq, Int.reduceToNat, Int.reduceAdd, Int.reduceSub, Int.reduceNeg, w7, lx, k1, callR_val hc11]
  refine new_mk fun M9 e9 => ?_
  obtain ⟨M10, w10, R12, g10, l10⟩ := pair_store (a := .int .i64 ep) (b := .int .i64 eq) e9
  have gA := (g7.trans g8).trans g10
  have gB := (g4.trans g5).trans gA
  have R6' := R6.grown gB
  have R10' := R10.grown (g8.trans g10)
  have h5 := ho5.grown (g3.trans gB)
  have h9 := ho9.grown gA
  have h11 := ho11.grown g10
  have hnum := res_num s b
  have hS9 := c_l30_sameParts M10 v9 v5 _ _ h9.rows h5.rows (by omega) (by omega)
  have hS11 := c_l30_sameParts M10 v11 v5 _ _ h11.rows h5.rows (by omega) (by omega)
  rw [beq_self_eq_true] at hS9 hS11
  have hg7' := getN_grown (g5.trans gA) hg7
  simp +contextual only [vq, vc, ve, vv, vn, vl, ↓reduceIte, Nat.reduceEqDiff, Nat.reduceAdd, Nat.reduceMul, Nat.reduceSub, Nat.reduceLeDiff, Nat.reduceLT, Nat.reduceBEq, Nat.reduceBNe, reduceCtorEq, Int.reduceBEq, Int.reduceBNe, Int.reduceLT, Int.reduceLE, Int.reduceEq, Int.reduceToNat, Int.reduceAdd, Int.reduceSub, Int.reduceNeg, w10, callR_val hS9, callR_val hS11, R6'.getN (G := G), R10'.getN (G := G), R12.getN (G := G), hg7']
  have hl4 := hr7.lt
  have hle5 := g5.le
  have hleA := gA.le
  have hle3 := g3.le
  have hle7 := g7.le
  have hle8 := g8.le
  have hle1 := g1.le
  have hr10 : RowG M10 j7 gn7 (bytesE (s ++ t7)) := by
    unfold RowG
    rw [(g5.trans gA).at hl4]
    exact hr7
  have hlo : m.bl.length ≤ M10.low := by omega
  have b10 : (s ++ t7).length = (bytesE (s ++ t7)).length := bytes_len.symm
  refine loop2 (fun q st => ∃ (i : Nat) (A : Fr) (N : Mem) (cs : List EV), st = ⟨A, N, [], none⟩ ∧ q = (s ++ t7).length - i ∧ i ≤ (s ++ t7).length ∧ A 5 = v5 ∧ A 7 = .slice (some ⟨.mem j7 gn7, 0⟩) (s ++ t7).length (s ++ t7).length 1 ∧ A 9 = v9 ∧ A 11 = v11 ∧ A 76 = .int .i64 (s ++ t7).length ∧ A 77 = .int .i64 (i : Nat) ∧ RowG N j7 gn7 cs ∧ cs.length = (s ++ t7).length ∧ But1 j7 M10 N ∧ m.bl.length ≤ N.low) (s ++ t7).length ⟨0, _, M10, _, rfl, by omega, by omega, by simp +contextual only [vq, vc, ve, vv, vn, vl, ↓reduceIte, Nat.reduceEqDiff, Nat.reduceAdd, Nat.reduceMul, Nat.reduceSub, Nat.reduceLeDiff, Nat.reduceLT, Nat.reduceBEq, Nat.reduceBNe, reduceCtorEq, Int.reduceBEq, Int.reduceBNe, Int.reduceLT, Int.reduceLE, Int.reduceEq, Int.reduceToNat, Int.reduceAdd, Int.reduceSub, Int.reduceNeg], by simp +contextual only [vq, vc, ve, vv, vn, vl, ↓reduceIte, Nat.reduceEqDiff, Nat.reduceAdd, Nat.reduceMul, Nat.reduceSub, Nat.reduceLeDiff, Nat.reduceLT, Nat.reduceBEq, Nat.reduceBNe, reduceCtorEq, Int.reduceBEq, Int.reduceBNe, Int.reduceLT, Int.reduceLE, Int.reduceEq, Int.reduceToNat, Int.reduceAdd, Int.reduceSub, Int.reduceNeg], by simp +contextual only [vq, vc, ve, vv, vn, vl, ↓reduceIte, Nat.reduceEqDiff, Nat.reduceAdd, Nat.reduceMul, Nat.reduceSub, Nat.reduceLeDiff, Nat.reduceLT, Nat.reduceBEq, Nat.reduceBNe, reduceCtorEq, Int.reduceBEq, Int.reduceBNe, Int.reduceLT, Int.reduceLE, Int.reduceEq, Int.reduceToNat, Int.reduceAdd, Int.reduceSub, Int.reduceNeg], by simp +contextual only [vq, vc, ve, vv, vn, vl, ↓reduceIte, Nat.reduceEqDiff, Nat.reduceAdd, Nat.reduceMul, Nat.reduceSub, Nat.reduceLeDiff, Nat.reduceLT, Nat.reduceBEq, Nat.reduceBNe, reduceCtorEq, Int.reduceBEq, Int.reduceBNe, Int.reduceLT, Int.reduceLE, Int.reduceEq, Int.reduceToNat, Int.reduceAdd, Int.reduceSub, Int.reduceNeg], by simp +contextual only [vq, vc, ve, vv, vn, vl, ↓reduceIte, Nat.reduceEqDiff, Nat.reduceAdd, Nat.reduceMul, Nat.reduceSub, Nat.reduceLeDiff, Nat.reduceLT, Nat.reduceBEq, Nat.reduceBNe, reduceCtorEq, Int.reduceBEq, Int.reduceBNe, Int.reduceLT, Int.reduceLE, Int.reduceEq, Int.reduceToNat, Int.reduceAdd, Int.reduceSub, Int.reduceNeg], by simp +contextual only [vq, vc, ve, vv, vn, vl, ↓reduceIte, Nat.reduceEqDiff, Nat.reduceAdd, Nat.reduceMul, Nat.reduceSub, Nat.reduceLeDiff, Nat.reduceLT, Nat.reduceBEq, Nat.reduceBNe, reduceCtorEq, Int.reduceBEq, Int.reduceBNe, Int.reduceLT, Int.reduceLE, Int.reduceEq, Int.reduceToNat, Int.reduceAdd, Int.reduceSub, Int.reduceNeg]; rfl, hr10, bytes_len, ⟨rfl, fun _ _ => rfl⟩, hlo⟩ fun J hJ q st hI => ?_
  obtain ⟨i, A, N, cs, rfl, rfl, hi, A5, A7, A9, A11, A76, A77, hrN, hcs, hbN, hlN⟩ := hI
  by_cases hlt : i < (s ++ t7).length
  · obtain ⟨N1, p1, p2, p3, p4⟩ := hrN.put1 (off := i) (v := .int .u8 119) (by omega)
    simp +contextual only [vq, vc, ve, vv, vn, vl, ↓reduceIte, Nat.reduceEqDiff, Nat.reduceAdd, Nat.reduceMul, Nat.reduceSub, Nat.reduceLeDiff, Nat.reduceLT, Nat.reduceBEq, Nat.reduceBNe, reduceCtorEq, Int.reduceBEq, Int.reduceBNe, Int.reduceLT, Int.reduceLE, Int.reduceEq, Int.reduceToNat, Int.reduceAdd, Int.reduceSub, Int.reduceNeg, A7, A76, A77, hlt, p1, wsucc hlt (by omega)]
    exact again2 hJ ((s ++ t7).length - (i + 1)) (by omega) ⟨i + 1, _, N1, _, rfl, rfl, by omega, by simp +contextual only [vq, vc, ve, vv, vn, vl, ↓reduceIte, Nat.reduceEqDiff, Nat.reduceAdd, Nat.reduceMul, Nat.reduceSub, Nat.reduceLeDiff, Nat.reduceLT, Nat.reduceBEq, Nat.reduceBNe, reduceCtorEq, Int.reduceBEq, Int.reduceBNe, Int.reduceLT, Int.reduceLE, Int.reduceEq, Int.reduceToNat, Int.reduceAdd, Int.reduceSub, Int.reduceNeg, A5], by simp +contextual only [vq, vc, ve, vv, vn, vl, ↓reduceIte, Nat.reduceEqDiff, Nat.reduceAdd, Nat.reduceMul, Nat.reduceSub, Nat.reduceLeDiff, Nat.reduceLT, Nat.reduceBEq, Nat.reduceBNe, reduceCtorEq, Int.reduceBEq, Int.reduceBNe, Int.reduceLT, Int.reduceLE, Int.reduceEq, Int.reduceToNat, Int.reduceAdd, Int.reduceSub, Int.reduceNeg, A7], by simp +contextual only [vq, vc, ve, vv, vn, vl, ↓reduceIte, Nat.reduceEqDiff, Nat.reduceAdd, Nat.reduceMul, Nat.reduceSub, Nat.reduceLeDiff, Nat.reduceLT, Nat.reduceBEq, Nat.reduceBNe, reduceCtorEq, Int.reduceBEq, Int.reduceBNe, Int.reduceLT, Int.reduceLE, Int.reduceEq, Int.reduceToNat, Int.reduceAdd, Int.reduceSub, Int.reduceNeg, A9], by simp +contextual only [vq, vc, ve, vv, vn, vl, ↓reduceIte, Nat.reduceEqDiff, Nat.reduceAdd, Nat.reduceMul, Nat.reduceSub, Nat.reduceLeDiff, Nat.reduceLT, Nat.reduceBEq, Nat.reduceBNe, reduceCtorEq, Int.reduceBEq, Int.reduceBNe, Int.reduceLT, Int.reduceLE, Int.reduceEq, Int.reduceToNat, Int.reduceAdd, Int.reduceSub, Int.reduceNeg, A11], by simp +contextual only [vq, vc, ve, vv, vn, vl, ↓reduceIte, Nat.reduceEqDiff, Nat.reduceAdd, Nat.reduceMul, Nat.reduceSub, Nat.reduceLeDiff, Nat.reduceLT, Nat.reduceBEq, Nat.reduceBNe, reduceCtorEq, Int.reduceBEq, Int.reduceBNe, Int.reduceLT, Int.reduceLE, Int.reduceEq, Int.reduceToNat, Int.reduceAdd, Int.reduceSub, Int.reduceNeg, A76], by simp +contextual only [vq, vc, ve, vv, vn, vl, ↓reduceIte, Nat.reduceEqDiff, Nat.reduceAdd, Nat.reduceMul, Nat.reduceSub, Nat.reduceLeDiff, Nat.reduceLT, Nat.reduceBEq, Nat.reduceBNe, reduceCtorEq, Int.reduceBEq, Int.reduceBNe, Int.reduceLT, Int.reduceLE, Int.reduceEq, Int.reduceToNat, Int.reduceAdd, Int.reduceSub, Int.reduceNeg], p2, by simpa using hcs, hbN.trans p3, by omega⟩
  · have b5 := h5.keep (N' := N) fun j hj => hbN.2 j (by have := (ho5.used hj).2; omega)
    have b9 := h9.keep (N' := N) fun j hj => hbN.2 j (by have := (h9.used hj).1; omega)
    have b11 := h11.keep (N' := N) fun j hj => hbN.2 j (by have := (h11.used hj).1; omega)
    have hS9 := c_l30_sameParts N v9 v5 _ _ b9.rows b5.rows (by omega) (by omega)
    have hS11 := c_l30_sameParts N v11 v5 _ _ b11.rows b5.rows (by omega) (by omega)
    rw [beq_self_eq_true] at hS9 hS11
    obtain ⟨oa9, oc9, oe9, so9⟩ := b9.slice
    have lv9 : lnbE v9 = some (.int .i64 (resParts s b).1.length) := by rw [so9]; rfl
    have hU : ∀ j, Uses k5 es5 j ∨ Uses k11 es11 j → j < M10.bl.length := fun j hj => hj.elim (fun h => (h5.used h).2) fun h => (h11.used h).2
    have hD : ∀ j, Uses k9 es9 j → ¬ (Uses k5 es5 j ∨ Uses k11 es11 j) := fun j hj h => by
      have h1 := ho9.used hj
      rcases h with h | h
      · have := (ho5.used h).2; omega
      · have := (ho11.used h).1; omega
    have hKN : ∀ j, Uses k5 es5 j ∨ Uses k11 es11 j → N.bl[j]? = M10.bl[j]? := fun j hj => hbN.2 j fun hq => by
      subst hq
      rcases hj with h | h
      · have := (ho5.used h).2; omega
      · have := (h11.used h).1; omega
    have hNl := hbN.1
    have hea := res_each s b
    have w50 : ∀ i : Nat, ((i : Nat) : Int).tmod 50 = ((i % 50 : Nat) : Int) := fun _ => rfl
    have w200 : ∀ i : Nat, IntKind.i64.wrap (200 + ((i % 50 : Nat) : Int)) = ((200 + i % 50 : Nat) : Int) := fun i => wrap_of (by omega) (by omega)
    have wcol : ∀ i : Nat, IntKind.u8.wrap ((200 + i % 50 : Nat) : Int) = ((col i).toNat : Int) := fun i => by rw [wrap8 (by omega) (by omega), col_nat]
    simp +contextual only [vq, vc, ve, vv, vn, vl, ↓reduceIte, Nat.reduceEqDiff, Nat.reduceAdd, Nat.reduceMul, Nat.reduceSub, Nat.reduceLeDiff, Nat.reduceLT, Nat.reduceBEq, Nat.reduceBNe, reduceCtorEq, Int.reduceBEq, Int.reduceBNe, Int.reduceLT, Int.reduceLE, Int.reduceEq, Int.reduceToNat, Int.reduceAdd, Int.reduceSub, Int.reduceNeg, A5, A9, A11, A76, A77, hlt, callR_val hS9, callR_val hS11, lv9]
    generalize hll : (resParts s b).1 = ll at *
    refine loop2 (fun q st => ∃ (i : Nat) (A : Fr) (N : Mem) (cur : List (List UInt8)), st = ⟨A, N, [], none⟩ ∧ q = ll.length - i ∧ i ≤ ll.length ∧ A 5 = v5 ∧ A 9 = v9 ∧ A 11 = v11 ∧ A 95 = .int .i64 ll.length ∧ A 96 = .int .i64 (i : Nat) ∧ Outs M4.bl.length k9 es9 N v9 cur ∧ cur.length = ll.length ∧ (∀ x ∈ cur, x.length ≤ s.length + 2) ∧ Col i cur ∧ M10.bl.length ≤ N.bl.length ∧ (∀ j, Uses k5 es5 j ∨ Uses k11 es11 j → N.bl[j]? = M10.bl[j]?) ∧ m.bl.length ≤ N.low) ll.length ⟨0, _, N, ll, rfl, by omega, by omega, by simp +contextual only [vq, vc, ve, vv, vn, vl, ↓reduceIte, Nat.reduceEqDiff, Nat.reduceAdd, Nat.reduceMul, Nat.reduceSub, Nat.reduceLeDiff, Nat.reduceLT, Nat.reduceBEq, Nat.reduceBNe, reduceCtorEq, Int.reduceBEq, Int.reduceBNe, Int.reduceLT, Int.reduceLE, Int.reduceEq, Int.reduceToNat, Int.reduceAdd, Int.reduceSub, Int.reduceNeg, A5], by simp +contextual only [vq, vc, ve, vv, vn, vl, ↓reduceIte, Nat.reduceEqDiff, Nat.reduceAdd, Nat.reduceMul, Nat.reduceSub, Nat.reduceLeDiff, Nat.reduceLT, Nat.reduceBEq, Nat.reduceBNe, reduceCtorEq, Int.reduceBEq, Int.reduceBNe, Int.reduceLT, Int.reduceLE, Int.reduceEq, Int.reduceToNat, Int.reduceAdd, Int.reduceSub, Int.reduceNeg, A9], by simp +contextual only [vq, vc, ve, vv, vn, vl, ↓reduceIte, Nat.reduceEqDiff, Nat.reduceAdd, Nat.reduceMul, Nat.reduceSub, Nat.reduceLeDiff, Nat.reduceLT, Nat.reduceBEq, Nat.reduceBNe, reduceCtorEq, Int.reduceBEq, Int.reduceBNe, Int.reduceLT, Int.reduceLE, Int.reduceEq, Int.reduceToNat, Int.reduceAdd, Int.reduceSub, Int.reduceNeg, A11], by simp +contextual only [vq, vc, ve, vv, vn, vl, ↓reduceIte, Nat.reduceEqDiff, Nat.reduceAdd, Nat.reduceMul, Nat.reduceSub, Nat.reduceLeDiff, Nat.reduceLT, Nat.reduceBEq, Nat.reduceBNe, reduceCtorEq, Int.reduceBEq, Int.reduceBNe, Int.reduceLT, Int.reduceLE, Int.reduceEq, Int.reduceToNat, Int.reduceAdd, Int.reduceSub, Int.reduceNeg], by simp +contextual only [vq, vc, ve, vv, vn, vl, ↓reduceIte, Nat.reduceEqDiff, Nat.reduceAdd, Nat.reduceMul, Nat.reduceSub, Nat.reduceLeDiff, Nat.reduceLT, Nat.reduceBEq, Nat.reduceBNe, reduceCtorEq, Int.reduceBEq, Int.reduceBNe, Int.reduceLT, Int.reduceLE, Int.reduceEq, Int.reduceToNat, Int.reduceAdd, Int.reduceSub, Int.reduceNeg]; rfl, b9, rfl, hea, fun p l h1 h2 => by omega, by omega, hKN, hlN⟩ fun J2 hJ2 q st hI => ?_
    clear A5 A7 A9 A11 A76 A77 hrN hcs b5 b9 b11 hS9 hS11 hKN hlt hNl hlN hbN
    obtain ⟨i, A, N, cur, rfl, rfl, hi, A5, A9, A11, A95, A96, hcur, hcl, hce, hcol, hNl, hKN, hlN⟩ := hI
    by_cases hlt : i < ll.length
    · obtain ⟨a, u, e, ev9, hoa, hu, _, hpu, _⟩ := hcur.get (show i < cur.length by omega)
      obtain ⟨ua, uc, ue, su⟩ := hpu.slice
      rw [hcl] at ev9
      rw [ev9] at A9
      rw [su] at hu
      simp +contextual only [vq, vc, ve, vv, vn, vl, ↓reduceIte, Nat.reduceEqDiff, Nat.reduceAdd, Nat.reduceMul, Nat.reduceSub, Nat.reduceLeDiff, Nat.reduceLT, Nat.reduceBEq, Nat.reduceBNe, reduceCtorEq, Int.reduceBEq, Int.reduceBNe, Int.reduceLT, Int.reduceLE, Int.reduceEq, Int.reduceToNat, Int.reduceAdd, Int.reduceSub, Int.reduceNeg, A9, A95, A96, hlt, hu]
      refine loop2 (fun q st => ∃ (jj : Nat) (B : Fr) (K : Mem) (cu : List (List UInt8)) (l : List UInt8), st = ⟨B, K, [], none⟩ ∧ q = cur[i].length - jj ∧ jj ≤ cur[i].length ∧ B 5 = v5 ∧ B 9 = v9 ∧ B 11 = v11 ∧ B 14 = .int .i64 (i : Nat) ∧ B 95 = .int .i64 ll.length ∧ B 96 = .int .i64 (i : Nat) ∧ B 103 = .int .i64 cur[i].length ∧ B 104 = .int .i64 (jj : Nat) ∧ Outs M4.bl.length k9 es9 K v9 cu ∧ cu.length = ll.length ∧ (∀ x ∈ cu, x.length ≤ s.length + 2) ∧ Col i cu ∧ cu[i]? = some l ∧ l.length = cur[i].length ∧ (∀ (q : Nat) (c : UInt8), q < jj → l[q]? = some c → c = col i) ∧ M10.bl.length ≤ K.bl.length ∧ (∀ j, Uses k5 es5 j ∨ Uses k11 es11 j → K.bl[j]? = M10.bl[j]?) ∧ m.bl.length ≤ K.low) cur[i].length ⟨0, _, N, cur, cur[i], rfl, by omega, by omega, by simp +contextual only [vq, vc, ve, vv, vn, vl, ↓reduceIte, Nat.reduceEqDiff, Nat.reduceAdd, Nat.reduceMul, Nat.reduceSub, Nat.reduceLeDiff, Nat.reduceLT, Nat.reduceBEq, Nat.reduceBNe, reduceCtorEq, Int.reduceBEq, Int.reduceBNe, Int.reduceLT, Int.reduceLE, Int.reduceEq, Int.reduceToNat, Int.reduceAdd, Int.reduceSub, Int.reduceNeg, A5], by simp +contextual only [vq, vc, ve, vv, vn, vl, ↓reduceIte, Nat.reduceEqDiff, Nat.reduceAdd, Nat.reduceMul, Nat.reduceSub, Nat.reduceLeDiff, Nat.reduceLT, Nat.reduceBEq, Nat.reduceBNe, reduceCtorEq, Int.reduceBEq, Int.reduceBNe, Int.reduceLT, Int.reduceLE, Int.reduceEq, Int.reduceToNat, Int.reduceAdd, Int.reduceSub, Int.reduceNeg, A9, ev9], by simp +contextual only [vq, vc, ve, vv, vn, vl, ↓reduceIte, Nat.reduceEqDiff, Nat.reduceAdd, Nat.reduceMul, Nat.reduceSub, Nat.reduceLeDiff, Nat.reduceLT, Nat.reduceBEq, Nat.reduceBNe, reduceCtorEq, Int.reduceBEq, Int.reduceBNe, Int.reduceLT, Int.reduceLE, Int.reduceEq, Int.reduceToNat, Int.reduceAdd, Int.reduceSub, Int.reduceNeg, A11], by simp +contextual only [vq, vc, ve, vv, vn, vl, ↓reduceIte, Nat.reduceEqDiff, Nat.reduceAdd, Nat.reduceMul, Nat.reduceSub, Nat.reduceLeDiff, Nat.reduceLT, Nat.reduceBEq, Nat.reduceBNe, reduceCtorEq, Int.reduceBEq, Int.reduceBNe, Int.reduceLT, Int.reduceLE, Int.reduceEq, Int.reduceToNat, Int.reduceAdd, Int.reduceSub, Int.reduceNeg], by simp +contextual only [vq, vc, ve, vv, vn, vl, ↓reduceIte, Nat.reduceEqDiff, Nat.reduceAdd, Nat.reduceMul, Nat.reduceSub, Nat.reduceLeDiff, Nat.reduceLT, Nat.reduceBEq, Nat.reduceBNe, reduceCtorEq, Int.reduceBEq, Int.reduceBNe, Int.reduceLT, Int.reduceLE, Int.reduceEq, Int.reduceToNat, Int.reduceAdd, Int.reduceSub, Int.reduceNeg, A95], by simp +contextual only [vq, vc, ve, vv, vn, vl, ↓reduceIte, Nat.reduceEqDiff, Nat.reduceAdd, Nat.reduceMul, Nat.reduceSub, Nat.reduceLeDiff, Nat.reduceLT, Nat.reduceBEq, Nat.reduceBNe, reduceCtorEq, Int.reduceBEq, Int.reduceBNe, Int.reduceLT, Int.reduceLE, Int.reduceEq, Int.reduceToNat, Int.reduceAdd, Int.reduceSub, Int.reduceNeg, A96], by simp +contextual only [vq, vc, ve, vv, vn, vl, ↓reduceIte, Nat.reduceEqDiff, Nat.reduceAdd, Nat.reduceMul, Nat.reduceSub, Nat.reduceLeDiff, Nat.reduceLT, Nat.reduceBEq, Nat.reduceBNe, reduceCtorEq, Int.reduceBEq, Int.reduceBNe, Int.reduceLT, Int.reduceLE, Int.reduceEq, Int.reduceToNat, Int.reduceAdd, Int.reduceSub, Int.reduceNeg], by simp +contextual only [vq, vc, ve, vv, vn, vl, ↓reduceIte, Nat.reduceEqDiff, Nat.reduceAdd, Nat.reduceMul, Nat.reduceSub, Nat.reduceLeDiff, Nat.reduceLT, Nat.reduceBEq, Nat.reduceBNe, reduceCtorEq, Int.reduceBEq, Int.reduceBNe, Int.reduceLT, Int.reduceLE, Int.reduceEq, Int.reduceToNat, Int.reduceAdd, Int.reduceSub, Int.reduceNeg]; rfl, hcur, hcl, hce, hcol, List.getElem?_eq_getElem (by omega), rfl, fun q c h1 h2 => by omega, hNl, hKN, hlN⟩ fun J3 hJ3 q st hI => ?_
      obtain ⟨jj, B, K, cu, l, rfl, rfl, hjj, B5, B9, B11, B14, B95, B96, B103, B104, hcu, hcul, hcue, hcuc, hl, hll2, hlc, hKl, hKK, hlK⟩ := hI
      have hil : i < cu.length := by omega
      have hle : cu[i] = l := by
        rw [List.getElem?_eq_getElem hil] at hl
        exact Option.some.inj hl
      have hcel := hcue _ (List.getElem_mem hil)
      by_cases hjl : jj < cur[i].length
      · obtain ⟨a2, b2, ev2, hoa2, hu2, hb2, K', z1, z2, z3, z4, z5⟩ := hcu.poke hil (show jj < cu[i].length by rw [hle]; omega) (col i)
        rw [hcul] at ev2
        rw [ev2] at B9
        have hcl2 : cu[i].length = cur[i].length := by rw [hle, hll2]
        rw [hcl2] at hu2
        have z1 : K.put1 (b2.plus jj) (.int .u8 ((col i).toNat : Nat)) = some K' := z1
        simp +contextual only [vq, vc, ve, vv, vn, vl, ↓reduceIte, Nat.reduceEqDiff, Nat.reduceAdd, Nat.reduceMul, Nat.reduceSub, Nat.reduceLeDiff, Nat.reduceLT, Nat.reduceBEq, Nat.reduceBNe, reduceCtorEq, Int.reduceBEq, Int.reduceBNe, Int.reduceLT, Int.reduceLE, Int.reduceEq, Int.reduceToNat, Int.reduceAdd, Int.reduceSub, Int.reduceNeg, B9, B14, B103, B104, hlt, hjl, hu2, w50, w200, wcol, z1, wsucc hjl (by omega)]
        exact again2 hJ3 (cur[i].length - (jj + 1)) (by omega) ⟨jj + 1, _, K', cu.set i (cu[i].set jj (col i)), cu[i].set jj (col i), rfl, rfl, by omega, by simp +contextual only [vq, vc, ve, vv, vn, vl, ↓reduceIte, Nat.reduceEqDiff, Nat.reduceAdd, Nat.reduceMul, Nat.reduceSub, Nat.reduceLeDiff, Nat.reduceLT, Nat.reduceBEq, Nat.reduceBNe, reduceCtorEq, Int.reduceBEq, Int.reduceBNe, Int.reduceLT, Int.reduceLE, Int.reduceEq, Int.reduceToNat, Int.reduceAdd, Int.reduceSub, Int.reduceNeg, B5], by simp +contextual only [vq, vc, ve, vv, vn, vl, ↓reduceIte, Nat.reduceEqDiff, Nat.reduceAdd, Nat.reduceMul, Nat.reduceSub, Nat.reduceLeDiff, Nat.reduceLT, Nat.reduceBEq, Nat.reduceBNe, reduceCtorEq, Int.reduceBEq, Int.reduceBNe, Int.reduceLT, Int.reduceLE, Int.reduceEq, Int.reduceToNat, Int.reduceAdd, Int.reduceSub, Int.reduceNeg, B9, ev2], by simp +contextual only [vq, vc, ve, vv, vn, vl, ↓reduceIte, Nat.reduceEqDiff, Nat.reduceAdd, Nat.reduceMul, Nat.reduceSub, Nat.reduceLeDiff, Nat.reduceLT, Nat.reduceBEq, Nat.reduceBNe, reduceCtorEq, Int.reduceBEq, Int.reduceBNe, Int.reduceLT, Int.reduceLE, Int.reduceEq, Int.reduceToNat, Int.reduceAdd, Int.reduceSub, Int.reduceNeg, B11], by simp +contextual only [vq, vc, ve, vv, vn, vl, ↓reduceIte, Nat.reduceEqDiff, Nat.reduceAdd, Nat.reduceMul, Nat.reduceSub, Nat.reduceLeDiff, Nat.reduceLT, Nat.reduceBEq, Nat.reduceBNe, reduceCtorEq, Int.reduceBEq, Int.reduceBNe, Int.reduceLT, Int.reduceLE, Int.reduceEq, Int.reduceToNat, Int.reduceAdd, Int.reduceSub, Int.reduceNeg, B14], by simp +contextual only [vq, vc, ve, vv, vn, vl, ↓reduceIte, Nat.reduceEqDiff, Nat.reduceAdd, Nat.reduceMul, Nat.reduceSub, Nat.reduceLeDiff, Nat.reduceLT, Nat.reduceBEq, Nat.reduceBNe, reduceCtorEq, Int.reduceBEq, Int.reduceBNe, Int.reduceLT, Int.reduceLE, Int.reduceEq, Int.reduceToNat, Int.reduceAdd, Int.reduceSub, Int.reduceNeg, B95], by simp +contextual only [vq, vc, ve, vv, vn, vl, ↓reduceIte, Nat.reduceEqDiff, Nat.reduceAdd, Nat.reduceMul, Nat.reduceSub, Nat.reduceLeDiff, Nat.reduceLT, Nat.reduceBEq, Nat.reduceBNe, reduceCtorEq, Int.reduceBEq, Int.reduceBNe, Int.reduceLT, Int.reduceLE, Int.reduceEq, Int.reduceToNat, Int.reduceAdd, Int.reduceSub, Int.reduceNeg, B96], by simp +contextual only [vq, vc, ve, vv, vn, vl, ↓reduceIte, Nat.reduceEqDiff, Nat.reduceAdd, Nat.reduceMul, Nat.reduceSub, Nat.reduceLeDiff, Nat.reduceLT, Nat.reduceBEq, Nat.reduceBNe, reduceCtorEq, Int.reduceBEq, Int.reduceBNe, Int.reduceLT, Int.reduceLE, Int.reduceEq, Int.reduceToNat, Int.reduceAdd, Int.reduceSub, Int.reduceNeg, B103], by simp +contextual only [vq, vc, ve, vv, vn, vl, ↓reduceIte, Nat.reduceEqDiff, Nat.reduceAdd, Nat.reduceMul, Nat.reduceSub, Nat.reduceLeDiff, Nat.reduceLT, Nat.reduceBEq, Nat.reduceBNe, reduceCtorEq, Int.reduceBEq, Int.reduceBNe, Int.reduceLT, Int.reduceLE, Int.reduceEq, Int.reduceToNat, Int.reduceAdd, Int.reduceSub, Int.reduceNeg], z2, by simpa using hcul, fun x hx => by
          rcases List.mem_or_eq_of_mem_set hx with hx | hx
          · exact hcue x hx
          · rw [hx]; simpa using hcel, fun p w hp hpi => by
          rw [List.getElem?_set_ne (by omega)] at hp
          exact hcuc p w hp hpi, by rw [List.getElem?_set_self hil], by simpa using hcl2, fun q c hq hc => by
          by_cases hqj : q = jj
          · subst hqj
            rw [List.getElem?_set_self (by omega)] at hc
            exact (Option.some.inj hc).symm
          · rw [List.getElem?_set_ne (by omega), hle] at hc
            exact hlc q c (by omega) hc, by omega, fun j hj => by rw [z4 j fun hu => hD j hu hj, hKK j hj], z5 _ (by omega) hlK⟩
      · simp +contextual only [vq, vc, ve, vv, vn, vl, ↓reduceIte, Nat.reduceEqDiff, Nat.reduceAdd, Nat.reduceMul, Nat.reduceSub, Nat.reduceLeDiff, Nat.reduceLT, Nat.reduceBEq, Nat.reduceBNe, reduceCtorEq, Int.reduceBEq, Int.reduceBNe, Int.reduceLT, Int.reduceLE, Int.reduceEq, Int.reduceToNat, Int.reduceAdd, Int.reduceSub, Int.reduceNeg, B96, B103, B104, hjl, wsucc hlt (by omega)]
        exact again2 hJ2 (ll.length - (i + 1)) (by omega) ⟨i + 1, _, K, cu, rfl, rfl, by omega, by simp +contextual only [vq, vc, ve, vv, vn, vl, ↓reduceIte, Nat.reduceEqDiff, Nat.reduceAdd, Nat.reduceMul, Nat.reduceSub, Nat.reduceLeDiff, Nat.reduceLT, Nat.reduceBEq, Nat.reduceBNe, reduceCtorEq, Int.reduceBEq, Int.reduceBNe, Int.reduceLT, Int.reduceLE, Int.reduceEq, Int.reduceToNat, Int.reduceAdd, Int.reduceSub, Int.reduceNeg, B5], by simp +contextual only [vq, vc, ve, vv, vn, vl, ↓reduceIte, Nat.reduceEqDiff, Nat.reduceAdd, Nat.reduceMul, Nat.reduceSub, Nat.reduceLeDiff, Nat.reduceLT, Nat.reduceBEq, Nat.reduceBNe, reduceCtorEq, Int.reduceBEq, Int.reduceBNe, Int.reduceLT, Int.reduceLE, Int.reduceEq, Int.reduceToNat, Int.reduceAdd, Int.reduceSub, Int.reduceNeg, B9], by simp +contextual only [vq, vc, ve, vv, vn, vl, ↓reduceIte, Nat.reduceEqDiff, Nat.reduceAdd, Nat.reduceMul, Nat.reduceSub, Nat.reduceLeDiff, Nat.reduceLT, Nat.reduceBEq, Nat.reduceBNe, reduceCtorEq, Int.reduceBEq, Int.reduceBNe, Int.reduceLT, Int.reduceLE, Int.reduceEq, Int.reduceToNat, Int.reduceAdd, Int.reduceSub, Int.reduceNeg, B11], by simp +contextual only [vq, vc, ve, vv, vn, vl, ↓reduceIte, Nat.reduceEqDiff, Nat.reduceAdd, Nat.reduceMul, Nat.reduceSub, Nat.reduceLeDiff, Nat.reduceLT, Nat.reduceBEq, Nat.reduceBNe, reduceCtorEq, Int.reduceBEq, Int.reduceBNe, Int.reduceLT, Int.reduceLE, Int.reduceEq, Int.reduceToNat, Int.reduceAdd, Int.reduceSub, Int.reduceNeg, B95], by simp +contextual only [vq, vc, ve, vv, vn, vl, ↓reduceIte, Nat.reduceEqDiff, Nat.reduceAdd, Nat.reduceMul, Nat.reduceSub, Nat.reduceLeDiff, Nat.reduceLT, Nat.reduceBEq, Nat.reduceBNe, reduceCtorEq, Int.reduceBEq, Int.reduceBNe, Int.reduceLT, Int.reduceLE, Int.reduceEq, Int.reduceToNat, Int.reduceAdd, Int.reduceSub, Int.reduceNeg], hcu, hcul, hcue, fun p w hp hpi q c hc => by
          by_cases hpe : p = i
          · subst hpe
            rw [hl] at hp
            cases hp
            exact hlc q c (by have := (List.getElem?_eq_some_iff.1 hc).1; omega) hc
          · exact hcuc p w hp (by omega) q c hc, hKl, hKK, hlK⟩
    · have hie : i = ll.length := by omega
      subst hie
      obtain ⟨ca, cc, ce, so9'⟩ := hcur.slice
      have lv9' : lnbE v9 = some (.int .i64 ll.length) := by rw [so9', ← hcl]; rfl
      have hcol2 : Col2 (s.length + 2) 0 0 cur := fun p l hp => by
        have e0 : ext 0 0 p = 0 := by simp [ext]
        rw [e0]
        exact ⟨Nat.zero_le _, hce l (List.mem_of_getElem? hp), fun q c hq hc => hcol p l hp (by have := (List.getElem?_eq_some_iff.1 hp).1; omega) q c hc⟩
      simp +contextual only [vq, vc, ve, vv, vn, vl, ↓reduceIte, Nat.reduceEqDiff, Nat.reduceAdd, Nat.reduceMul, Nat.reduceSub, Nat.reduceLeDiff, Nat.reduceLT, Nat.reduceBEq, Nat.reduceBNe, reduceCtorEq, Int.reduceBEq, Int.reduceBNe, Int.reduceLT, Int.reduceLE, Int.reduceEq, Int.reduceToNat, Int.reduceAdd, Int.reduceSub, Int.reduceNeg, A9, A95, A96, hlt, lv9']
      refine loop2 (fun q st => ∃ (i : Nat) (A : Fr) (N : Mem) (cur : List (List UInt8)) (es : List (Option Nat)), st = ⟨A, N, [], none⟩ ∧ q = ll.length - i ∧ i ≤ ll.length ∧ A 5 = v5 ∧ A 9 = v9 ∧ A 11 = v11 ∧ A 120 = .int .i64 ll.length ∧ A 121 = .int .i64 (i : Nat) ∧ Outs M4.bl.length k9 es N v9 cur ∧ cur.length = ll.length ∧ Col2 (s.length + 2) i 0 cur ∧ (∀ j, Uses k9 es j → ¬ (Uses k5 es5 j ∨ Uses k11 es11 j)) ∧ M10.bl.length ≤ N.bl.length ∧ (∀ j, Uses k5 es5 j ∨ Uses k11 es11 j → N.bl[j]? = M10.bl[j]?) ∧ m.bl.length ≤ N.low) ll.length ⟨0, _, N, cur, es9, rfl, by omega, by omega, by simp +contextual only [vq, vc, ve, vv, vn, vl, ↓reduceIte, Nat.reduceEqDiff, Nat.reduceAdd, Nat.reduceMul, Nat.reduceSub, Nat.reduceLeDiff, Nat.reduceLT, Nat.reduceBEq, Nat.reduceBNe, reduceCtorEq, Int.reduceBEq, Int.reduceBNe, Int.reduceLT, Int.reduceLE, Int.reduceEq, Int.reduceToNat, Int.reduceAdd, Int.reduceSub, Int.reduceNeg, A5], by simp +contextual only [vq, vc, ve, vv, vn, vl, ↓reduceIte, Nat.reduceEqDiff, Nat.reduceAdd, Nat.reduceMul, Nat.reduceSub, Nat.reduceLeDiff, Nat.reduceLT, Nat.reduceBEq, Nat.reduceBNe, reduceCtorEq, Int.reduceBEq, Int.reduceBNe, Int.reduceLT, Int.reduceLE, Int.reduceEq, Int.reduceToNat, Int.reduceAdd, Int.reduceSub, Int.reduceNeg, A9], by simp +contextual only [vq, vc, ve, vv, vn, vl, ↓reduceIte, Nat.reduceEqDiff, Nat.reduceAdd, Nat.reduceMul, Nat.reduceSub, Nat.reduceLeDiff, Nat.reduceLT, Nat.reduceBEq, Nat.reduceBNe, reduceCtorEq, Int.reduceBEq, Int.reduceBNe, Int.reduceLT, Int.reduceLE, Int.reduceEq, Int.reduceToNat, Int.reduceAdd, Int.reduceSub, Int.reduceNeg, A11], by simp +contextual only [vq, vc, ve, vv, vn, vl, ↓reduceIte, Nat.reduceEqDiff, Nat.reduceAdd, Nat.reduceMul, Nat.reduceSub, Nat.reduceLeDiff, Nat.reduceLT, Nat.reduceBEq, Nat.reduceBNe, reduceCtorEq, Int.reduceBEq, Int.reduceBNe, Int.reduceLT, Int.reduceLE, Int.reduceEq, Int.reduceToNat, Int.reduceAdd, Int.reduceSub, Int.reduceNeg], by simp +contextual only [vq, vc, ve, vv, vn, vl, ↓reduceIte, Nat.reduceEqDiff, Nat.reduceAdd, Nat.reduceMul, Nat.reduceSub, Nat.reduceLeDiff, Nat.reduceLT, Nat.reduceBEq, Nat.reduceBNe, reduceCtorEq, Int.reduceBEq, Int.reduceBNe, Int.reduceLT, Int.reduceLE, Int.reduceEq, Int.reduceToNat, Int.reduceAdd, Int.reduceSub, Int.reduceNeg]; rfl, hcur, hcl, hcol2, hD, hNl, hKN, hlN⟩ fun J4 hJ4 q st hI => ?_
      clear A5 A9 A11 A95 A96 hcur hcl hce hcol hNl hKN hlN hcol2 hD
      obtain ⟨i, A, N, cur, es, rfl, rfl, hi, A5, A9, A11, A120, A121, hcur, hcl, hcol, hD, hNl, hKN, hlN⟩ := hI
      by_cases hlt : i < ll.length
      · simp +contextual only [vq, vc, ve, vv, vn, vl, ↓reduceIte, Nat.reduceEqDiff, Nat.reduceAdd, Nat.reduceMul, Nat.reduceSub, Nat.reduceLeDiff, Nat.reduceLT, Nat.reduceBEq, Nat.reduceBNe, reduceCtorEq, Int.reduceBEq, Int.reduceBNe, Int.reduceLT, Int.reduceLE, Int.reduceEq, Int.reduceToNat, Int.reduceAdd, Int.reduceSub, Int.reduceNeg, A120, A121, hlt]
        refine loop2 (fun q st => ∃ (z : Nat) (B : Fr) (K : Mem) (cu : List (List UInt8)) (es : List (Option Nat)), st = ⟨B, K, [], none⟩ ∧ q = 20 - z ∧ z ≤ 20 ∧ B 5 = v5 ∧ B 9 = v9 ∧ B 11 = v11 ∧ B 16 = .int .i64 (i : Nat) ∧ B 17 = .int .i64 (z : Nat) ∧ B 120 = .int .i64 ll.length ∧ B 121 = .int .i64 (i : Nat) ∧ Outs M4.bl.length k9 es K v9 cu ∧ cu.length = ll.length ∧ Col2 (s.length + 2) i z cu ∧ (∀ j, Uses k9 es j → ¬ (Uses k5 es5 j ∨ Uses k11 es11 j)) ∧ M10.bl.length ≤ K.bl.length ∧ (∀ j, Uses k5 es5 j ∨ Uses k11 es11 j → K.bl[j]? = M10.bl[j]?) ∧ m.bl.length ≤ K.low) 20 ⟨0, _, N, cur, es, rfl, rfl, by omega, by simp +contextual only [vq, vc, ve, vv, vn, vl, ↓reduceIte, Nat.reduceEqDiff, Nat.reduceAdd, Nat.reduceMul, Nat.reduceSub, Nat.reduceLeDiff, Nat.reduceLT, Nat.reduceBEq, Nat.reduceBNe, reduceCtorEq, Int.reduceBEq, Int.reduceBNe, Int.reduceLT, Int.reduceLE, Int.reduceEq, Int.reduceToNat, Int.reduceAdd, Int.reduceSub, Int.reduceNeg, A5], by simp +contextual only [vq, vc, ve, vv, vn, vl, ↓reduceIte, Nat.reduceEqDiff, Nat.reduceAdd, Nat.reduceMul, Nat.reduceSub, Nat.reduceLeDiff, Nat.reduceLT, Nat.reduceBEq, Nat.reduceBNe, reduceCtorEq, Int.reduceBEq, Int.reduceBNe, Int.reduceLT, Int.reduceLE, Int.reduceEq, Int.reduceToNat, Int.reduceAdd, Int.reduceSub, Int.reduceNeg, A9], by simp +contextual only [vq, vc, ve, vv, vn, vl, ↓reduceIte, Nat.reduceEqDiff, Nat.reduceAdd, Nat.reduceMul, Nat.reduceSub, Nat.reduceLeDiff, Nat.reduceLT, Nat.reduceBEq, Nat.reduceBNe, reduceCtorEq, Int.reduceBEq, Int.reduceBNe, Int.reduceLT, Int.reduceLE, Int.reduceEq, Int.reduceToNat, Int.reduceAdd, Int.reduceSub, Int.reduceNeg, A11], by simp +contextual only [vq, vc, ve, vv, vn, vl, ↓reduceIte, Nat.reduceEqDiff, Nat.reduceAdd, Nat.reduceMul, Nat.reduceSub, Nat.reduceLeDiff, Nat.reduceLT, Nat.reduceBEq, Nat.reduceBNe, reduceCtorEq, Int.reduceBEq, Int.reduceBNe, Int.reduceLT, Int.reduceLE, Int.reduceEq, Int.reduceToNat, Int.reduceAdd, Int.reduceSub, Int.reduceNeg], by simp +contextual only [vq, vc, ve, vv, vn, vl, ↓reduceIte, Nat.reduceEqDiff, Nat.reduceAdd, Nat.reduceMul, Nat.reduceSub, Nat.reduceLeDiff, Nat.reduceLT, Nat.reduceBEq, Nat.reduceBNe, reduceCtorEq, Int.reduceBEq, Int.reduceBNe, Int.reduceLT, Int.reduceLE, Int.reduceEq, Int.reduceToNat, Int.reduceAdd, Int.reduceSub, Int.reduceNeg]; rfl, by simp +contextual only [vq, vc, ve, vv, vn, vl, ↓reduceIte, Nat.reduceEqDiff, Nat.reduceAdd, Nat.reduceMul, Nat.reduceSub, Nat.reduceLeDiff, Nat.reduceLT, Nat.reduceBEq, Nat.reduceBNe, reduceCtorEq, Int.reduceBEq, Int.reduceBNe, Int.reduceLT, Int.reduceLE, Int.reduceEq, Int.reduceToNat, Int.reduceAdd, Int.reduceSub, Int.reduceNeg, A120], by simp +contextual only [vq, vc, ve, vv, vn, vl, ↓reduceIte, Nat.reduceEqDiff, Nat.reduceAdd, Nat.reduceMul, Nat.reduceSub, Nat.reduceLeDiff, Nat.reduceLT, Nat.reduceBEq, Nat.reduceBNe, reduceCtorEq, Int.reduceBEq, Int.reduceBNe, Int.reduceLT, Int.reduceLE, Int.reduceEq, Int.reduceToNat, Int.reduceAdd, Int.reduceSub, Int.reduceNeg, A121], hcur, hcl, hcol, hD, hNl, hKN, hlN⟩ fun J5 hJ5 q st hI => ?_
        clear A5 A9 A11 A120 A121 hcur hcl hcol hNl hKN hlN hD
        obtain ⟨z, B, K, cu, es, rfl, rfl, hz, B5, B9, B11, B16, B17, B120, B121, hcu, hcul, hcol, hD, hKl, hKK, hlK⟩ := hI
        have e20 : ((z : Int) < 20) = (z < 20) := propext (by omega)
        by_cases hz2 : z < 20
        · have hil : i < cu.length := by omega
          have hbd := (hcol i _ (List.getElem?_eq_getElem hil)).2.1
          rw [ext_self] at hbd
          obtain ⟨a, u, e, ev, hoa, hu, _, hpu, _⟩ := hcu.get hil
          obtain ⟨ua, uc, ue, su⟩ := hpu.slice
          rw [hcul] at ev
          rw [su] at hu
          rw [ev] at B9
          simp +contextual only [vq, vc, ve, vv, vn, vl, ↓reduceIte, Nat.reduceEqDiff, Nat.reduceAdd, Nat.reduceMul, Nat.reduceSub, Nat.reduceLeDiff, Nat.reduceLT, Nat.reduceBEq, Nat.reduceBNe, reduceCtorEq, Int.reduceBEq, Int.reduceBNe, Int.reduceLT, Int.reduceLE, Int.reduceEq, Int.reduceToNat, Int.reduceAdd, Int.reduceSub, Int.reduceNeg, B9, B16, B17, e20, hz2, hlt, hu]
          refine new_mk fun K1 n1 => ?_
          obtain ⟨a', u', ev', _, hu', R1, bb, dd, ff, K2, ha, K3, es', hput, hcu3, hnew, hl3, hag, hlo3⟩ := hcu.push1 hil 103 n1 (by omega) (by omega)
          rw [hcul, ev] at ev'
          cases ev'
          rw [hu] at hu'
          cases hu'
          have R1 : RowIs K1 K.bl.length [.int .u8 103] := R1
          have ha : appendE G K1 1 1 tagB (.slice ua cu[i].length uc ue) [.int .u8 103] 1 = some (.slice bb (cu[i].length + 1) dd ff, K2) := ha
          simp +contextual only [vq, vc, ve, vv, vn, vl, ↓reduceIte, Nat.reduceEqDiff, Nat.reduceAdd, Nat.reduceMul, Nat.reduceSub, Nat.reduceLeDiff, Nat.reduceLT, Nat.reduceBEq, Nat.reduceBNe, reduceCtorEq, Int.reduceBEq, Int.reduceBNe, Int.reduceLT, Int.reduceLE, Int.reduceEq, Int.reduceToNat, Int.reduceAdd, Int.reduceSub, Int.reduceNeg, R1.getN (G := G), ha, hput, hlt, B17, e20, wsucc hz2 (by omega)]
          exact again2 hJ5 (20 - (z + 1)) (by omega) ⟨z + 1, _, K3, _, es', rfl, rfl, by omega, by simp +contextual only [vq, vc, ve, vv, vn, vl, ↓reduceIte, Nat.reduceEqDiff, Nat.reduceAdd, Nat.reduceMul, Nat.reduceSub, Nat.reduceLeDiff, Nat.reduceLT, Nat.reduceBEq, Nat.reduceBNe, reduceCtorEq, Int.reduceBEq, Int.reduceBNe, Int.reduceLT, Int.reduceLE, Int.reduceEq, Int.reduceToNat, Int.reduceAdd, Int.reduceSub, Int.reduceNeg, B5], by simp +contextual only [vq, vc, ve, vv, vn, vl, ↓reduceIte, Nat.reduceEqDiff, Nat.reduceAdd, Nat.reduceMul, Nat.reduceSub, Nat.reduceLeDiff, Nat.reduceLT, Nat.reduceBEq, Nat.reduceBNe, reduceCtorEq, Int.reduceBEq, Int.reduceBNe, Int.reduceLT, Int.reduceLE, Int.reduceEq, Int.reduceToNat, Int.reduceAdd, Int.reduceSub, Int.reduceNeg, B9, ev], by simp +contextual only [vq, vc, ve, vv, vn, vl, ↓reduceIte, Nat.reduceEqDiff, Nat.reduceAdd, Nat.reduceMul, Nat.reduceSub, Nat.reduceLeDiff, Nat.reduceLT, Nat.reduceBEq, Nat.reduceBNe, reduceCtorEq, Int.reduceBEq, Int.reduceBNe, Int.reduceLT, Int.reduceLE, Int.reduceEq, Int.reduceToNat, Int.reduceAdd, Int.reduceSub, Int.reduceNeg, B11], by simp +contextual only [vq, vc, ve, vv, vn, vl, ↓reduceIte, Nat.reduceEqDiff, Nat.reduceAdd, Nat.reduceMul, Nat.reduceSub, Nat.reduceLeDiff, Nat.reduceLT, Nat.reduceBEq, Nat.reduceBNe, reduceCtorEq, Int.reduceBEq, Int.reduceBNe, Int.reduceLT, Int.reduceLE, Int.reduceEq, Int.reduceToNat, Int.reduceAdd, Int.reduceSub, Int.reduceNeg, B16], by simp +contextual only [vq, vc, ve, vv, vn, vl, ↓reduceIte, Nat.reduceEqDiff, Nat.reduceAdd, Nat.reduceMul, Nat.reduceSub, Nat.reduceLeDiff, Nat.reduceLT, Nat.reduceBEq, Nat.reduceBNe, reduceCtorEq, Int.reduceBEq, Int.reduceBNe, Int.reduceLT, Int.reduceLE, Int.reduceEq, Int.reduceToNat, Int.reduceAdd, Int.reduceSub, Int.reduceNeg], by simp +contextual only [vq, vc, ve, vv, vn, vl, ↓reduceIte, Nat.reduceEqDiff, Nat.reduceAdd, Nat.reduceMul, Nat.reduceSub, Nat.reduceLeDiff, Nat.reduceLT, Nat.reduceBEq, Nat.reduceBNe, reduceCtorEq, Int.reduceBEq, Int.reduceBNe, Int.reduceLT, Int.reduceLE, Int.reduceEq, Int.reduceToNat, Int.reduceAdd, Int.reduceSub, Int.reduceNeg, B120], by simp +contextual only [vq, vc, ve, vv, vn, vl, ↓reduceIte, Nat.reduceEqDiff, Nat.reduceAdd, Nat.reduceMul, Nat.reduceSub, Nat.reduceLeDiff, Nat.reduceLT, Nat.reduceBEq, Nat.reduceBNe, reduceCtorEq, Int.reduceBEq, Int.reduceBNe, Int.reduceLT, Int.reduceLE, Int.reduceEq, Int.reduceToNat, Int.reduceAdd, Int.reduceSub, Int.reduceNeg, B121], hcu3, by simpa using hcul, hcol.push hil 103, fun j hj hu => by
            rcases hnew j hj with h | h
            · exact hD j h hu
            · have := hU j hu; omega, by omega, fun j hj => by
            have := hU j hj
            rw [hag j (by omega) fun h => hD j h hj, hKK j hj], hlo3 _ (by omega) hlK⟩
        · have hze : z = 20 := by omega
          subst hze
          simp +contextual only [vq, vc, ve, vv, vn, vl, ↓reduceIte, Nat.reduceEqDiff, Nat.reduceAdd, Nat.reduceMul, Nat.reduceSub, Nat.reduceLeDiff, Nat.reduceLT, Nat.reduceBEq, Nat.reduceBNe, reduceCtorEq, Int.reduceBEq, Int.reduceBNe, Int.reduceLT, Int.reduceLE, Int.reduceEq, Int.reduceToNat, Int.reduceAdd, Int.reduceSub, Int.reduceNeg, B17, e20, hz2, B121, wsucc hlt (by omega)]
          exact again2 hJ4 (ll.length - (i + 1)) (by omega) ⟨i + 1, _, K, cu, es, rfl, rfl, by omega, by simp +contextual only [vq, vc, ve, vv, vn, vl, ↓reduceIte, Nat.reduceEqDiff, Nat.reduceAdd, Nat.reduceMul, Nat.reduceSub, Nat.reduceLeDiff, Nat.reduceLT, Nat.reduceBEq, Nat.reduceBNe, reduceCtorEq, Int.reduceBEq, Int.reduceBNe, Int.reduceLT, Int.reduceLE, Int.reduceEq, Int.reduceToNat, Int.reduceAdd, Int.reduceSub, Int.reduceNeg, B5], by simp +contextual only [vq, vc, ve, vv, vn, vl, ↓reduceIte, Nat.reduceEqDiff, Nat.reduceAdd, Nat.reduceMul, Nat.reduceSub, Nat.reduceLeDiff, Nat.reduceLT, Nat.reduceBEq, Nat.reduceBNe, reduceCtorEq, Int.reduceBEq, Int.reduceBNe, Int.reduceLT, Int.reduceLE, Int.reduceEq, Int.reduceToNat, Int.reduceAdd, Int.reduceSub, Int.reduceNeg, B9], by simp +contextual only [vq, vc, ve, vv, vn, vl, ↓reduceIte, Nat.reduceEqDiff, Nat.reduceAdd, Nat.reduceMul, Nat.reduceSub, Nat.reduceLeDiff, Nat.reduceLT, Nat.reduceBEq, Nat.reduceBNe, reduceCtorEq, Int.reduceBEq, Int.reduceBNe, Int.reduceLT, Int.reduceLE, Int.reduceEq, Int.reduceToNat, Int.reduceAdd, Int.reduceSub, Int.reduceNeg, B11], by simp +contextual only [vq, vc, ve, vv, vn, vl, ↓reduceIte, Nat.reduceEqDiff, Nat.reduceAdd, Nat.reduceMul, Nat.reduceSub, Nat.reduceLeDiff, Nat.reduceLT, Nat.reduceBEq, Nat.reduceBNe, reduceCtorEq, Int.reduceBEq, Int.reduceBNe, Int.reduceLT, Int.reduceLE, Int.reduceEq, Int.reduceToNat, Int.reduceAdd, Int.reduceSub, Int.reduceNeg, B120], by simp +contextual only [vq, vc, ve, vv, vn, vl, ↓reduceIte, Nat.reduceEqDiff, Nat.reduceAdd, Nat.reduceMul, Nat.reduceSub, Nat.reduceLeDiff, Nat.reduceLT, Nat.reduceBEq, Nat.reduceBNe, reduceCtorEq, Int.reduceBEq, Int.reduceBNe, Int.reduceLT, Int.reduceLE, Int.reduceEq, Int.reduceToNat, Int.reduceAdd, Int.reduceSub, Int.reduceNeg], hcu, hcul, hcol.next, hD, hKl, hKK, hlK⟩
      · have hie : i = ll.length := by omega
        subst hie
        obtain ⟨da, dc, de, so2⟩ := hcur.slice
        have lv2 : lnbE v9 = some (.int .i64 ll.length) := by rw [so2, ← hcl]; rfl
        have e20 : ∀ p, p < ll.length → ext ll.length 0 p = 20 := fun p hp => by simp [ext, hp]
        have r5 := h5.keep (N' := N) fun j hj => hKN j (.inl hj)
        have r11 := h11.keep (N' := N) fun j hj => hKN j (.inr hj)
        have hS11 := c_l30_sameParts N v11 v5 _ _ r11.rows r5.rows (by omega) (by omega)
        rw [beq_self_eq_true] at hS11
        simp +contextual only [vq, vc, ve, vv, vn, vl, ↓reduceIte, Nat.reduceEqDiff, Nat.reduceAdd, Nat.reduceMul, Nat.reduceSub, Nat.reduceLeDiff, Nat.reduceLT, Nat.reduceBEq, Nat.reduceBNe, reduceCtorEq, Int.reduceBEq, Int.reduceBNe, Int.reduceLT, Int.reduceLE, Int.reduceEq, Int.reduceToNat, Int.reduceAdd, Int.reduceSub, Int.reduceNeg, A9, A120, A121, hlt, lv2]
        refine loop2 (fun q st => ∃ (i : Nat) (B : Fr), st = ⟨B, N, [], none⟩ ∧ q = ll.length - i ∧ i ≤ ll.length ∧ B 5 = v5 ∧ B 9 = v9 ∧ B 11 = v11 ∧ B 139 = .int .i64 ll.length ∧ B 140 = .int .i64 (i : Nat)) ll.length ⟨0, _, rfl, by omega, by omega, by simp +contextual only [vq, vc, ve, vv, vn, vl, ↓reduceIte, Nat.reduceEqDiff, Nat.reduceAdd, Nat.reduceMul, Nat.reduceSub, Nat.reduceLeDiff, Nat.reduceLT, Nat.reduceBEq, Nat.reduceBNe, reduceCtorEq, Int.reduceBEq, Int.reduceBNe, Int.reduceLT, Int.reduceLE, Int.reduceEq, Int.reduceToNat, Int.reduceAdd, Int.reduceSub, Int.reduceNeg, A5], by simp +contextual only [vq, vc, ve, vv, vn, vl, ↓reduceIte, Nat.reduceEqDiff, Nat.reduceAdd, Nat.reduceMul, Nat.reduceSub, Nat.reduceLeDiff, Nat.reduceLT, Nat.reduceBEq, Nat.reduceBNe, reduceCtorEq, Int.reduceBEq, Int.reduceBNe, Int.reduceLT, Int.reduceLE, Int.reduceEq, Int.reduceToNat, Int.reduceAdd, Int.reduceSub, Int.reduceNeg, A9], by simp +contextual only [vq, vc, ve, vv, vn, vl, ↓reduceIte, Nat.reduceEqDiff, Nat.reduceAdd, Nat.reduceMul, Nat.reduceSub, Nat.reduceLeDiff, Nat.reduceLT, Nat.reduceBEq, Nat.reduceBNe, reduceCtorEq, Int.reduceBEq, Int.reduceBNe, Int.reduceLT, Int.reduceLE, Int.reduceEq, Int.reduceToNat, Int.reduceAdd, Int.reduceSub, Int.reduceNeg, A11], by simp +contextual only [vq, vc, ve, vv, vn, vl, ↓reduceIte, Nat.reduceEqDiff, Nat.reduceAdd, Nat.reduceMul, Nat.reduceSub, Nat.reduceLeDiff, Nat.reduceLT, Nat.reduceBEq, Nat.reduceBNe, reduceCtorEq, Int.reduceBEq, Int.reduceBNe, Int.reduceLT, Int.reduceLE, Int.reduceEq, Int.reduceToNat, Int.reduceAdd, Int.reduceSub, Int.reduceNeg], by simp +contextual only [vq, vc, ve, vv, vn, vl, ↓reduceIte, Nat.reduceEqDiff, Nat.reduceAdd, Nat.reduceMul, Nat.reduceSub, Nat.reduceLeDiff, Nat.reduceLT, Nat.reduceBEq, Nat.reduceBNe, reduceCtorEq, Int.reduceBEq, Int.reduceBNe, Int.reduceLT, Int.reduceLE, Int.reduceEq, Int.reduceToNat, Int.reduceAdd, Int.reduceSub, Int.reduceNeg]; rfl⟩ fun J6 hJ6 q st hI => ?_
        obtain ⟨i, B, rfl, rfl, hi, B5, B9, B11, B139, B140⟩ := hI
        by_cases hil : i < ll.length
        · obtain ⟨a, u, e, ev, hoa, hu, _, hpu, _⟩ := hcur.get (show i < cur.length by omega)
          obtain ⟨hx1, hx2, hx3⟩ := hcol i _ (List.getElem?_eq_getElem (by omega))
          rw [e20 i hil] at hx1 hx2 hx3
          have hgb := hpu.bytes (G := G)
          have hicl : i < cur.length := by omega
          generalize cur[i] = l at hu hpu hx1 hx2 hx3 hgb
          obtain ⟨ub, uc, ue', hgx, _, _, hat⟩ := hgb.pos (by rintro rfl; simp at hx1)
          subst ue'
          rw [hcl] at ev
          rw [ev] at B9
          have wm : IntKind.i64.wrap ((l.length : Int) - 20) = ((l.length - 20 : Nat) : Int) := wrap_of (by omega) (by omega)
          simp +contextual only [vq, vc, ve, vv, vn, vl, ↓reduceIte, Nat.reduceEqDiff, Nat.reduceAdd, Nat.reduceMul, Nat.reduceSub, Nat.reduceLeDiff, Nat.reduceLT, Nat.reduceBEq, Nat.reduceBNe, reduceCtorEq, Int.reduceBEq, Int.reduceBNe, Int.reduceLT, Int.reduceLE, Int.reduceEq, Int.reduceToNat, Int.reduceAdd, Int.reduceSub, Int.reduceNeg, B9, B139, B140, hil, hu, wm]
          refine loop2 (fun q st => ∃ (jj : Nat) (C : Fr), st = ⟨C, N, [], none⟩ ∧ q = l.length - 20 - jj ∧ jj ≤ l.length - 20 ∧ C 5 = v5 ∧ C 9 = v9 ∧ C 11 = v11 ∧ C 18 = .int .i64 (i : Nat) ∧ C 19 = .int .i64 (l.length - 20 : Nat) ∧ C 20 = .int .i64 (jj : Nat) ∧ C 139 = .int .i64 ll.length ∧ C 140 = .int .i64 (i : Nat)) (l.length - 20) ⟨0, _, rfl, by omega, by omega, by simp +contextual only [vq, vc, ve, vv, vn, vl, ↓reduceIte, Nat.reduceEqDiff, Nat.reduceAdd, Nat.reduceMul, Nat.reduceSub, Nat.reduceLeDiff, Nat.reduceLT, Nat.reduceBEq, Nat.reduceBNe, reduceCtorEq, Int.reduceBEq, Int.reduceBNe, Int.reduceLT, Int.reduceLE, Int.reduceEq, Int.reduceToNat, Int.reduceAdd, Int.reduceSub, Int.reduceNeg, B5], by simp +contextual only [vq, vc, ve, vv, vn, vl, ↓reduceIte, Nat.reduceEqDiff, Nat.reduceAdd, Nat.reduceMul, Nat.reduceSub, Nat.reduceLeDiff, Nat.reduceLT, Nat.reduceBEq, Nat.reduceBNe, reduceCtorEq, Int.reduceBEq, Int.reduceBNe, Int.reduceLT, Int.reduceLE, Int.reduceEq, Int.reduceToNat, Int.reduceAdd, Int.reduceSub, Int.reduceNeg, B9, ev], by simp +contextual only [vq, vc, ve, vv, vn, vl, ↓reduceIte, Nat.reduceEqDiff, Nat.reduceAdd, Nat.reduceMul, Nat.reduceSub, Nat.reduceLeDiff, Nat.reduceLT, Nat.reduceBEq, Nat.reduceBNe, reduceCtorEq, Int.reduceBEq, Int.reduceBNe, Int.reduceLT, Int.reduceLE, Int.reduceEq, Int.reduceToNat, Int.reduceAdd, Int.reduceSub, Int.reduceNeg, B11], by simp +contextual only [vq, vc, ve, vv, vn, vl, ↓reduceIte, Nat.reduceEqDiff, Nat.reduceAdd, Nat.reduceMul, Nat.reduceSub, Nat.reduceLeDiff, Nat.reduceLT, Nat.reduceBEq, Nat.reduceBNe, reduceCtorEq, Int.reduceBEq, Int.reduceBNe, Int.reduceLT, Int.reduceLE, Int.reduceEq, Int.reduceToNat, Int.reduceAdd, Int.reduceSub, Int.reduceNeg], by simp +contextual only [vq, vc, ve, vv, vn, vl, ↓reduceIte, Nat.reduceEqDiff, Nat.reduceAdd, Nat.reduceMul, Nat.reduceSub, Nat.reduceLeDiff, Nat.reduceLT, Nat.reduceBEq, Nat.reduceBNe, reduceCtorEq, Int.reduceBEq, Int.reduceBNe, Int.reduceLT, Int.reduceLE, Int.reduceEq, Int.reduceToNat, Int.reduceAdd, Int.reduceSub, Int.reduceNeg], by simp +contextual only [vq, vc, ve, vv, vn, vl, ↓reduceIte, Nat.reduceEqDiff, Nat.reduceAdd, Nat.reduceMul, Nat.reduceSub, Nat.reduceLeDiff, Nat.reduceLT, Nat.reduceBEq, Nat.reduceBNe, reduceCtorEq, Int.reduceBEq, Int.reduceBNe, Int.reduceLT, Int.reduceLE, Int.reduceEq, Int.reduceToNat, Int.reduceAdd, Int.reduceSub, Int.reduceNeg]; rfl, by simp +contextual only [vq, vc, ve, vv, vn, vl, ↓reduceIte, Nat.reduceEqDiff, Nat.reduceAdd, Nat.reduceMul, Nat.reduceSub, Nat.reduceLeDiff, Nat.reduceLT, Nat.reduceBEq, Nat.reduceBNe, reduceCtorEq, Int.reduceBEq, Int.reduceBNe, Int.reduceLT, Int.reduceLE, Int.reduceEq, Int.reduceToNat, Int.reduceAdd, Int.reduceSub, Int.reduceNeg, B139], by simp +contextual only [vq, vc, ve, vv, vn, vl, ↓reduceIte, Nat.reduceEqDiff, Nat.reduceAdd, Nat.reduceMul, Nat.reduceSub, Nat.reduceLeDiff, Nat.reduceLT, Nat.reduceBEq, Nat.reduceBNe, reduceCtorEq, Int.reduceBEq, Int.reduceBNe, Int.reduceLT, Int.reduceLE, Int.reduceEq, Int.reduceToNat, Int.reduceAdd, Int.reduceSub, Int.reduceNeg, B140]⟩ fun J7 hJ7 q st hI => ?_
          obtain ⟨jj, C, rfl, rfl, hjj, C5, C9, C11, C18, C19, C20, C139, C140⟩ := hI
          by_cases hjl : jj < l.length - 20
          · have hjl2 : jj < l.length := by omega
            have hcj := hx3 jj _ (by omega) (List.getElem?_eq_getElem hjl2)
            have hgj := hat jj hjl2
            rw [hcj] at hgj
            have k0 : (((col i).toNat : Int) != ((col i).toNat : Int)) = false := by simp
            rw [ev] at C9
            simp +contextual only [vq, vc, ve, vv, vn, vl, ↓reduceIte, Nat.reduceEqDiff, Nat.reduceAdd, Nat.reduceMul, Nat.reduceSub, Nat.reduceLeDiff, Nat.reduceLT, Nat.reduceBEq, Nat.reduceBNe, reduceCtorEq, Int.reduceBEq, Int.reduceBNe, Int.reduceLT, Int.reduceLE, Int.reduceEq, Int.reduceToNat, Int.reduceAdd, Int.reduceSub, Int.reduceNeg, C9, C18, C19, C20, hil, hjl, hjl2, hu, hgj, w50, w200, wcol, k0, wsucc hjl (by omega)]
            exact again2 hJ7 (l.length - 20 - (jj + 1)) (by omega) ⟨jj + 1, _, rfl, rfl, by omega, by simp +contextual only [vq, vc, ve, vv, vn, vl, ↓reduceIte, Nat.reduceEqDiff, Nat.reduceAdd, Nat.reduceMul, Nat.reduceSub, Nat.reduceLeDiff, Nat.reduceLT, Nat.reduceBEq, Nat.reduceBNe, reduceCtorEq, Int.reduceBEq, Int.reduceBNe, Int.reduceLT, Int.reduceLE, Int.reduceEq, Int.reduceToNat, Int.reduceAdd, Int.reduceSub, Int.reduceNeg, C5], by simp +contextual only [vq, vc, ve, vv, vn, vl, ↓reduceIte, Nat.reduceEqDiff, Nat.reduceAdd, Nat.reduceMul, Nat.reduceSub, Nat.reduceLeDiff, Nat.reduceLT, Nat.reduceBEq, Nat.reduceBNe, reduceCtorEq, Int.reduceBEq, Int.reduceBNe, Int.reduceLT, Int.reduceLE, Int.reduceEq, Int.reduceToNat, Int.reduceAdd, Int.reduceSub, Int.reduceNeg, C9, ev], by simp +contextual only [vq, vc, ve, vv, vn, vl, ↓reduceIte, Nat.reduceEqDiff, Nat.reduceAdd, Nat.reduceMul, Nat.reduceSub, Nat.reduceLeDiff, Nat.reduceLT, Nat.reduceBEq, Nat.reduceBNe, reduceCtorEq, Int.reduceBEq, Int.reduceBNe, Int.reduceLT, Int.reduceLE, Int.reduceEq, Int.reduceToNat, Int.reduceAdd, Int.reduceSub, Int.reduceNeg, C11], by simp +contextual only [vq, vc, ve, vv, vn, vl, ↓reduceIte, Nat.reduceEqDiff, Nat.reduceAdd, Nat.reduceMul, Nat.reduceSub, Nat.reduceLeDiff, Nat.reduceLT, Nat.reduceBEq, Nat.reduceBNe, reduceCtorEq, Int.reduceBEq, Int.reduceBNe, Int.reduceLT, Int.reduceLE, Int.reduceEq, Int.reduceToNat, Int.reduceAdd, Int.reduceSub, Int.reduceNeg, C18], by simp +contextual only [vq, vc, ve, vv, vn, vl, ↓reduceIte, Nat.reduceEqDiff, Nat.reduceAdd, Nat.reduceMul, Nat.reduceSub, Nat.reduceLeDiff, Nat.reduceLT, Nat.reduceBEq, Nat.reduceBNe, reduceCtorEq, Int.reduceBEq, Int.reduceBNe, Int.reduceLT, Int.reduceLE, Int.reduceEq, Int.reduceToNat, Int.reduceAdd, Int.reduceSub, Int.reduceNeg, C19], by simp +contextual only [vq, vc, ve, vv, vn, vl, ↓reduceIte, Nat.reduceEqDiff, Nat.reduceAdd, Nat.reduceMul, Nat.reduceSub, Nat.reduceLeDiff, Nat.reduceLT, Nat.reduceBEq, Nat.reduceBNe, reduceCtorEq, Int.reduceBEq, Int.reduceBNe, Int.reduceLT, Int.reduceLE, Int.reduceEq, Int.reduceToNat, Int.reduceAdd, Int.reduceSub, Int.reduceNeg], by simp +contextual only [vq, vc, ve, vv, vn, vl, ↓reduceIte, Nat.reduceEqDiff, Nat.reduceAdd, Nat.reduceMul, Nat.reduceSub, Nat.reduceLeDiff, Nat.reduceLT, Nat.reduceBEq, Nat.reduceBNe, reduceCtorEq, Int.reduceBEq, Int.reduceBNe, Int.reduceLT, Int.reduceLE, Int.reduceEq, Int.reduceToNat, Int.reduceAdd, Int.reduceSub, Int.reduceNeg, C139], by simp +contextual only [vq, vc, ve, vv, vn, vl, ↓reduceIte, Nat.reduceEqDiff, Nat.reduceAdd, Nat.reduceMul, Nat.reduceSub, Nat.reduceLeDiff, Nat.reduceLT, Nat.reduceBEq, Nat.reduceBNe, reduceCtorEq, Int.reduceBEq, Int.reduceBNe, Int.reduceLT, Int.reduceLE, Int.reduceEq, Int.reduceToNat, Int.reduceAdd, Int.reduceSub, Int.reduceNeg, C140]⟩
          · simp +contextual only [vq, vc, ve, vv, vn, vl, ↓reduceIte, Nat.reduceEqDiff, Nat.reduceAdd, Nat.reduceMul, Nat.reduceSub, Nat.reduceLeDiff, Nat.reduceLT, Nat.reduceBEq, Nat.reduceBNe, reduceCtorEq, Int.reduceBEq, Int.reduceBNe, Int.reduceLT, Int.reduceLE, Int.reduceEq, Int.reduceToNat, Int.reduceAdd, Int.reduceSub, Int.reduceNeg, C19, C20, hjl, C140, wsucc hil (by omega)]
            exact again2 hJ6 (ll.length - (i + 1)) (by omega) ⟨i + 1, _, rfl, rfl, by omega, by simp +contextual only [vq, vc, ve, vv, vn, vl, ↓reduceIte, Nat.reduceEqDiff, Nat.reduceAdd, Nat.reduceMul, Nat.reduceSub, Nat.reduceLeDiff, Nat.reduceLT, Nat.reduceBEq, Nat.reduceBNe, reduceCtorEq, Int.reduceBEq, Int.reduceBNe, Int.reduceLT, Int.reduceLE, Int.reduceEq, Int.reduceToNat, Int.reduceAdd, Int.reduceSub, Int.reduceNeg, C5], by simp +contextual only [vq, vc, ve, vv, vn, vl, ↓reduceIte, Nat.reduceEqDiff, Nat.reduceAdd, Nat.reduceMul, Nat.reduceSub, Nat.reduceLeDiff, Nat.reduceLT, Nat.reduceBEq, Nat.reduceBNe, reduceCtorEq, Int.reduceBEq, Int.reduceBNe, Int.reduceLT, Int.reduceLE, Int.reduceEq, Int.reduceToNat, Int.reduceAdd, Int.reduceSub, Int.reduceNeg, C9], by simp +contextual only [vq, vc, ve, vv, vn, vl, ↓reduceIte, Nat.reduceEqDiff, Nat.reduceAdd, Nat.reduceMul, Nat.reduceSub, Nat.reduceLeDiff, Nat.reduceLT, Nat.reduceBEq, Nat.reduceBNe, reduceCtorEq, Int.reduceBEq, Int.reduceBNe, Int.reduceLT, Int.reduceLE, Int.reduceEq, Int.reduceToNat, Int.reduceAdd, Int.reduceSub, Int.reduceNeg, C11], by simp +contextual only [vq, vc, ve, vv, vn, vl, ↓reduceIte, Nat.reduceEqDiff, Nat.reduceAdd, Nat.reduceMul, Nat.reduceSub, Nat.reduceLeDiff, Nat.reduceLT, Nat.reduceBEq, Nat.reduceBNe, reduceCtorEq, Int.reduceBEq, Int.reduceBNe, Int.reduceLT, Int.reduceLE, Int.reduceEq, Int.reduceToNat, Int.reduceAdd, Int.reduceSub, Int.reduceNeg, C139], by simp +contextual only [vq, vc, ve, vv, vn, vl, ↓reduceIte, Nat.reduceEqDiff, Nat.reduceAdd, Nat.reduceMul, Nat.reduceSub, Nat.reduceLeDiff, Nat.reduceLT, Nat.reduceBEq, Nat.reduceBNe, reduceCtorEq, Int.reduceBEq, Int.reduceBNe, Int.reduceLT, Int.reduceLE, Int.reduceEq, Int.reduceToNat, Int.reduceAdd, Int.reduceSub, Int.reduceNeg]⟩
        · simp +contextual only [vq, vc, ve, vv, vn, vl, ↓reduceIte, Nat.reduceEqDiff, Nat.reduceAdd, Nat.reduceMul, Nat.reduceSub, Nat.reduceLeDiff, Nat.reduceLT, Nat.reduceBEq, Nat.reduceBNe, reduceCtorEq, Int.reduceBEq, Int.reduceBNe, Int.reduceLT, Int.reduceLE, Int.reduceEq, Int.reduceToNat, Int.reduceAdd, Int.reduceSub, Int.reduceNeg, B5, B11, B139, B140, hil, callR_val hS11, callR_val (c_l30_head N), hlN]
theorem lawAll (m : Mem) (xs : List EV) (hro : RO m) (hs : SitArgs 1048576 m [.slice (.int .u8), .str] xs) : ∃ m' p', Go.Ev.Comes T G f_l30_BounceParts xs m none ⟨.val (.bool true), m', p'⟩ := by
  obtain ⟨ys, r, rfl, h1, _, ys2, r2, rfl, h2, _, rfl⟩ := hs
  obtain ⟨v, s, rfl, hp, hl⟩ := sits_bytes h1
  obtain ⟨b, rfl, hb⟩ := sits_str h2
  exact ⟨m, none, law m v s b hp (by omega) (by omega)⟩
end Go.Proofs.YtjlpfijbnflknaaDoor.bounceParts
