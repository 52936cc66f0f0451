/- A part of the proof of the statement that this claim hands in: what single functions come to. There are no conditions. -/
import Derived.Test.YtmjoaiccbghijaaDoorRcL3
import Derived.Test.YtmjoaiccbghijaaDoorRcEv20
import Derived.Test.YtmjoaiccbghijaaDoorRcEv30
set_option linter.unusedVariables false
set_option linter.unusedSimpArgs false
set_option linter.unusedSectionVars false
namespace Go.Proofs.YtmjoaiccbghijaaDoor.paramRcpts
open Go.Ev hiding Comes
variable [GG]

theorem cap_up : ∀ b : UInt8, capB b = true → up b = b ∧ isF 4 b.toNat = true ∧ (48 ≤ b.toNat ∧ b.toNat ≤ 57 ∨ 65 ≤ b.toNat ∧ b.toNat ≤ 70) := by decide +kernel
theorem c_octet_value (m : Mem) (b : UInt8) (h : capB b = true) : Go.Ev.Comes T G f_octet_value [.int .u8 b.toNat] m none ⟨.val (.int .u8 (hexV b : Nat)), m, none⟩ := by
  refine comes2 T_octet_value rfl fun M hg hlen hlow => ?_
  have hl : m.bl.length ≤ M.low := by omega
  obtain ⟨h1, _, h2⟩ := cap_up b h
  have hU := c_octet_upper M b
  rw [h1] at hU
  simp only [F_octet_value]
  rcases h2 with h2 | h2
  · have k1 : ((65 : Int) ≤ (b.toNat : Int)) = False := eq_false (by omega)
    have e : hexV b = b.toNat - 48 := if_pos (by omega)
    have w : IntKind.u8.wrap ((b.toNat : Int) - 48) = ((b.toNat - 48 : Nat) : Int) := by rw [wrap8 (by omega) (by omega)]; omega
    simp +contextual only [vq, vc, ve, vv, vn, vl, ↓reduceIte, Nat.reduceEqDiff, Nat.reduceAdd, Nat.reduceMul, Nat.reduceSub, Nat.reduceLeDiff, Nat.reduceLT, Nat.reduceBEq, Nat.reduceBNe, reduceCtorEq, Int.reduceBEq, Int.reduceBNe, Int.reduceLT, Int.reduceLE, Int.reduceEq, Int.reduceToNat, Int.reduceAdd, Int.reduceSub, Int.reduceNeg, callR_val hU, k1, w, e, hl]
  · have k1 : ((65 : Int) ≤ (b.toNat : Int)) = True := eq_true (by omega)
    have e : hexV b = b.toNat - 55 := if_neg (by omega)
    have w : IntKind.u8.wrap ((b.toNat : Int) - 65) = ((b.toNat - 65 : Nat) : Int) := by rw [wrap8 (by omega) (by omega)]; omega
    have w2 : IntKind.u8.wrap (((b.toNat - 65 : Nat) : Int) + 10) = ((b.toNat - 55 : Nat) : Int) := by rw [wrap8 (by omega) (by omega)]; omega
    simp +contextual only [vq, vc, ve, vv, vn, vl, ↓reduceIte, Nat.reduceEqDiff, Nat.reduceAdd, Nat.reduceMul, Nat.reduceSub, Nat.reduceLeDiff, Nat.reduceLT, Nat.reduceBEq, Nat.reduceBNe, reduceCtorEq, Int.reduceBEq, Int.reduceBNe, Int.reduceLT, Int.reduceLE, Int.reduceEq, Int.reduceToNat, Int.reduceAdd, Int.reduceSub, Int.reduceNeg, callR_val hU, k1, w, w2, e, hl]
theorem shl16 (k : Nat) (h : k < 16) : shiftE .shl .u8 ((k : Nat) : Int) 4 = some (.int .u8 ((16 * k : Nat) : Int)) := by
  have h : ∀ k : Fin 16, IntKind.u8.wrap (((k.val : Nat) : Int) * 2 ^ min (4 : Int).toNat IntKind.u8.bits) = ((16 * k.val : Nat) : Int) := by decide +kernel
  unfold shiftE
  rw [if_neg (by decide)]
  simp only [h ⟨k, ‹_›⟩]
theorem or16 (i j : Nat) (hi : i < 16) (hj : j < 16) : bitsE .or .u8 ((16 * i : Nat) : Int) ((j : Nat) : Int) = ((UInt8.ofNat (16 * i + j)).toNat : Int) := by
  have h : ∀ i j : Fin 16, bitsE .or .u8 ((16 * i.val : Nat) : Int) ((j.val : Nat) : Int) = ((UInt8.ofNat (16 * i.val + j.val)).toNat : Int) := by decide +kernel
  exact h ⟨i, hi⟩ ⟨j, hj⟩
theorem c_octet_Unhex2 (m : Mem) (x y : UInt8) (hx : capB x = true) (hy : capB y = true) : ∃ r, Go.Ev.Comes T G f_octet_Unhex [.str [x, y]] m none r ∧ ∃ k M, r = ⟨.val (.tuple [.slice (some ⟨.mem k 0, 0⟩) 1 1 1, .agg [.int .i64 0, .int .i64 0]]), M, none⟩ ∧ Grown m M ∧ min m.low m.bl.length ≤ M.low ∧ m.bl.length ≤ k ∧ RowIs M k [byteE (UInt8.ofNat (16 * hexV x + hexV y))] := by
  refine comes2P T_octet_Unhex rfl fun M hg hlen hlow => ?_
  have hl0 : m.bl.length ≤ M.low := by omega
  obtain ⟨_, hx4, _⟩ := cap_up x hx
  obtain ⟨_, hy4, _⟩ := cap_up y hy
  have hxl := capB_lt x hx
  have hyl := capB_lt y hy
  have hsp : sp 4 [x, y] = 2 := by simp [sp, hx4, hy4]
  have hB := fun m => c_octet_Bad_string m 4 [x, y] (by simp)
  rw [hsp] at hB
  simp only [F_octet_Unhex]
  simp +contextual only [vq, vc, ve, vv, vn, vl, ↓reduceIte, Nat.reduceEqDiff, Nat.reduceAdd, Nat.reduceMul, Nat.reduceSub, Nat.reduceLeDiff, Nat.reduceLT, Nat.reduceBEq, Nat.reduceBNe, reduceCtorEq, Int.reduceBEq, Int.reduceBNe, Int.reduceLT, Int.reduceLE, Int.reduceEq, Int.reduceToNat, Int.reduceAdd, Int.reduceSub, Int.reduceNeg]
  refine new_mk fun M1 e1 => ?_
  have g1 : Grown m M1 := hg.trans (by rw [e1]; exact Grown.rfl'.push)
  have R1 : RowIs M1 M.bl.length [.int .i64 0, .int .i64 0] := by rw [e1]; exact row_push _ _
  have l1 : M1.low = M.low := by rw [e1]; rfl
  have b1 : M1.bl.length = M.bl.length + 1 := by rw [e1]; simp [Mem.push]
  have q1 : (((2 : Nat) : Int) < ((2 : Nat) : Int)) = False := eq_false (by omega)
  have q2 : ((((2 : Nat) : Int)).tmod 2 != 0) = false := rfl
  have q3 : IntKind.i64.wrap (((2 : Nat) : Int).tdiv 2) = ((1 : Nat) : Int) := rfl
  have q4 : ((1 : Nat) : Int) * ((1 : Nat) : Int) ≤ 281474976710656 := by decide
  simp +contextual only [vq, vc, ve, vv, vn, vl, ↓reduceIte, Nat.reduceEqDiff, Nat.reduceAdd, Nat.reduceMul, Nat.reduceSub, Nat.reduceLeDiff, Nat.reduceLT, Nat.reduceBEq, Nat.reduceBNe, reduceCtorEq, Int.reduceBEq, Int.reduceBNe, Int.reduceLT, Int.reduceLE, Int.reduceEq, Int.reduceToNat, Int.reduceAdd, Int.reduceSub, Int.reduceNeg, callR_val (hB _), q1, q2, q3, q4]
  refine new_mk fun M2 e2 => ?_
  have t2 : Grown M1 M2 := by rw [e2]; exact Grown.rfl'.push
  have l2 : M2.low = M1.low := by rw [e2]; rfl
  have b2 : M2.bl.length = M1.bl.length + 1 := by rw [e2]; simp [Mem.push]
  have B2 : Buf M2 M1.bl.length 1 1 [] := by rw [e2]; exact buf_mk rfl (by omega)
  simp +contextual only [vq, vc, ve, vv, vn, vl, ↓reduceIte, Nat.reduceEqDiff, Nat.reduceAdd, Nat.reduceMul, Nat.reduceSub, Nat.reduceLeDiff, Nat.reduceLT, Nat.reduceBEq, Nat.reduceBNe, reduceCtorEq, Int.reduceBEq, Int.reduceBNe, Int.reduceLT, Int.reduceLE, Int.reduceEq, Int.reduceToNat, Int.reduceAdd, Int.reduceSub, Int.reduceNeg]
  refine loop2 (fun n st => ∃ (i : Nat) (A : Fr) (N : Mem), st = ⟨A, N, [], none⟩ ∧ n = 1 - i ∧ i ≤ 1 ∧ A 0 = .str [x, y] ∧ A 3 = .ptr (some ⟨.mem M.bl.length 0, 0⟩) ∧ A 5 = .slice (some ⟨.mem M1.bl.length 0, 0⟩) i 1 1 ∧ A 6 = .int .i64 (2 * i : Nat) ∧ RowIs N M.bl.length [.int .i64 0, .int .i64 0] ∧ Buf N M1.bl.length 1 1 (if i = 0 then [] else [[byteE (UInt8.ofNat (16 * hexV x + hexV y))]]) ∧ Grown m N ∧ m.bl.length ≤ N.low) 1
    ⟨0, _, M2, rfl, by omega, by omega, by simp +contextual only [vq, vc, ve, vv, vn, vl, ↓reduceIte, Nat.reduceEqDiff, Nat.reduceAdd, Nat.reduceMul, Nat.reduceSub, Nat.reduceLeDiff, Nat.reduceLT, Nat.reduceBEq, Nat.reduceBNe, reduceCtorEq, Int.reduceBEq, Int.reduceBNe, Int.reduceLT, Int.reduceLE, Int.reduceEq, Int.reduceToNat, Int.reduceAdd, Int.reduceSub, Int.reduceNeg], by simp +contextual only [vq, vc, ve, vv, vn, vl, ↓reduceIte, Nat.reduceEqDiff, Nat.reduceAdd, Nat.reduceMul, Nat.reduceSub, Nat.reduceLeDiff, Nat.reduceLT, Nat.reduceBEq, Nat.reduceBNe, reduceCtorEq, Int.reduceBEq, Int.reduceBNe, Int.reduceLT, Int.reduceLE, Int.reduceEq, Int.reduceToNat, Int.reduceAdd, Int.reduceSub, Int.reduceNeg], by simp +contextual only [vq, vc, ve, vv, vn, vl, ↓reduceIte, Nat.reduceEqDiff, Nat.reduceAdd, Nat.reduceMul, Nat.reduceSub, Nat.reduceLeDiff, Nat.reduceLT, Nat.reduceBEq, Nat.reduceBNe, reduceCtorEq, Int.reduceBEq, Int.reduceBNe, Int.reduceLT, Int.reduceLE, Int.reduceEq, Int.reduceToNat, Int.reduceAdd, Int.reduceSub, Int.reduceNeg], by simp +contextual only [vq, vc, ve, vv, vn, vl, ↓reduceIte, Nat.reduceEqDiff, Nat.reduceAdd, Nat.reduceMul, Nat.reduceSub, Nat.reduceLeDiff, Nat.reduceLT, Nat.reduceBEq, Nat.reduceBNe, reduceCtorEq, Int.reduceBEq, Int.reduceBNe, Int.reduceLT, Int.reduceLE, Int.reduceEq, Int.reduceToNat, Int.reduceAdd, Int.reduceSub, Int.reduceNeg]; rfl, R1.grown t2, B2, g1.trans t2, by omega⟩ fun J hJ n st hI => ?_
  obtain ⟨i, A, N, rfl, rfl, hi, A0, A3, A5, A6, RN, BN, gN, lN⟩ := hI
  have hgl := gN.le
  have hbl := BN.lt
  by_cases h0 : i = 0
  · subst h0
    simp only [if_true] at BN
    have A6 : A 6 = .int .i64 0 := A6
    have hvx := fun m => c_octet_value m x hx
    have hvy := fun m => c_octet_value m y hy
    have k1 : ((0 : Int) < ((2 : Nat) : Int)) = True := eq_true (by omega)
    have w1 : IntKind.i64.wrap ((0 : Int) + 1) = 1 := rfl
    have w1' : IntKind.i64.wrap 1 = 1 := rfl
    have s1 := shl16 (hexV x) hxl
    have o1 := or16 (hexV x) (hexV y) hxl hyl
    simp +contextual only [vq, vc, ve, vv, vn, vl, ↓reduceIte, Nat.reduceEqDiff, Nat.reduceAdd, Nat.reduceMul, Nat.reduceSub, Nat.reduceLeDiff, Nat.reduceLT, Nat.reduceBEq, Nat.reduceBNe, reduceCtorEq, Int.reduceBEq, Int.reduceBNe, Int.reduceLT, Int.reduceLE, Int.reduceEq, Int.reduceToNat, Int.reduceAdd, Int.reduceSub, Int.reduceNeg, A0, A5, A6, k1, w1, w1', callR_val (hvx _), callR_val (hvy _), s1, o1]
    refine new_mk fun N1 n1 => ?_
    have gN1 : Grown N N1 := by rw [n1]; exact ⟨[_], rfl⟩
    have r1 : RowIs N1 N.bl.length [byteE (UInt8.ofNat (16 * hexV x + hexV y))] := by rw [n1]; exact row_push _ _
    have lN1 : N1.low = N.bl.length := by rw [n1]; rfl
    obtain ⟨N2, p2, B3, t3, w2⟩ := buf_append (G := G) (bytes := 1) (tag := tagB) (nr := [[byteE (UInt8.ofNat (16 * hexV x + hexV y))]]) (BN.grown gN1) (by simp [byteE]) (by simp) (by omega)
    simp only [List.length_nil, List.flatten_cons, List.flatten_nil, List.cons_append, List.nil_append, List.length_cons, Nat.zero_add, byteE] at p2 B3
    have gle1 := gN1.le
    simp +contextual only [vq, vc, ve, vv, vn, vl, ↓reduceIte, Nat.reduceEqDiff, Nat.reduceAdd, Nat.reduceMul, Nat.reduceSub, Nat.reduceLeDiff, Nat.reduceLT, Nat.reduceBEq, Nat.reduceBNe, reduceCtorEq, Int.reduceBEq, Int.reduceBNe, Int.reduceLT, Int.reduceLE, Int.reduceEq, Int.reduceToNat, Int.reduceAdd, Int.reduceSub, Int.reduceNeg, r1.getN (G := G), p2]
    have hlD : m.bl.length ≤ lowD N N2 := by
      unfold lowD
      split
      · exact lN
      · omega
    simp only [endD]
    have wi2 : IntKind.i64.wrap ((0 : Int) + 2) = ((2 : Nat) : Int) := rfl
    have wi3 : IntKind.i64.wrap 2 = ((2 : Nat) : Int) := rfl
    simp +contextual only [vq, vc, ve, vv, vn, vl, ↓reduceIte, Nat.reduceEqDiff, Nat.reduceAdd, Nat.reduceMul, Nat.reduceSub, Nat.reduceLeDiff, Nat.reduceLT, Nat.reduceBEq, Nat.reduceBNe, reduceCtorEq, Int.reduceBEq, Int.reduceBNe, Int.reduceLT, Int.reduceLE, Int.reduceEq, Int.reduceToNat, Int.reduceAdd, Int.reduceSub, Int.reduceNeg, A6, wi2, wi3]
    exact again2 hJ 0 (by omega) ⟨1, _, _, rfl, rfl, by omega, by simp +contextual only [vq, vc, ve, vv, vn, vl, ↓reduceIte, Nat.reduceEqDiff, Nat.reduceAdd, Nat.reduceMul, Nat.reduceSub, Nat.reduceLeDiff, Nat.reduceLT, Nat.reduceBEq, Nat.reduceBNe, reduceCtorEq, Int.reduceBEq, Int.reduceBNe, Int.reduceLT, Int.reduceLE, Int.reduceEq, Int.reduceToNat, Int.reduceAdd, Int.reduceSub, Int.reduceNeg, A0], by simp +contextual only [vq, vc, ve, vv, vn, vl, ↓reduceIte, Nat.reduceEqDiff, Nat.reduceAdd, Nat.reduceMul, Nat.reduceSub, Nat.reduceLeDiff, Nat.reduceLT, Nat.reduceBEq, Nat.reduceBNe, reduceCtorEq, Int.reduceBEq, Int.reduceBNe, Int.reduceLT, Int.reduceLE, Int.reduceEq, Int.reduceToNat, Int.reduceAdd, Int.reduceSub, Int.reduceNeg, A3], by simp +contextual only [vq, vc, ve, vv, vn, vl, ↓reduceIte, Nat.reduceEqDiff, Nat.reduceAdd, Nat.reduceMul, Nat.reduceSub, Nat.reduceLeDiff, Nat.reduceLT, Nat.reduceBEq, Nat.reduceBNe, reduceCtorEq, Int.reduceBEq, Int.reduceBNe, Int.reduceLT, Int.reduceLE, Int.reduceEq, Int.reduceToNat, Int.reduceAdd, Int.reduceSub, Int.reduceNeg], by simp +contextual only [vq, vc, ve, vv, vn, vl, ↓reduceIte, Nat.reduceEqDiff, Nat.reduceAdd, Nat.reduceMul, Nat.reduceSub, Nat.reduceLeDiff, Nat.reduceLT, Nat.reduceBEq, Nat.reduceBNe, reduceCtorEq, Int.reduceBEq, Int.reduceBNe, Int.reduceLT, Int.reduceLE, Int.reduceEq, Int.reduceToNat, Int.reduceAdd, Int.reduceSub, Int.reduceNeg], (RN.grown gN1).but t3 (by omega), B3, grown_but (gN.trans gN1) t3 (by omega), hlD⟩
  · have h1 : i = 1 := by omega
    subst h1
    simp only [Nat.one_ne_zero, if_false] at BN
    have A6 : A 6 = .int .i64 2 := A6
    have k1 : ((2 : Int) < ((2 : Nat) : Int)) = False := eq_false (by omega)
    obtain ⟨N2, p2, r2, t2, w2⟩ := putN_row (off := 0) (vs := [.int .i64 0, .int .i64 0]) RN (by simp)
    have r2 : RowIs N2 M.bl.length [.int .i64 0, .int .i64 0] := r2
    have b3 := BN.but t2 (by omega)
    have hr : RowIs N2 M1.bl.length [byteE (UInt8.ofNat (16 * hexV x + hexV y))] := by
      obtain ⟨cs, h1, h2, _, _, h3⟩ := b3
      have e : cs = [byteE (UInt8.ofNat (16 * hexV x + hexV y))] := by
        rw [show cs.take ([[byteE (UInt8.ofNat (16 * hexV x + hexV y))]].length * 1) = cs from List.take_of_length_le (by rw [h2]; simp)] at h3
        rw [h3]
        rfl
      rw [e] at h1
      exact h1
    simp +contextual only [vq, vc, ve, vv, vn, vl, ↓reduceIte, Nat.reduceEqDiff, Nat.reduceAdd, Nat.reduceMul, Nat.reduceSub, Nat.reduceLeDiff, Nat.reduceLT, Nat.reduceBEq, Nat.reduceBNe, reduceCtorEq, Int.reduceBEq, Int.reduceBNe, Int.reduceLT, Int.reduceLE, Int.reduceEq, Int.reduceToNat, Int.reduceAdd, Int.reduceSub, Int.reduceNeg, A0, A3, A5, A6, k1, p2]
    refine postX_new (v := .tuple [.slice (some ⟨.mem M1.bl.length 0, 0⟩) 1 1 1, .agg [.int .i64 0, .int .i64 0]]) (by simp +contextual only [vq, vc, ve, vv, vn, vl, ↓reduceIte, Nat.reduceEqDiff, Nat.reduceAdd, Nat.reduceMul, Nat.reduceSub, Nat.reduceLeDiff, Nat.reduceLT, Nat.reduceBEq, Nat.reduceBNe, reduceCtorEq, Int.reduceBEq, Int.reduceBNe, Int.reduceLT, Int.reduceLE, Int.reduceEq, Int.reduceToNat, Int.reduceAdd, Int.reduceSub, Int.reduceNeg, A3, r2.getN (G := G)]) ?_ ⟨M1.bl.length, _, rfl, grown_but gN t2 (by omega), by simp only; omega, by omega, hr⟩
    have : ¬ M1.bl.length < m.bl.length := by omega
    simp [noref, norefs, this]
end Go.Proofs.YtmjoaiccbghijaaDoor.paramRcpts

namespace Go.Proofs.YtmjoaiccbghijaaDoor.paramRcpts
open Go.Ev hiding Comes
variable [GG]

theorem cap4 (b : UInt8) : (!isF 4 b.toNat || decide (97 ≤ (b.toNat : Int))) = !capB b := by
  have h : ∀ n : Fin 256, (!isF 4 (UInt8.ofNat n.val).toNat || decide (97 ≤ ((UInt8.ofNat n.val).toNat : Int))) = !capB (UInt8.ofNat n.val) := by decide +kernel
  have := h ⟨b.toNat, b.toNat_lt⟩
  simp only [UInt8.ofNat_toNat] at this
  exact this
theorem c_param_Unxtext (m : Mem) (s : List UInt8) (hs : s.length ≤ 100000000) : Go.Ev.Comes T G f_param_Unxtext [.str s] m none ⟨.val (unxE (unxS s)), m, none⟩ := by
  refine comes2 T_param_Unxtext rfl fun M hg hlen hlow => ?_
  have hl0 : m.bl.length ≤ M.low := by omega
  simp only [F_param_Unxtext]
  simp +contextual only [vq, vc, ve, vv, vn, vl, ↓reduceIte, Nat.reduceEqDiff, Nat.reduceAdd, Nat.reduceMul, Nat.reduceSub, Nat.reduceLeDiff, Nat.reduceLT, Nat.reduceBEq, Nat.reduceBNe, reduceCtorEq, Int.reduceBEq, Int.reduceBNe, Int.reduceLT, Int.reduceLE, Int.reduceEq, Int.reduceToNat, Int.reduceAdd, Int.reduceSub, Int.reduceNeg]
  refine new_mk fun M1 e1 => ?_
  have R1 : RowIs M1 M.bl.length [.int .i64 0, .int .i64 0] := by rw [e1]; exact row_push _ _
  have l1 : m.bl.length ≤ M1.low := by rw [e1]; exact hl0
  have b1 : M1.bl.length = M.bl.length + 1 := by rw [e1]; simp [Mem.push]
  simp +contextual only [vq, vc, ve, vv, vn, vl, ↓reduceIte, Nat.reduceEqDiff, Nat.reduceAdd, Nat.reduceMul, Nat.reduceSub, Nat.reduceLeDiff, Nat.reduceLT, Nat.reduceBEq, Nat.reduceBNe, reduceCtorEq, Int.reduceBEq, Int.reduceBNe, Int.reduceLT, Int.reduceLE, Int.reduceEq, Int.reduceToNat, Int.reduceAdd, Int.reduceSub, Int.reduceNeg]
  refine loop2 (fun n st => ∃ i f o k v A N, st = ⟨A, N, [], none⟩ ∧ UnxI m M1 M.bl.length s n i f o k v A N) s.length ⟨0, s.length + 1, [], none, _, _, M1, rfl, rfl, by omega, by simp +contextual only [vq, vc, ve, vv, vn, vl, ↓reduceIte, Nat.reduceEqDiff, Nat.reduceAdd, Nat.reduceMul, Nat.reduceSub, Nat.reduceLeDiff, Nat.reduceLT, Nat.reduceBEq, Nat.reduceBNe, reduceCtorEq, Int.reduceBEq, Int.reduceBNe, Int.reduceLT, Int.reduceLE, Int.reduceEq, Int.reduceToNat, Int.reduceAdd, Int.reduceSub, Int.reduceNeg], by simp +contextual only [vq, vc, ve, vv, vn, vl, ↓reduceIte, Nat.reduceEqDiff, Nat.reduceAdd, Nat.reduceMul, Nat.reduceSub, Nat.reduceLeDiff, Nat.reduceLT, Nat.reduceBEq, Nat.reduceBNe, reduceCtorEq, Int.reduceBEq, Int.reduceBNe, Int.reduceLT, Int.reduceLE, Int.reduceEq, Int.reduceToNat, Int.reduceAdd, Int.reduceSub, Int.reduceNeg], by simp +contextual only [vq, vc, ve, vv, vn, vl, ↓reduceIte, Nat.reduceEqDiff, Nat.reduceAdd, Nat.reduceMul, Nat.reduceSub, Nat.reduceLeDiff, Nat.reduceLT, Nat.reduceBEq, Nat.reduceBNe, reduceCtorEq, Int.reduceBEq, Int.reduceBNe, Int.reduceLT, Int.reduceLE, Int.reduceEq, Int.reduceToNat, Int.reduceAdd, Int.reduceSub, Int.reduceNeg], by simp +contextual only [vq, vc, ve, vv, vn, vl, ↓reduceIte, Nat.reduceEqDiff, Nat.reduceAdd, Nat.reduceMul, Nat.reduceSub, Nat.reduceLeDiff, Nat.reduceLT, Nat.reduceBEq, Nat.reduceBNe, reduceCtorEq, Int.reduceBEq, Int.reduceBNe, Int.reduceLT, Int.reduceLE, Int.reduceEq, Int.reduceToNat, Int.reduceAdd, Int.reduceSub, Int.reduceNeg]; rfl, Priv.nil, (fun _ h => by cases h), Grown.rfl', l1, by omega, rfl, by simp⟩ fun J hJ n st hI => ?_
  obtain ⟨i, f, o, k, v, A, N, rfl, rfl, hi, A0, A3, A4, A5, hv, hk, gN, lN, hf, hu, ho⟩ := hI
  obtain ⟨f, rfl⟩ : ∃ g, f = g + 1 := ⟨f - 1, by omega⟩
  have hle := gN.le
  by_cases hlt : i < s.length
  · have hq : ((((s[i]).toNat : Int)) != 43) = (s[i] != 43) := by
      have := u8_eq s[i] 43
      simp only [bne]
      exact congrArg (! ·) this
    cases h9 : isF 9 s[i].toNat with
    | true =>
      rw [unx_see hlt h9] at hu
      simp +contextual only [vq, vc, ve, vv, vn, vl, ↓reduceIte, Nat.reduceEqDiff, Nat.reduceAdd, Nat.reduceMul, Nat.reduceSub, Nat.reduceLeDiff, Nat.reduceLT, Nat.reduceBEq, Nat.reduceBNe, reduceCtorEq, Int.reduceBEq, Int.reduceBNe, Int.reduceLT, Int.reduceLE, Int.reduceEq, Int.reduceToNat, Int.reduceAdd, Int.reduceSub, Int.reduceNeg, A0, A4, A5, hlt, get_byte hlt, callR_val (c_octet_Is _ _ _), h9]
      refine new_mk fun N1 n1 => ?_
      obtain ⟨r1, v', N2, k', ha, hp, hk', g2, l2⟩ := unx_lit (m := m) hv hk n1 gN (by omega) lN ho (by omega)
      simp only [byteE] at ha
      simp +contextual only [vq, vc, ve, vv, vn, vl, ↓reduceIte, Nat.reduceEqDiff, Nat.reduceAdd, Nat.reduceMul, Nat.reduceSub, Nat.reduceLeDiff, Nat.reduceLT, Nat.reduceBEq, Nat.reduceBNe, reduceCtorEq, Int.reduceBEq, Int.reduceBNe, Int.reduceLT, Int.reduceLE, Int.reduceEq, Int.reduceToNat, Int.reduceAdd, Int.reduceSub, Int.reduceNeg, A5, r1.getN (G := G), ha, wsucc hlt (by omega)]
      exact again2 hJ (s.length - (i + 1)) (by omega) ⟨i + 1, f, _, k', v', _, N2, rfl, rfl, by omega, by simp +contextual only [vq, vc, ve, vv, vn, vl, ↓reduceIte, Nat.reduceEqDiff, Nat.reduceAdd, Nat.reduceMul, Nat.reduceSub, Nat.reduceLeDiff, Nat.reduceLT, Nat.reduceBEq, Nat.reduceBNe, reduceCtorEq, Int.reduceBEq, Int.reduceBNe, Int.reduceLT, Int.reduceLE, Int.reduceEq, Int.reduceToNat, Int.reduceAdd, Int.reduceSub, Int.reduceNeg, A0], by simp +contextual only [vq, vc, ve, vv, vn, vl, ↓reduceIte, Nat.reduceEqDiff, Nat.reduceAdd, Nat.reduceMul, Nat.reduceSub, Nat.reduceLeDiff, Nat.reduceLT, Nat.reduceBEq, Nat.reduceBNe, reduceCtorEq, Int.reduceBEq, Int.reduceBNe, Int.reduceLT, Int.reduceLE, Int.reduceEq, Int.reduceToNat, Int.reduceAdd, Int.reduceSub, Int.reduceNeg, A3], by simp +contextual only [vq, vc, ve, vv, vn, vl, ↓reduceIte, Nat.reduceEqDiff, Nat.reduceAdd, Nat.reduceMul, Nat.reduceSub, Nat.reduceLeDiff, Nat.reduceLT, Nat.reduceBEq, Nat.reduceBNe, reduceCtorEq, Int.reduceBEq, Int.reduceBNe, Int.reduceLT, Int.reduceLE, Int.reduceEq, Int.reduceToNat, Int.reduceAdd, Int.reduceSub, Int.reduceNeg], by simp +contextual only [vq, vc, ve, vv, vn, vl, ↓reduceIte, Nat.reduceEqDiff, Nat.reduceAdd, Nat.reduceMul, Nat.reduceSub, Nat.reduceLeDiff, Nat.reduceLT, Nat.reduceBEq, Nat.reduceBNe, reduceCtorEq, Int.reduceBEq, Int.reduceBNe, Int.reduceLT, Int.reduceLE, Int.reduceEq, Int.reduceToNat, Int.reduceAdd, Int.reduceSub, Int.reduceNeg], hp, hk', g2, l2, by omega, hu, by simp; omega⟩
    | false =>
      cases h43 : (s[i] != 43) with
      | true =>
        have hne : s[i] ≠ 43 := by simpa using h43
        rw [h43] at hq
        rw [unx_not hlt h9 hne] at hu
        obtain ⟨N2, w1, w2, w3⟩ := unx_err R1 gN lN (show m.bl.length ≤ M.bl.length by omega) 104 (i : Int)
        simp +contextual only [vq, vc, ve, vv, vn, vl, ↓reduceIte, Nat.reduceEqDiff, Nat.reduceAdd, Nat.reduceMul, Nat.reduceSub, Nat.reduceLeDiff, Nat.reduceLT, Nat.reduceBEq, Nat.reduceBNe, reduceCtorEq, Int.reduceBEq, Int.reduceBNe, Int.reduceLT, Int.reduceLE, Int.reduceEq, Int.reduceToNat, Int.reduceAdd, Int.reduceSub, Int.reduceNeg, A0, A3, A5, hlt, get_byte hlt, hq, callR_val (c_octet_Is _ _ _), h9, w1, w2, w3, ← hu, unxE]
      | false =>
      have heq : s[i] = 43 := by simpa using h43
      rw [h43] at hq
      have w1 : IntKind.i64.wrap ((i : Int) + 1) = ((i + 1 : Nat) : Int) := wrap_of (by omega) (by omega)
      have w2 : IntKind.i64.wrap ((i : Int) + 2) = ((i + 2 : Nat) : Int) := wrap_of (by omega) (by omega)
      have w3 : IntKind.i64.wrap ((i : Int) + 3) = ((i + 3 : Nat) : Int) := wrap_of (by omega) (by omega)
      simp +contextual only [vq, vc, ve, vv, vn, vl, ↓reduceIte, Nat.reduceEqDiff, Nat.reduceAdd, Nat.reduceMul, Nat.reduceSub, Nat.reduceLeDiff, Nat.reduceLT, Nat.reduceBEq, Nat.reduceBNe, reduceCtorEq, Int.reduceBEq, Int.reduceBNe, Int.reduceLT, Int.reduceLE, Int.reduceEq, Int.reduceToNat, Int.reduceAdd, Int.reduceSub, Int.reduceNeg, A0, A5, hlt, get_byte hlt, hq, callR_val (c_octet_Is _ _ _), h9, w1]
      refine loop2 (fun n st => ∃ c B, st = ⟨B, N, [], none⟩ ∧ n = 3 - c ∧ 1 ≤ c ∧ c ≤ 3 ∧ B 0 = .str s ∧ B 3 = .ptr (some ⟨.mem M.bl.length 0, 0⟩) ∧ B 4 = v ∧ B 5 = .int .i64 (i : Nat) ∧ B 6 = .int .i64 (i + c : Nat) ∧ ∀ j, 1 ≤ j → j < c → capAt s (i + j) = true) 2 ⟨1, _, rfl, by omega, by omega, by omega, by simp +contextual only [vq, vc, ve, vv, vn, vl, ↓reduceIte, Nat.reduceEqDiff, Nat.reduceAdd, Nat.reduceMul, Nat.reduceSub, Nat.reduceLeDiff, Nat.reduceLT, Nat.reduceBEq, Nat.reduceBNe, reduceCtorEq, Int.reduceBEq, Int.reduceBNe, Int.reduceLT, Int.reduceLE, Int.reduceEq, Int.reduceToNat, Int.reduceAdd, Int.reduceSub, Int.reduceNeg, A0], by simp +contextual only [vq, vc, ve, vv, vn, vl, ↓reduceIte, Nat.reduceEqDiff, Nat.reduceAdd, Nat.reduceMul, Nat.reduceSub, Nat.reduceLeDiff, Nat.reduceLT, Nat.reduceBEq, Nat.reduceBNe, reduceCtorEq, Int.reduceBEq, Int.reduceBNe, Int.reduceLT, Int.reduceLE, Int.reduceEq, Int.reduceToNat, Int.reduceAdd, Int.reduceSub, Int.reduceNeg, A3], by simp +contextual only [vq, vc, ve, vv, vn, vl, ↓reduceIte, Nat.reduceEqDiff, Nat.reduceAdd, Nat.reduceMul, Nat.reduceSub, Nat.reduceLeDiff, Nat.reduceLT, Nat.reduceBEq, Nat.reduceBNe, reduceCtorEq, Int.reduceBEq, Int.reduceBNe, Int.reduceLT, Int.reduceLE, Int.reduceEq, Int.reduceToNat, Int.reduceAdd, Int.reduceSub, Int.reduceNeg, A4], by simp +contextual only [vq, vc, ve, vv, vn, vl, ↓reduceIte, Nat.reduceEqDiff, Nat.reduceAdd, Nat.reduceMul, Nat.reduceSub, Nat.reduceLeDiff, Nat.reduceLT, Nat.reduceBEq, Nat.reduceBNe, reduceCtorEq, Int.reduceBEq, Int.reduceBNe, Int.reduceLT, Int.reduceLE, Int.reduceEq, Int.reduceToNat, Int.reduceAdd, Int.reduceSub, Int.reduceNeg, A5], by simp +contextual only [vq, vc, ve, vv, vn, vl, ↓reduceIte, Nat.reduceEqDiff, Nat.reduceAdd, Nat.reduceMul, Nat.reduceSub, Nat.reduceLeDiff, Nat.reduceLT, Nat.reduceBEq, Nat.reduceBNe, reduceCtorEq, Int.reduceBEq, Int.reduceBNe, Int.reduceLT, Int.reduceLE, Int.reduceEq, Int.reduceToNat, Int.reduceAdd, Int.reduceSub, Int.reduceNeg], fun j h1 h2 => by omega⟩ fun J2 hJ2 n2 st2 hI2 => ?_
      obtain ⟨c, B, rfl, rfl, hc1, hc3, B0, B3, B4, B5, B6, hcap⟩ := hI2
      have hwc1 : IntKind.i64.wrap (((i + c : Nat) : Int) + 1) = ((i + (c + 1) : Nat) : Int) := wrap_of (by omega) (by omega)
      by_cases hc2 : c ≤ 2
      · have kc : (i + c ≤ i + 2) = True := eq_true (by omega)
        by_cases hic : i + c < s.length
        · have k3 : (s.length ≤ i + c) = False := eq_false (by omega)
          have hca := capAt_get hic
          cases h44 : isF 4 s[i + c].toNat with
          | false =>
            have hcf : capAt s (i + c) = false := by rw [hca, capB, h44, Bool.false_and]
            rw [unx_bad hlt heq ⟨hc1, hc2⟩ hcap hcf] at hu
            obtain ⟨N2, q1, q2, q3⟩ := unx_err R1 gN lN (show m.bl.length ≤ M.bl.length by omega) 104 ((i + c : Nat) : Int)
            simp +contextual only [vq, vc, ve, vv, vn, vl, ↓reduceIte, Nat.reduceEqDiff, Nat.reduceAdd, Nat.reduceMul, Nat.reduceSub, Nat.reduceLeDiff, Nat.reduceLT, Nat.reduceBEq, Nat.reduceBNe, reduceCtorEq, Int.reduceBEq, Int.reduceBNe, Int.reduceLT, Int.reduceLE, Int.reduceEq, Int.reduceToNat, Int.reduceAdd, Int.reduceSub, Int.reduceNeg, B0, B3, B5, B6, w2, kc, k3, get_byte hic, callR_val (c_octet_Is _ _ _), h44, q1, q2, q3, ← hu, unxE]
          | true =>
            by_cases h97 : 97 ≤ (s[i + c].toNat : Int)
            · have hcf : capAt s (i + c) = false := by rw [hca, capB, h44, Bool.true_and, decide_eq_false (by omega)]
              rw [unx_bad hlt heq ⟨hc1, hc2⟩ hcap hcf] at hu
              obtain ⟨N2, q1, q2, q3⟩ := unx_err R1 gN lN (show m.bl.length ≤ M.bl.length by omega) 104 ((i + c : Nat) : Int)
              simp +contextual only [vq, vc, ve, vv, vn, vl, ↓reduceIte, Nat.reduceEqDiff, Nat.reduceAdd, Nat.reduceMul, Nat.reduceSub, Nat.reduceLeDiff, Nat.reduceLT, Nat.reduceBEq, Nat.reduceBNe, reduceCtorEq, Int.reduceBEq, Int.reduceBNe, Int.reduceLT, Int.reduceLE, Int.reduceEq, Int.reduceToNat, Int.reduceAdd, Int.reduceSub, Int.reduceNeg, B0, B3, B5, B6, w2, kc, k3, get_byte hic, callR_val (c_octet_Is _ _ _), h44, h97, q1, q2, q3, ← hu, unxE]
            · have hct : capAt s (i + c) = true := by rw [hca, capB, h44, Bool.true_and, decide_eq_true (by omega)]
              simp +contextual only [vq, vc, ve, vv, vn, vl, ↓reduceIte, Nat.reduceEqDiff, Nat.reduceAdd, Nat.reduceMul, Nat.reduceSub, Nat.reduceLeDiff, Nat.reduceLT, Nat.reduceBEq, Nat.reduceBNe, reduceCtorEq, Int.reduceBEq, Int.reduceBNe, Int.reduceLT, Int.reduceLE, Int.reduceEq, Int.reduceToNat, Int.reduceAdd, Int.reduceSub, Int.reduceNeg, B0, B5, B6, w2, kc, k3, get_byte hic, callR_val (c_octet_Is _ _ _), h44, h97, hwc1]
              refine again2 hJ2 (3 - (c + 1)) (by omega) ⟨c + 1, _, rfl, rfl, by omega, by omega, by simp +contextual only [vq, vc, ve, vv, vn, vl, ↓reduceIte, Nat.reduceEqDiff, Nat.reduceAdd, Nat.reduceMul, Nat.reduceSub, Nat.reduceLeDiff, Nat.reduceLT, Nat.reduceBEq, Nat.reduceBNe, reduceCtorEq, Int.reduceBEq, Int.reduceBNe, Int.reduceLT, Int.reduceLE, Int.reduceEq, Int.reduceToNat, Int.reduceAdd, Int.reduceSub, Int.reduceNeg, B0], by simp +contextual only [vq, vc, ve, vv, vn, vl, ↓reduceIte, Nat.reduceEqDiff, Nat.reduceAdd, Nat.reduceMul, Nat.reduceSub, Nat.reduceLeDiff, Nat.reduceLT, Nat.reduceBEq, Nat.reduceBNe, reduceCtorEq, Int.reduceBEq, Int.reduceBNe, Int.reduceLT, Int.reduceLE, Int.reduceEq, Int.reduceToNat, Int.reduceAdd, Int.reduceSub, Int.reduceNeg, B3], by simp +contextual only [vq, vc, ve, vv, vn, vl, ↓reduceIte, Nat.reduceEqDiff, Nat.reduceAdd, Nat.reduceMul, Nat.reduceSub, Nat.reduceLeDiff, Nat.reduceLT, Nat.reduceBEq, Nat.reduceBNe, reduceCtorEq, Int.reduceBEq, Int.reduceBNe, Int.reduceLT, Int.reduceLE, Int.reduceEq, Int.reduceToNat, Int.reduceAdd, Int.reduceSub, Int.reduceNeg, B4], by simp +contextual only [vq, vc, ve, vv, vn, vl, ↓reduceIte, Nat.reduceEqDiff, Nat.reduceAdd, Nat.reduceMul, Nat.reduceSub, Nat.reduceLeDiff, Nat.reduceLT, Nat.reduceBEq, Nat.reduceBNe, reduceCtorEq, Int.reduceBEq, Int.reduceBNe, Int.reduceLT, Int.reduceLE, Int.reduceEq, Int.reduceToNat, Int.reduceAdd, Int.reduceSub, Int.reduceNeg, B5], by simp +contextual only [vq, vc, ve, vv, vn, vl, ↓reduceIte, Nat.reduceEqDiff, Nat.reduceAdd, Nat.reduceMul, Nat.reduceSub, Nat.reduceLeDiff, Nat.reduceLT, Nat.reduceBEq, Nat.reduceBNe, reduceCtorEq, Int.reduceBEq, Int.reduceBNe, Int.reduceLT, Int.reduceLE, Int.reduceEq, Int.reduceToNat, Int.reduceAdd, Int.reduceSub, Int.reduceNeg], fun j h1 h2 => ?_⟩
              by_cases hjc : j = c
              · subst hjc; exact hct
              · exact hcap j h1 (by omega)
        · have k3 : (s.length ≤ i + c) = True := eq_true (by omega)
          have hca : capAt s (i + c) = false := capAt_none (by omega)
          rw [unx_bad hlt heq ⟨hc1, hc2⟩ hcap hca] at hu
          obtain ⟨N2, q1, q2, q3⟩ := unx_err R1 gN lN (show m.bl.length ≤ M.bl.length by omega) 104 ((i + c : Nat) : Int)
          simp +contextual only [vq, vc, ve, vv, vn, vl, ↓reduceIte, Nat.reduceEqDiff, Nat.reduceAdd, Nat.reduceMul, Nat.reduceSub, Nat.reduceLeDiff, Nat.reduceLT, Nat.reduceBEq, Nat.reduceBNe, reduceCtorEq, Int.reduceBEq, Int.reduceBNe, Int.reduceLT, Int.reduceLE, Int.reduceEq, Int.reduceToNat, Int.reduceAdd, Int.reduceSub, Int.reduceNeg, B0, B3, B5, B6, w2, kc, k3, q1, q2, q3, ← hu, unxE]
      · have hc : c = 3 := by omega
        subst hc
        have kc : (i + 3 ≤ i + 2) = False := eq_false (by omega)
        have q1 := hcap 1 (by omega) (by omega)
        have q2 := hcap 2 (by omega) (by omega)
        rw [unx_good hlt heq q1 q2] at hu
        obtain ⟨h1, c1, d1⟩ := capAt_lt q1
        obtain ⟨h2, c2, d2⟩ := capAt_lt q2
        rw [d1, d2] at hu
        have k1 : i + 1 ≤ i + 3 := by omega
        have k2 : i + 3 ≤ s.length := by omega
        have cut : List.take (i + 3 - (i + 1)) (List.drop (i + 1) s) = [s[i + 1], s[i + 2]] := by
          rw [show i + 3 - (i + 1) = 2 by omega, List.drop_eq_getElem_cons h1, List.drop_eq_getElem_cons h2]
          rfl
        obtain ⟨_, hc, kb, N1, rfl, g1, l1, hkb, hr⟩ := c_octet_Unhex2 N s[i + 1] s[i + 2] c1 c2
        simp +contextual only [vq, vc, ve, vv, vn, vl, ↓reduceIte, Nat.reduceEqDiff, Nat.reduceAdd, Nat.reduceMul, Nat.reduceSub, Nat.reduceLeDiff, Nat.reduceLT, Nat.reduceBEq, Nat.reduceBNe, reduceCtorEq, Int.reduceBEq, Int.reduceBNe, Int.reduceLT, Int.reduceLE, Int.reduceEq, Int.reduceToNat, Int.reduceAdd, Int.reduceSub, Int.reduceNeg, B0, B4, B5, B6, kc, w1, w2, w3, k1, k2, cut, callR_val hc]
        refine new_mk fun N2 n2 => ?_
        obtain ⟨N3, p3, g3, r3, l3, w3'⟩ := put_new n2 (cs := [.int .i64 0, .int .i64 0]) rfl
        have hle1 := g1.le
        have hsrc : srcCells G N3 1 (.slice (some ⟨.mem kb 0, 0⟩) 1 1 1) = some (bytesE [UInt8.ofNat (16 * hexV s[i + 1] + hexV s[i + 2])], 1) := by
          have := (hr.grown g3).getN (G := G) 0 1
          simp only [srcCells, Nat.one_mul, this]
          rfl
        obtain ⟨v', N4, k', ha, hp, hk', g4, l4⟩ := priv_grow (n1 := m.bl.length) (hv.grown (g1.trans g3)) hk ((gN.trans g1).trans g3) (by omega) (by omega) [UInt8.ofNat (16 * hexV s[i + 1] + hexV s[i + 2])] (by simp; omega)
        have ha : appendE G N3 1 1 tagB v (bytesE [UInt8.ofNat (16 * hexV s[i + 1] + hexV s[i + 2])]) 1 = some (v', N4) := ha
        have w4 : IntKind.i64.wrap (((i + 2 : Nat) : Int) + 1) = ((i + 3 : Nat) : Int) := wrap_of (by omega) (by omega)
        simp +contextual only [vq, vc, ve, vv, vn, vl, ↓reduceIte, Nat.reduceEqDiff, Nat.reduceAdd, Nat.reduceMul, Nat.reduceSub, Nat.reduceLeDiff, Nat.reduceLT, Nat.reduceBEq, Nat.reduceBNe, reduceCtorEq, Int.reduceBEq, Int.reduceBNe, Int.reduceLT, Int.reduceLE, Int.reduceEq, Int.reduceToNat, Int.reduceAdd, Int.reduceSub, Int.reduceNeg, p3, hsrc, ha, B4, B5, w2, w4]
        exact again2 hJ (s.length - (i + 3)) (by omega) ⟨i + 3, f, _, k', v', _, _, rfl, rfl, by omega, by simp +contextual only [vq, vc, ve, vv, vn, vl, ↓reduceIte, Nat.reduceEqDiff, Nat.reduceAdd, Nat.reduceMul, Nat.reduceSub, Nat.reduceLeDiff, Nat.reduceLT, Nat.reduceBEq, Nat.reduceBNe, reduceCtorEq, Int.reduceBEq, Int.reduceBNe, Int.reduceLT, Int.reduceLE, Int.reduceEq, Int.reduceToNat, Int.reduceAdd, Int.reduceSub, Int.reduceNeg, B0], by simp +contextual only [vq, vc, ve, vv, vn, vl, ↓reduceIte, Nat.reduceEqDiff, Nat.reduceAdd, Nat.reduceMul, Nat.reduceSub, Nat.reduceLeDiff, Nat.reduceLT, Nat.reduceBEq, Nat.reduceBNe, reduceCtorEq, Int.reduceBEq, Int.reduceBNe, Int.reduceLT, Int.reduceLE, Int.reduceEq, Int.reduceToNat, Int.reduceAdd, Int.reduceSub, Int.reduceNeg, B3], by simp +contextual only [vq, vc, ve, vv, vn, vl, ↓reduceIte, Nat.reduceEqDiff, Nat.reduceAdd, Nat.reduceMul, Nat.reduceSub, Nat.reduceLeDiff, Nat.reduceLT, Nat.reduceBEq, Nat.reduceBNe, reduceCtorEq, Int.reduceBEq, Int.reduceBNe, Int.reduceLT, Int.reduceLE, Int.reduceEq, Int.reduceToNat, Int.reduceAdd, Int.reduceSub, Int.reduceNeg], by simp +contextual only [vq, vc, ve, vv, vn, vl, ↓reduceIte, Nat.reduceEqDiff, Nat.reduceAdd, Nat.reduceMul, Nat.reduceSub, Nat.reduceLeDiff, Nat.reduceLT, Nat.reduceBEq, Nat.reduceBNe, reduceCtorEq, Int.reduceBEq, Int.reduceBNe, Int.reduceLT, Int.reduceLE, Int.reduceEq, Int.reduceToNat, Int.reduceAdd, Int.reduceSub, Int.reduceNeg], hp, hk', g4, l4, by omega, hu, by simp; omega⟩
  · have he : i = s.length := by omega
    subst he
    rw [unx_end (Nat.le_refl _)] at hu
    obtain ⟨N2, w1, w2, w3⟩ := unx_err R1 gN lN (show m.bl.length ≤ M.bl.length by omega) 0 0
    have ht : tosE G N v = some (.str o) := hv.bytes.tos
    simp +contextual only [vq, vc, ve, vv, vn, vl, ↓reduceIte, Nat.reduceEqDiff, Nat.reduceAdd, Nat.reduceMul, Nat.reduceSub, Nat.reduceLeDiff, Nat.reduceLT, Nat.reduceBEq, Nat.reduceBNe, reduceCtorEq, Int.reduceBEq, Int.reduceBNe, Int.reduceLT, Int.reduceLE, Int.reduceEq, Int.reduceToNat, Int.reduceAdd, Int.reduceSub, Int.reduceNeg, A0, A3, A4, A5, ht, w1, w2, w3, ← hu, unxE]
end Go.Proofs.YtmjoaiccbghijaaDoor.paramRcpts

namespace Go.Proofs.YtmjoaiccbghijaaDoor.paramRcpts
open Go.Ev hiding Comes
variable [GG]

/-- What is left of writes to one block. -/
theorem wrote_edit {m M1 N : Mem} {b : Nat} (hg : Grown m M1) (hb : b < m.bl.length) (h1 : M1.bl.length ≤ N.bl.length) (h2 : ∀ j, j < M1.bl.length → j ≠ b → N.bl[j]? = M1.bl[j]?) (hl : b ≤ N.low) : Edit b none m ⟨N.bl, min m.low N.low⟩ := by
  have hle := hg.le
  exact ⟨fun j q1 q2 _ => by simp only; rw [h2 j (by omega) q2, hg.at q1], by simp only; omega, fun n0 q1 q2 q3 _ => by simp only; omega⟩
theorem c_param_Rcpt_1 (a : RcO) (m : Mem) (b k : Nat) (p : Par) (hk : k < 2) (hv : p.value.length ≤ 100000000) (hb : RowIs m b (roE a)) :
    ∃ m', Go.Ev.Comes T G f_param_Rcpt_1 [.int .i64 (k : Nat), .agg (parE p), .ptr (some ⟨.mem b 0, 0⟩)] m none ⟨.val (.bool (stpR a k p).1), m', none⟩ ∧ RowIs m' b (roE (stpR a k p).2) ∧ Edit b none m m' ∧ Wr b m m' := by
  suffices H : ∃ r, Go.Ev.Comes T G f_param_Rcpt_1 [.int .i64 (k : Nat), .agg (parE p), .ptr (some ⟨.mem b 0, 0⟩)] m none r ∧ ∃ m', r = ⟨.val (.bool (stpR a k p).1), m', none⟩ ∧ RowIs m' b (roE (stpR a k p).2) ∧ Edit b none m m' ∧ Wr b m m' by
    obtain ⟨_, hc, m', rfl, h⟩ := H
    exact ⟨m', hc, h⟩
  refine comes2P T_param_Rcpt_1 rfl fun M hg hlen hlow => ?_
  have hl0 : m.bl.length ≤ M.low := by omega
  have hbl := hb.lt
  simp only [F_param_Rcpt_1]
  simp +contextual only [vq, vc, ve, vv, vn, vl, ↓reduceIte, Nat.reduceEqDiff, Nat.reduceAdd, Nat.reduceMul, Nat.reduceSub, Nat.reduceLeDiff, Nat.reduceLT, Nat.reduceBEq, Nat.reduceBNe, reduceCtorEq, Int.reduceBEq, Int.reduceBNe, Int.reduceLT, Int.reduceLE, Int.reduceEq, Int.reduceToNat, Int.reduceAdd, Int.reduceSub, Int.reduceNeg, parE]
  refine new_mk fun M1 e1 => ?_
  have g1 : Grown m M1 := hg.trans (by rw [e1]; exact Grown.rfl'.push)
  have P1 : RowIs M1 M.bl.length [.str p.name, .str p.value, .bool p.has] := by rw [e1]; exact row_push _ _
  have l1 : m.bl.length ≤ M1.low := by rw [e1]; exact hl0
  have R1 : RowIs M1 b (roE a) := hb.grown g1
  have hle1 := g1.le
  have hp1 := P1.lt
  -- an end behind writes
  have fin : ∀ (B : Fr) (N : Mem) (v : Bool) (a' : RcO), B 5 = .bool v → RowIs N b (roE a') → M1.bl.length ≤ N.bl.length → (∀ j, j < M1.bl.length → j ≠ b → N.bl[j]? = M1.bl[j]?) → b ≤ N.low → N.low ≤ b →
      postX G [.tmp 5] m (fun r => ∃ m', r = ⟨.val (.bool v), m', none⟩ ∧ RowIs m' b (roE a') ∧ Edit b none m m' ∧ Wr b m m') .ret ⟨B, N, [], none⟩ := fun B N v a' hB hR q1 q2 q3 q4 =>
    postX_wrote (v := .bool v) (by simp +contextual only [vq, vc, ve, vv, vn, vl, ↓reduceIte, Nat.reduceEqDiff, Nat.reduceAdd, Nat.reduceMul, Nat.reduceSub, Nat.reduceLeDiff, Nat.reduceLT, Nat.reduceBEq, Nat.reduceBNe, reduceCtorEq, Int.reduceBEq, Int.reduceBNe, Int.reduceLT, Int.reduceLE, Int.reduceEq, Int.reduceToNat, Int.reduceAdd, Int.reduceSub, Int.reduceNeg, hB]) (by omega) ⟨_, rfl, hR, wrote_edit g1 hbl q1 q2 q3, fun h => by simp only at h; omega⟩
  by_cases h0 : k = 0
  · subst h0
    have e : stpR a 0 p = (p.has && decide (0 < notifyS p.value), { a with notify := notifyS p.value }) := if_pos rfl
    rw [e]
    have hN := c_param_notify M1 p.value (by omega)
    simp only [roE] at R1
    obtain ⟨N, p2, R2, t2, w2⟩ := put1_row (off := 0) (v := .int .i64 (notifyS p.value : Nat)) R1 (by simp)
    have P2 := P1.but t2 (by omega)
    have z : (((0 : Nat) : Int) == 0) = true := rfl
    have z2 : ((0 : Int) < ((notifyS p.value : Nat) : Int)) = (0 < notifyS p.value) := propext ⟨fun h => by omega, fun h => by omega⟩
    have R2 : RowIs N b [.int .i64 (notifyS p.value : Nat), .bool a.hasOrig, .str a.orig] := R2
    simp +contextual only [vq, vc, ve, vv, vn, vl, ↓reduceIte, Nat.reduceEqDiff, Nat.reduceAdd, Nat.reduceMul, Nat.reduceSub, Nat.reduceLeDiff, Nat.reduceLT, Nat.reduceBEq, Nat.reduceBNe, reduceCtorEq, Int.reduceBEq, Int.reduceBNe, Int.reduceLT, Int.reduceLE, Int.reduceEq, Int.reduceToNat, Int.reduceAdd, Int.reduceSub, Int.reduceNeg, z, P1.get (G := G), callR_val hN, p2, P2.get (G := G), R2.get (G := G), z2]
    exact fin _ N _ _ (by simp +contextual only [vq, vc, ve, vv, vn, vl, ↓reduceIte, Nat.reduceEqDiff, Nat.reduceAdd, Nat.reduceMul, Nat.reduceSub, Nat.reduceLeDiff, Nat.reduceLT, Nat.reduceBEq, Nat.reduceBNe, reduceCtorEq, Int.reduceBEq, Int.reduceBNe, Int.reduceLT, Int.reduceLE, Int.reduceEq, Int.reduceToNat, Int.reduceAdd, Int.reduceSub, Int.reduceNeg]) R2 (by have := t2.1; omega) (fun j _ h => t2.2 j h) (by omega) (by omega)
  · have hk1 : k = 1 := by omega
    subst hk1
    have hT := c_param_typed M1 p.value (by omega)
    have z : (((1 : Nat) : Int) == 0) = false := rfl
    cases ht : typedS p.value with
    | none =>
      have e : stpR a 1 p = (false, a) := by rw [stpR, if_neg (by decide), if_pos (.inl ht)]
      rw [e]
      rw [ht] at hT
      simp only at hT
      simp +contextual only [vq, vc, ve, vv, vn, vl, ↓reduceIte, Nat.reduceEqDiff, Nat.reduceAdd, Nat.reduceMul, Nat.reduceSub, Nat.reduceLeDiff, Nat.reduceLT, Nat.reduceBEq, Nat.reduceBNe, reduceCtorEq, Int.reduceBEq, Int.reduceBNe, Int.reduceLT, Int.reduceLE, Int.reduceEq, Int.reduceToNat, Int.reduceAdd, Int.reduceSub, Int.reduceNeg, z, P1.get (G := G), callR_val hT]
      exact postX_same (v := .bool false) (by simp +contextual only [vq, vc, ve, vv, vn, vl, ↓reduceIte, Nat.reduceEqDiff, Nat.reduceAdd, Nat.reduceMul, Nat.reduceSub, Nat.reduceLeDiff, Nat.reduceLT, Nat.reduceBEq, Nat.reduceBNe, reduceCtorEq, Int.reduceBEq, Int.reduceBNe, Int.reduceLT, Int.reduceLE, Int.reduceEq, Int.reduceToNat, Int.reduceAdd, Int.reduceSub, Int.reduceNeg]) l1 rfl ⟨_, rfl, hb, ⟨fun _ _ _ _ => rfl, Nat.le_refl _, fun n0 h _ _ _ => h⟩, fun h => ⟨h, rfl⟩⟩
    | some n =>
      rw [ht] at hT
      simp only at hT
      obtain ⟨hn, hn59, _, _⟩ := typed_lt ht
      cases hh : p.has with
      | false =>
        have e : stpR a 1 p = (false, a) := by rw [stpR, if_neg (by decide), if_pos (.inr hh)]
        rw [e]
        rw [hh] at P1
        simp +contextual only [vq, vc, ve, vv, vn, vl, ↓reduceIte, Nat.reduceEqDiff, Nat.reduceAdd, Nat.reduceMul, Nat.reduceSub, Nat.reduceLeDiff, Nat.reduceLT, Nat.reduceBEq, Nat.reduceBNe, reduceCtorEq, Int.reduceBEq, Int.reduceBNe, Int.reduceLT, Int.reduceLE, Int.reduceEq, Int.reduceToNat, Int.reduceAdd, Int.reduceSub, Int.reduceNeg, z, P1.get (G := G), callR_val hT]
        exact postX_same (v := .bool false) (by simp +contextual only [vq, vc, ve, vv, vn, vl, ↓reduceIte, Nat.reduceEqDiff, Nat.reduceAdd, Nat.reduceMul, Nat.reduceSub, Nat.reduceLeDiff, Nat.reduceLT, Nat.reduceBEq, Nat.reduceBNe, reduceCtorEq, Int.reduceBEq, Int.reduceBNe, Int.reduceLT, Int.reduceLE, Int.reduceEq, Int.reduceToNat, Int.reduceAdd, Int.reduceSub, Int.reduceNeg]) l1 rfl ⟨_, rfl, hb, ⟨fun _ _ _ _ => rfl, Nat.le_refl _, fun n0 h _ _ _ => h⟩, fun h => ⟨h, rfl⟩⟩
      | true =>
        have e : stpR a 1 p = ((origS p.value).2, { a with hasOrig := true, orig := (origS p.value).1 }) := by rw [stpR, if_neg (by decide), if_neg (by simp [ht, hh])]
        rw [e]
        rw [hh] at P1
        simp only [roE] at R1
        obtain ⟨N, p2, R2, t2, w2⟩ := put1_row (off := 1) (v := .bool true) R1 (by simp)
        have R2 : RowIs N b [.int .i64 (a.notify : Nat), .bool true, .str a.orig] := R2
        have P2 := P1.but t2 (by omega)
        cases hu : sameU (p.value.take n) wUTF8 with
        | true =>
          have eo : origS p.value = (p.value, wideS (p.value.drop (n + 1))) := by simp only [origS, ht, hu, if_true]
          rw [eo]
          rw [hu] at hT
          obtain ⟨N3, p3, R3, t3, w3⟩ := put1_row (off := 2) (v := .str p.value) R2 (by simp)
          have R3 : RowIs N3 b [.int .i64 (a.notify : Nat), .bool true, .str p.value] := R3
          have hW := c_param_isWide N3 (p.value.drop (n + 1)) (by simp; omega)
          simp +contextual only [vq, vc, ve, vv, vn, vl, ↓reduceIte, Nat.reduceEqDiff, Nat.reduceAdd, Nat.reduceMul, Nat.reduceSub, Nat.reduceLeDiff, Nat.reduceLT, Nat.reduceBEq, Nat.reduceBNe, reduceCtorEq, Int.reduceBEq, Int.reduceBNe, Int.reduceLT, Int.reduceLE, Int.reduceEq, Int.reduceToNat, Int.reduceAdd, Int.reduceSub, Int.reduceNeg, z, P1.get (G := G), callR_val hT, p2, P2.get (G := G), p3, callR_val hW]
          exact fin _ N3 _ _ (by simp +contextual only [vq, vc, ve, vv, vn, vl, ↓reduceIte, Nat.reduceEqDiff, Nat.reduceAdd, Nat.reduceMul, Nat.reduceSub, Nat.reduceLeDiff, Nat.reduceLT, Nat.reduceBEq, Nat.reduceBNe, reduceCtorEq, Int.reduceBEq, Int.reduceBNe, Int.reduceLT, Int.reduceLE, Int.reduceEq, Int.reduceToNat, Int.reduceAdd, Int.reduceSub, Int.reduceNeg]) R3 (by have := t2.1; have := t3.1; omega) (fun j _ h => by rw [t3.2 j h, t2.2 j h]) (by omega) (by omega)
        | false =>
          have eo : origS p.value = (p.value.take (n + 1) ++ (unxS (p.value.drop (n + 1))).1, (unxS (p.value.drop (n + 1))).2.1 == 0 && shownS (unxS (p.value.drop (n + 1))).1) := by simp only [origS, ht, hu, Bool.false_eq_true, if_false]
          rw [eo]
          rw [hu] at hT
          have hX := c_param_Unxtext N (p.value.drop (n + 1)) (by simp; omega)
          have hxl := unxS_len (p.value.drop (n + 1))
          generalize unxS (p.value.drop (n + 1)) = u at hX hxl
          obtain ⟨uo, ue, ua⟩ := u
          simp only [unxE] at hX hxl
          simp +contextual only [vq, vc, ve, vv, vn, vl, ↓reduceIte, Nat.reduceEqDiff, Nat.reduceAdd, Nat.reduceMul, Nat.reduceSub, Nat.reduceLeDiff, Nat.reduceLT, Nat.reduceBEq, Nat.reduceBNe, reduceCtorEq, Int.reduceBEq, Int.reduceBNe, Int.reduceLT, Int.reduceLE, Int.reduceEq, Int.reduceToNat, Int.reduceAdd, Int.reduceSub, Int.reduceNeg, z, P1.get (G := G), callR_val hT, p2, callR_val hX]
          refine new_mk fun N3 n3 => ?_
          obtain ⟨N4, p4, g4, r4, l4, w4⟩ := put_new n3 (cs := [.int .i64 ue, .int .i64 ua]) rfl
          have hlc : (p.value.take (n + 1)).length + uo.length ≤ 9223372036854775807 := by simp at hxl ⊢; omega
          obtain ⟨N5, p5, R5, t5, w5⟩ := put1_row (off := 2) (v := .str (p.value.take (n + 1) ++ uo)) (R2.grown g4) (by simp)
          have R5 : RowIs N5 b [.int .i64 (a.notify : Nat), .bool true, .str (p.value.take (n + 1) ++ uo)] := R5
          have hNb := R2.lt
          have r5 := r4.but t5 (by omega)
          have hS := c_param_isShown N5 uo (by simp at hxl; omega)
          have hb2 := t2.1
          have hb5 := t5.1
          simp +contextual only [vq, vc, ve, vv, vn, vl, ↓reduceIte, Nat.reduceEqDiff, Nat.reduceAdd, Nat.reduceMul, Nat.reduceSub, Nat.reduceLeDiff, Nat.reduceLT, Nat.reduceBEq, Nat.reduceBNe, reduceCtorEq, Int.reduceBEq, Int.reduceBNe, Int.reduceLT, Int.reduceLE, Int.reduceEq, Int.reduceToNat, Int.reduceAdd, Int.reduceSub, Int.reduceNeg, p4, hlc, p5, r5.get (G := G), callR_val hS]
          cases hz : (ue == 0) with
          | true =>
            simp +contextual only [vq, vc, ve, vv, vn, vl, ↓reduceIte, Nat.reduceEqDiff, Nat.reduceAdd, Nat.reduceMul, Nat.reduceSub, Nat.reduceLeDiff, Nat.reduceLT, Nat.reduceBEq, Nat.reduceBNe, reduceCtorEq, Int.reduceBEq, Int.reduceBNe, Int.reduceLT, Int.reduceLE, Int.reduceEq, Int.reduceToNat, Int.reduceAdd, Int.reduceSub, Int.reduceNeg, hz]
            exact fin _ N5 _ _ (by simp +contextual only [vq, vc, ve, vv, vn, vl, ↓reduceIte, Nat.reduceEqDiff, Nat.reduceAdd, Nat.reduceMul, Nat.reduceSub, Nat.reduceLeDiff, Nat.reduceLT, Nat.reduceBEq, Nat.reduceBNe, reduceCtorEq, Int.reduceBEq, Int.reduceBNe, Int.reduceLT, Int.reduceLE, Int.reduceEq, Int.reduceToNat, Int.reduceAdd, Int.reduceSub, Int.reduceNeg, hz]) R5 (by omega) (fun j q h => by rw [t5.2 j h, g4.at (by omega), t2.2 j h]) (by omega) (by omega)
          | false =>
            simp +contextual only [vq, vc, ve, vv, vn, vl, ↓reduceIte, Nat.reduceEqDiff, Nat.reduceAdd, Nat.reduceMul, Nat.reduceSub, Nat.reduceLeDiff, Nat.reduceLT, Nat.reduceBEq, Nat.reduceBNe, reduceCtorEq, Int.reduceBEq, Int.reduceBNe, Int.reduceLT, Int.reduceLE, Int.reduceEq, Int.reduceToNat, Int.reduceAdd, Int.reduceSub, Int.reduceNeg, hz]
            exact fin _ N5 _ _ (by simp +contextual only [vq, vc, ve, vv, vn, vl, ↓reduceIte, Nat.reduceEqDiff, Nat.reduceAdd, Nat.reduceMul, Nat.reduceSub, Nat.reduceLeDiff, Nat.reduceLT, Nat.reduceBEq, Nat.reduceBNe, reduceCtorEq, Int.reduceBEq, Int.reduceBNe, Int.reduceLT, Int.reduceLE, Int.reduceEq, Int.reduceToNat, Int.reduceAdd, Int.reduceSub, Int.reduceNeg, hz]) R5 (by omega) (fun j q h => by rw [t5.2 j h, g4.at (by omega), t2.2 j h]) (by omega) (by omega)
theorem c_param_Rcpt (m : Mem) (x : EV) (l : List Par) (hx : Pars G m x l) (hl : l.length ≤ 1000000000) (hv : ∀ p ∈ l, p.value.length ≤ 100000000) :
    Go.Ev.Comes T G f_param_Rcpt [x] m none ⟨.val (.tuple [.agg (roE (rcptS l).1), .int .i64 (rcptS l).2]), m, none⟩ := by
  refine comes2 T_param_Rcpt rfl fun M hg hlen hlow => ?_
  have hl0 : m.bl.length ≤ M.low := by omega
  obtain ⟨ax, cx, ex, sx⟩ := hx.slice
  simp only [F_param_Rcpt]
  simp +contextual only [vq, vc, ve, vv, vn, vl, ↓reduceIte, Nat.reduceEqDiff, Nat.reduceAdd, Nat.reduceMul, Nat.reduceSub, Nat.reduceLeDiff, Nat.reduceLT, Nat.reduceBEq, Nat.reduceBNe, reduceCtorEq, Int.reduceBEq, Int.reduceBNe, Int.reduceLT, Int.reduceLE, Int.reduceEq, Int.reduceToNat, Int.reduceAdd, Int.reduceSub, Int.reduceNeg]
  refine new_mk fun M1 e1 => ?_
  simp +contextual only [vq, vc, ve, vv, vn, vl, ↓reduceIte, Nat.reduceEqDiff, Nat.reduceAdd, Nat.reduceMul, Nat.reduceSub, Nat.reduceLeDiff, Nat.reduceLT, Nat.reduceBEq, Nat.reduceBNe, reduceCtorEq, Int.reduceBEq, Int.reduceBNe, Int.reduceLT, Int.reduceLE, Int.reduceEq, Int.reduceToNat, Int.reduceAdd, Int.reduceSub, Int.reduceNeg]
  refine new_mk fun M2 e2 => ?_
  simp +contextual only [vq, vc, ve, vv, vn, vl, ↓reduceIte, Nat.reduceEqDiff, Nat.reduceAdd, Nat.reduceMul, Nat.reduceSub, Nat.reduceLeDiff, Nat.reduceLT, Nat.reduceBEq, Nat.reduceBNe, reduceCtorEq, Int.reduceBEq, Int.reduceBNe, Int.reduceLT, Int.reduceLE, Int.reduceEq, Int.reduceToNat, Int.reduceAdd, Int.reduceSub, Int.reduceNeg]
  refine new_mk fun M3 e3 => ?_
  have g1 : Grown M M1 := by rw [e1]; exact Grown.rfl'.push
  have g2 : Grown M1 M2 := by rw [e2]; exact Grown.rfl'.push
  have g3 : Grown M2 M3 := by rw [e3]; exact Grown.rfl'.push
  have b1 : M1.bl.length = M.bl.length + 1 := by rw [e1]; simp [Mem.push]
  have b2 : M2.bl.length = M1.bl.length + 1 := by rw [e2]; simp [Mem.push]
  have b3 : M3.bl.length = M2.bl.length + 1 := by rw [e3]; simp [Mem.push]
  have l1 : M1.low = M.low := by rw [e1]; rfl
  have l2 : M2.low = M1.low := by rw [e2]; rfl
  have l3 : M3.low = M2.low := by rw [e3]; rfl
  have R1 : RowIs M1 M.bl.length (roE ro0) := by rw [e1]; exact row_push _ _
  have R2 : RowIs M3 M1.bl.length (roE ro0) := RowIs.grown g3 (by rw [e2]; exact row_push _ _)
  have R3 : RowIs M3 M2.bl.length ([wNOTIFY, wORCPT].map .str) := by rw [e3]; exact row_push _ _
  have gA : Grown m M3 := ((hg.trans g1).trans g2).trans g3
  have hO : Off (· = M1.bl.length) (fun M => Pars G M x l) M3 := fun K h1 h2 => by
    have hgk : Grown M1 K := grown_of (by omega) fun j hj => by rw [h2 j (by omega) (by simp only; omega), (g2.trans g3).at hj]
    exact (hx.grown (hg.trans g1)).grown hgk
  have hn : Off (· = M1.bl.length) (fun M => StrL M (.slice (some ⟨.mem M2.bl.length 0, 0⟩) 2 2 1) [wNOTIFY, wORCPT]) M3 := fun K h1 h2 => by
    have hk : K.bl[M2.bl.length]? = some (.cells ([wNOTIFY, wORCPT].map .str) 0 true) := by rw [h2 _ (by omega) (by simp only; omega)]; exact R3
    exact RowsAt.of_block (G := G) (rw := true) (rows := [wNOTIFY, wORCPT].map fun r => [EV.str r]) (by simp) (by omega) (.inr hk) (by simp)
  obtain ⟨_, hc, m', rfl, hR, hE⟩ := c_param_each roE stpR M3 x (.slice (some ⟨.mem M2.bl.length 0, 0⟩) 2 2 1) l [wNOTIFY, wORCPT] f_param_Rcpt_1 [.ptr (some ⟨.mem M1.bl.length 0, 0⟩)] M1.bl.length ro0 hO hn (by simp) (by simp [wNOTIFY, wORCPT]) hl R2
    (fun a K k p hp hk hr => c_param_Rcpt_1 a K M1.bl.length k p (by simpa using hk) (hv p hp) hr)
  generalize hes : eachS [wNOTIFY, wORCPT] stpR l ro0 = es at hc hR
  obtain ⟨ee, ea⟩ := es
  simp only at hc hR
  have hR1 : RowIs m' M.bl.length (roE ro0) := by
    unfold RowIs
    rw [hE.1 M.bl.length (by omega) (by omega) (by simp), (g2.trans g3).at (by omega)]
    exact R1
  have hlm : m.bl.length ≤ m'.low := hE.2.2 m.bl.length (by omega) (by omega) (by omega) (fun _ h => by cases h)
  have hrc : rcptS l = if ee = 0 then (ea, 0) else (ro0, ee) := by unfold rcptS; rw [hes]
  rw [sx] at hc ⊢
  by_cases h0 : ee = 0
  · have z : (ee != 0) = false := by simp [h0]
    rw [hrc, if_pos h0]
    obtain ⟨N, p2, R4, t2, w2⟩ := putN_row (off := 0) (vs := roE ea) hR1 (by simp [roE])
    have R4 : RowIs N M.bl.length (roE ea) := R4
    simp only [roE] at hR p2 R4
    have hlN : m.bl.length ≤ N.low := by omega
    simp only [roE]
    simp +contextual only [vq, vc, ve, vv, vn, vl, ↓reduceIte, Nat.reduceEqDiff, Nat.reduceAdd, Nat.reduceMul, Nat.reduceSub, Nat.reduceLeDiff, Nat.reduceLT, Nat.reduceBEq, Nat.reduceBNe, reduceCtorEq, Int.reduceBEq, Int.reduceBNe, Int.reduceLT, Int.reduceLE, Int.reduceEq, Int.reduceToNat, Int.reduceAdd, Int.reduceSub, Int.reduceNeg, callR_val hc, z, hR.getN (G := G), p2, R4.getN (G := G), hlN]
  · have z : (ee != 0) = true := by simpa using h0
    rw [hrc, if_neg h0]
    obtain ⟨N, p2, R4, t2, w2⟩ := putN_row (off := 0) (vs := roE ro0) hR1 (by simp [roE])
    have R4 : RowIs N M.bl.length (roE ro0) := R4
    simp only [roE, ro0] at p2 R4
    have hlN : m.bl.length ≤ N.low := by omega
    simp only [roE, ro0]
    have p2' : m'.putN ⟨.mem M.bl.length 0, 0⟩ [.int .i64 0, .bool false, .str []] = some N := p2
    have R4' : RowIs N M.bl.length [.int .i64 0, .bool false, .str []] := R4
    simp +contextual only [vq, vc, ve, vv, vn, vl, ↓reduceIte, Nat.reduceEqDiff, Nat.reduceAdd, Nat.reduceMul, Nat.reduceSub, Nat.reduceLeDiff, Nat.reduceLT, Nat.reduceBEq, Nat.reduceBNe, reduceCtorEq, Int.reduceBEq, Int.reduceBNe, Int.reduceLT, Int.reduceLE, Int.reduceEq, Int.reduceToNat, Int.reduceAdd, Int.reduceSub, Int.reduceNeg, callR_val hc, z, p2', R4'.getN (G := G), hlN]
    rfl
end Go.Proofs.YtmjoaiccbghijaaDoor.paramRcpts

namespace Go.Proofs.YtmjoaiccbghijaaDoor.paramRcpts
open Go.Ev hiding Comes
variable [GG]

theorem c_r10_Same (m : Mem) (x y : EV) (k l : List Par) (hx : Pars G m x k) (hy : Pars G m y l) (hk : k.length ≤ 1000000000000) :
    Go.Ev.Comes T G f_r10_Same [x, y] m none ⟨.val (.bool (decide (k = l))), m, none⟩ := by
  refine comes2 T_r10_Same rfl fun M hg hlen hlow => ?_
  have hl0 : m.bl.length ≤ M.low := by omega
  have hx := hx.grown hg
  have hy := hy.grown hg
  obtain ⟨a1, c1, e1, s1⟩ := hx.slice
  obtain ⟨a2, c2, e2, s2⟩ := hy.slice
  simp only [F_r10_Same]
  by_cases hne : k.length = l.length
  · simp +contextual only [vq, vc, ve, vv, vn, vl, ↓reduceIte, Nat.reduceEqDiff, Nat.reduceAdd, Nat.reduceMul, Nat.reduceSub, Nat.reduceLeDiff, Nat.reduceLT, Nat.reduceBEq, Nat.reduceBNe, reduceCtorEq, Int.reduceBEq, Int.reduceBNe, Int.reduceLT, Int.reduceLE, Int.reduceEq, Int.reduceToNat, Int.reduceAdd, Int.reduceSub, Int.reduceNeg, s1, s2, hne]
    have I : ∀ i : Nat, k.take i = l.take i → i < k.length → (hik : i < k.length) → (hil : i < l.length) → k[i] = l[i] → k.take (i + 1) = l.take (i + 1) := fun i h _ hik hil e => by
      rw [List.take_succ_eq_append_getElem hik, List.take_succ_eq_append_getElem hil, h, e]
    refine loop2 (fun n st => ∃ i A, st = ⟨A, M, [], none⟩ ∧ n = k.length - i ∧ i ≤ k.length ∧ A 0 = x ∧ A 1 = y ∧ A 5 = .int .i64 i ∧ k.take i = l.take i) k.length ⟨0, _, rfl, by omega, by omega, by simp +contextual only [vq, vc, ve, vv, vn, vl, ↓reduceIte, Nat.reduceEqDiff, Nat.reduceAdd, Nat.reduceMul, Nat.reduceSub, Nat.reduceLeDiff, Nat.reduceLT, Nat.reduceBEq, Nat.reduceBNe, reduceCtorEq, Int.reduceBEq, Int.reduceBNe, Int.reduceLT, Int.reduceLE, Int.reduceEq, Int.reduceToNat, Int.reduceAdd, Int.reduceSub, Int.reduceNeg, s1, hne], by simp +contextual only [vq, vc, ve, vv, vn, vl, ↓reduceIte, Nat.reduceEqDiff, Nat.reduceAdd, Nat.reduceMul, Nat.reduceSub, Nat.reduceLeDiff, Nat.reduceLT, Nat.reduceBEq, Nat.reduceBNe, reduceCtorEq, Int.reduceBEq, Int.reduceBNe, Int.reduceLT, Int.reduceLE, Int.reduceEq, Int.reduceToNat, Int.reduceAdd, Int.reduceSub, Int.reduceNeg, s2, hne], by simp +contextual only [vq, vc, ve, vv, vn, vl, ↓reduceIte, Nat.reduceEqDiff, Nat.reduceAdd, Nat.reduceMul, Nat.reduceSub, Nat.reduceLeDiff, Nat.reduceLT, Nat.reduceBEq, Nat.reduceBNe, reduceCtorEq, Int.reduceBEq, Int.reduceBNe, Int.reduceLT, Int.reduceLE, Int.reduceEq, Int.reduceToNat, Int.reduceAdd, Int.reduceSub, Int.reduceNeg]; rfl, by simp⟩ fun J hJ n st hI => ?_
    obtain ⟨i, A, rfl, rfl, hi, A0, A1, A5, hall⟩ := hI
    by_cases hlt : i < k.length
    · have hil : i < l.length := by omega
      obtain ⟨b1, d1, q1, _, g1, o1⟩ := hx.at hlt
      obtain ⟨b2, d2, q2, _, g2, o2⟩ := hy.at hil
      rw [q1] at A0
      rw [q2] at A1
      simp +contextual only [vq, vc, ve, vv, vn, vl, ↓reduceIte, Nat.reduceEqDiff, Nat.reduceAdd, Nat.reduceMul, Nat.reduceSub, Nat.reduceLeDiff, Nat.reduceLT, Nat.reduceBEq, Nat.reduceBNe, reduceCtorEq, Int.reduceBEq, Int.reduceBNe, Int.reduceLT, Int.reduceLE, Int.reduceEq, Int.reduceToNat, Int.reduceAdd, Int.reduceSub, Int.reduceNeg, A0, A1, A5, hlt, hil, g1, g2, o1, o2, par_eq]
      refine br2_mk (fun hp => ?_) (fun hp => ?_)
      · have hp : k[i] ≠ l[i] := by simpa using hp
        have e : decide (k = l) = false := by
          rw [decide_eq_false_iff_not]
          rintro rfl
          exact hp rfl
        simp +contextual only [vq, vc, ve, vv, vn, vl, ↓reduceIte, Nat.reduceEqDiff, Nat.reduceAdd, Nat.reduceMul, Nat.reduceSub, Nat.reduceLeDiff, Nat.reduceLT, Nat.reduceBEq, Nat.reduceBNe, reduceCtorEq, Int.reduceBEq, Int.reduceBNe, Int.reduceLT, Int.reduceLE, Int.reduceEq, Int.reduceToNat, Int.reduceAdd, Int.reduceSub, Int.reduceNeg, e, hl0]
      · have hp : k[i] = l[i] := by simpa using hp
        simp +contextual only [vq, vc, ve, vv, vn, vl, ↓reduceIte, Nat.reduceEqDiff, Nat.reduceAdd, Nat.reduceMul, Nat.reduceSub, Nat.reduceLeDiff, Nat.reduceLT, Nat.reduceBEq, Nat.reduceBNe, reduceCtorEq, Int.reduceBEq, Int.reduceBNe, Int.reduceLT, Int.reduceLE, Int.reduceEq, Int.reduceToNat, Int.reduceAdd, Int.reduceSub, Int.reduceNeg, A5, wsucc hlt (by omega)]
        exact again2 hJ (k.length - (i + 1)) (by omega) ⟨i + 1, _, rfl, rfl, by omega, by simp +contextual only [vq, vc, ve, vv, vn, vl, ↓reduceIte, Nat.reduceEqDiff, Nat.reduceAdd, Nat.reduceMul, Nat.reduceSub, Nat.reduceLeDiff, Nat.reduceLT, Nat.reduceBEq, Nat.reduceBNe, reduceCtorEq, Int.reduceBEq, Int.reduceBNe, Int.reduceLT, Int.reduceLE, Int.reduceEq, Int.reduceToNat, Int.reduceAdd, Int.reduceSub, Int.reduceNeg, A0, q1], by simp +contextual only [vq, vc, ve, vv, vn, vl, ↓reduceIte, Nat.reduceEqDiff, Nat.reduceAdd, Nat.reduceMul, Nat.reduceSub, Nat.reduceLeDiff, Nat.reduceLT, Nat.reduceBEq, Nat.reduceBNe, reduceCtorEq, Int.reduceBEq, Int.reduceBNe, Int.reduceLT, Int.reduceLE, Int.reduceEq, Int.reduceToNat, Int.reduceAdd, Int.reduceSub, Int.reduceNeg, A1, q2], by simp +contextual only [vq, vc, ve, vv, vn, vl, ↓reduceIte, Nat.reduceEqDiff, Nat.reduceAdd, Nat.reduceMul, Nat.reduceSub, Nat.reduceLeDiff, Nat.reduceLT, Nat.reduceBEq, Nat.reduceBNe, reduceCtorEq, Int.reduceBEq, Int.reduceBNe, Int.reduceLT, Int.reduceLE, Int.reduceEq, Int.reduceToNat, Int.reduceAdd, Int.reduceSub, Int.reduceNeg], I i hall hlt hlt hil hp⟩
    · have he : i = k.length := by omega
      subst he
      rw [List.take_length, hne, List.take_length] at hall
      rw [s1] at A0
      have e : decide (k = l) = true := by simpa using hall
      simp +contextual only [vq, vc, ve, vv, vn, vl, ↓reduceIte, Nat.reduceEqDiff, Nat.reduceAdd, Nat.reduceMul, Nat.reduceSub, Nat.reduceLeDiff, Nat.reduceLT, Nat.reduceBEq, Nat.reduceBNe, reduceCtorEq, Int.reduceBEq, Int.reduceBNe, Int.reduceLT, Int.reduceLE, Int.reduceEq, Int.reduceToNat, Int.reduceAdd, Int.reduceSub, Int.reduceNeg, A0, A5, e, hl0]
  · have e : decide (k = l) = false := by
      rw [decide_eq_false_iff_not]
      rintro rfl
      exact hne rfl
    have k1 : (k.length != l.length) = true := by simpa using hne
    simp +contextual only [vq, vc, ve, vv, vn, vl, ↓reduceIte, Nat.reduceEqDiff, Nat.reduceAdd, Nat.reduceMul, Nat.reduceSub, Nat.reduceLeDiff, Nat.reduceLT, Nat.reduceBEq, Nat.reduceBNe, reduceCtorEq, Int.reduceBEq, Int.reduceBNe, Int.reduceLT, Int.reduceLE, Int.reduceEq, Int.reduceToNat, Int.reduceAdd, Int.reduceSub, Int.reduceNeg, s1, s2, k1, e, hl0]
end Go.Proofs.YtmjoaiccbghijaaDoor.paramRcpts

namespace Go.Proofs.YtmjoaiccbghijaaDoor.paramRcpts
open Go.Ev hiding Comes
variable [GG]

theorem c_l10_kept (m : Mem) (n0 n1 : Nat) (x y : EV) (l : List Par) (hx : LentP m n0 n1 x l) (hn : n1 ≤ m.bl.length) (hy : Pars G m y l) (hk : l.length ≤ 1000000000) :
    Go.Ev.Comes T G f_l10_kept [x, y] m none ⟨.val (.bool true), m, none⟩ := by
  refine comes2 T_l10_kept rfl fun M hg hlen hlow => ?_
  have hl0 : m.bl.length ≤ M.low := by omega
  have hs := c_r10_Same M x y l l ((hx.pars hn).grown hg) (hy.grown hg) (by omega)
  rw [show decide (l = l) = true by simp] at hs
  obtain ⟨b, h1, h2, rfl, h3⟩ := hx.grown hg
  rw [List.length_map] at hs ⊢
  have hw : IntKind.i64.wrap ((l.length : Int) + 70) = ((l.length + 70 : Nat) : Int) := wrap_of (by omega) (by omega)
  simp only [F_l10_kept]
  simp +contextual only [vq, vc, ve, vv, vn, vl, ↓reduceIte, Nat.reduceEqDiff, Nat.reduceAdd, Nat.reduceMul, Nat.reduceSub, Nat.reduceLeDiff, Nat.reduceLT, Nat.reduceBEq, Nat.reduceBNe, reduceCtorEq, Int.reduceBEq, Int.reduceBNe, Int.reduceLT, Int.reduceLE, Int.reduceEq, Int.reduceToNat, Int.reduceAdd, Int.reduceSub, Int.reduceNeg, callR_val hs, hw]
  refine loop2 (fun n st => ∃ i A, st = ⟨A, M, [], none⟩ ∧ n = l.length + 70 - i ∧ l.length ≤ i ∧ i ≤ l.length + 70 ∧ A 5 = .slice (some ⟨.mem b 0, 0⟩) (l.length + 70) (l.length + 70) 3 ∧ A 6 = .int .i64 (i : Nat)) 70 ⟨l.length, _, rfl, by omega, by omega, by omega, by simp +contextual only [vq, vc, ve, vv, vn, vl, ↓reduceIte, Nat.reduceEqDiff, Nat.reduceAdd, Nat.reduceMul, Nat.reduceSub, Nat.reduceLeDiff, Nat.reduceLT, Nat.reduceBEq, Nat.reduceBNe, reduceCtorEq, Int.reduceBEq, Int.reduceBNe, Int.reduceLT, Int.reduceLE, Int.reduceEq, Int.reduceToNat, Int.reduceAdd, Int.reduceSub, Int.reduceNeg], by simp +contextual only [vq, vc, ve, vv, vn, vl, ↓reduceIte, Nat.reduceEqDiff, Nat.reduceAdd, Nat.reduceMul, Nat.reduceSub, Nat.reduceLeDiff, Nat.reduceLT, Nat.reduceBEq, Nat.reduceBNe, reduceCtorEq, Int.reduceBEq, Int.reduceBNe, Int.reduceLT, Int.reduceLE, Int.reduceEq, Int.reduceToNat, Int.reduceAdd, Int.reduceSub, Int.reduceNeg]⟩ fun J hJ n st hI => ?_
  obtain ⟨i, A, rfl, rfl, hi, hi2, A5, A6⟩ := hI
  simp +contextual only [vq, vc, ve, vv, vn, vl, ↓reduceIte, Nat.reduceEqDiff, Nat.reduceAdd, Nat.reduceMul, Nat.reduceSub, Nat.reduceLeDiff, Nat.reduceLT, Nat.reduceBEq, Nat.reduceBNe, reduceCtorEq, Int.reduceBEq, Int.reduceBNe, Int.reduceLT, Int.reduceLE, Int.reduceEq, Int.reduceToNat, Int.reduceAdd, Int.reduceSub, Int.reduceNeg, A5, A6]
  refine br2_dec (fun hlt => ?_) (fun hge => ?_)
  · have hg : M.getN G ⟨.mem b 0, i * 3⟩ 3 = some (parE tilde) := h3 i _ (by
      rw [List.getElem?_append_right (by simp; omega), List.getElem?_replicate, if_pos (by simp; omega)])
    simp +contextual only [vq, vc, ve, vv, vn, vl, ↓reduceIte, Nat.reduceEqDiff, Nat.reduceAdd, Nat.reduceMul, Nat.reduceSub, Nat.reduceLeDiff, Nat.reduceLT, Nat.reduceBEq, Nat.reduceBNe, reduceCtorEq, Int.reduceBEq, Int.reduceBNe, Int.reduceLT, Int.reduceLE, Int.reduceEq, Int.reduceToNat, Int.reduceAdd, Int.reduceSub, Int.reduceNeg, A5, A6, hlt, hg, show parE tilde = [.str [126], .str [], .bool false] from rfl, wsucc hlt (by omega)]
    exact again2 hJ (l.length + 70 - (i + 1)) (by omega) ⟨i + 1, _, rfl, rfl, by omega, by omega, by simp +contextual only [vq, vc, ve, vv, vn, vl, ↓reduceIte, Nat.reduceEqDiff, Nat.reduceAdd, Nat.reduceMul, Nat.reduceSub, Nat.reduceLeDiff, Nat.reduceLT, Nat.reduceBEq, Nat.reduceBNe, reduceCtorEq, Int.reduceBEq, Int.reduceBNe, Int.reduceLT, Int.reduceLE, Int.reduceEq, Int.reduceToNat, Int.reduceAdd, Int.reduceSub, Int.reduceNeg, A5], by simp +contextual only [vq, vc, ve, vv, vn, vl, ↓reduceIte, Nat.reduceEqDiff, Nat.reduceAdd, Nat.reduceMul, Nat.reduceSub, Nat.reduceLeDiff, Nat.reduceLT, Nat.reduceBEq, Nat.reduceBNe, reduceCtorEq, Int.reduceBEq, Int.reduceBNe, Int.reduceLT, Int.reduceLE, Int.reduceEq, Int.reduceToNat, Int.reduceAdd, Int.reduceSub, Int.reduceNeg]⟩
  · simp +contextual only [vq, vc, ve, vv, vn, vl, ↓reduceIte, Nat.reduceEqDiff, Nat.reduceAdd, Nat.reduceMul, Nat.reduceSub, Nat.reduceLeDiff, Nat.reduceLT, Nat.reduceBEq, Nat.reduceBNe, reduceCtorEq, Int.reduceBEq, Int.reduceBNe, Int.reduceLT, Int.reduceLE, Int.reduceEq, Int.reduceToNat, Int.reduceAdd, Int.reduceSub, Int.reduceNeg, hl0]
end Go.Proofs.YtmjoaiccbghijaaDoor.paramRcpts

namespace Go.Proofs.YtmjoaiccbghijaaDoor.paramRcpts
open Go.Ev hiding Comes
variable [GG]

theorem c_l10_lent (m : Mem) (x : EV) (l : List Par) (hx : Pars G m x l) (hN : l.length ≤ 1000000000) :
    ∃ v m', Go.Ev.Comes T G f_l10_lent [x] m none ⟨.val v, m', none⟩ ∧ Grown m m' ∧ min m.low m.bl.length ≤ m'.low ∧ LentP m' m.bl.length m'.bl.length v l := by
  suffices H : ∃ r, Go.Ev.Comes T G f_l10_lent [x] m none r ∧ ∃ v m', r = ⟨.val v, m', none⟩ ∧ Grown m m' ∧ min m.low m.bl.length ≤ m'.low ∧ LentP m' m.bl.length m'.bl.length v l by
    obtain ⟨_, hc, v, m', rfl, h⟩ := H
    exact ⟨v, m', hc, h⟩
  refine comes2P T_l10_lent rfl fun M hg hlen hlow => ?_
  obtain ⟨a0, c0, e0, sx⟩ := hx.slice
  have hw : IntKind.i64.wrap ((l.length : Int) + 70) = ((l.length + 70 : Nat) : Int) := wrap_of (by omega) (by omega)
  have hw2 : (40 : Int) * ((l.length + 70 : Nat) : Int) ≤ 281474976710656 := by omega
  have hw3 : ((40 : Nat) : Int) * ((l.length + 70 : Nat) : Int) ≤ 281474976710656 := by omega
  simp only [F_l10_lent]
  simp +contextual only [vq, vc, ve, vv, vn, vl, ↓reduceIte, Nat.reduceEqDiff, Nat.reduceAdd, Nat.reduceMul, Nat.reduceSub, Nat.reduceLeDiff, Nat.reduceLT, Nat.reduceBEq, Nat.reduceBNe, reduceCtorEq, Int.reduceBEq, Int.reduceBNe, Int.reduceLT, Int.reduceLE, Int.reduceEq, Int.reduceToNat, Int.reduceAdd, Int.reduceSub, Int.reduceNeg, sx, hw, hw2, hw3]
  refine new_mk fun M1 e1 => ?_
  have B1 : Buf M1 M.bl.length 3 (l.length + 70) [] := by rw [e1]; exact buf_mk rfl (by omega)
  have l1 : M1.low = M.low := by rw [e1]; rfl
  have b1 : M1.bl.length = M.bl.length + 1 := by rw [e1]; simp [Mem.push]
  have g1 : Grown M M1 := by rw [e1]; exact Grown.rfl'.push
  have hs : srcCells G M1 3 (.slice a0 l.length c0 e0) = some ((l.map parE).flatten, l.length) := by
    have := RowsAt.src (by omega) ((hx.grown hg).grown g1)
    rw [sx, List.length_map] at this
    exact this
  obtain ⟨M2, p2, B2, t2, w2⟩ := buf_append (G := G) (bytes := 40) (tag := 0) (nr := l.map parE) B1 par_len (by simp) (by omega)
  simp only [List.length_nil, Nat.zero_add, List.length_map, List.nil_append] at p2 B2
  simp +contextual only [vq, vc, ve, vv, vn, vl, ↓reduceIte, Nat.reduceEqDiff, Nat.reduceAdd, Nat.reduceMul, Nat.reduceSub, Nat.reduceLeDiff, Nat.reduceLT, Nat.reduceBEq, Nat.reduceBNe, reduceCtorEq, Int.reduceBEq, Int.reduceBNe, Int.reduceLT, Int.reduceLE, Int.reduceEq, Int.reduceToNat, Int.reduceAdd, Int.reduceSub, Int.reduceNeg, sx, hs, p2]
  refine loop2 (fun n st => ∃ i A N, st = ⟨A, N, [], none⟩ ∧ Grown m N ∧ m.bl.length ≤ N.low ∧ n = 70 - i ∧ i ≤ 70 ∧ A 0 = .slice a0 l.length c0 e0 ∧ A 3 = .slice (some ⟨.mem M.bl.length 0, 0⟩) (l.length + i) (l.length + 70) 3 ∧ A 11 = .int .i64 (i : Nat) ∧ Buf N M.bl.length 3 (l.length + 70) (l.map parE ++ List.replicate i (parE tilde))) 70 ⟨0, _, M2, rfl, grown_but (hg.trans g1) t2 (by omega), by omega, by omega, by omega, by simp +contextual only [vq, vc, ve, vv, vn, vl, ↓reduceIte, Nat.reduceEqDiff, Nat.reduceAdd, Nat.reduceMul, Nat.reduceSub, Nat.reduceLeDiff, Nat.reduceLT, Nat.reduceBEq, Nat.reduceBNe, reduceCtorEq, Int.reduceBEq, Int.reduceBNe, Int.reduceLT, Int.reduceLE, Int.reduceEq, Int.reduceToNat, Int.reduceAdd, Int.reduceSub, Int.reduceNeg, sx], by simp +contextual only [vq, vc, ve, vv, vn, vl, ↓reduceIte, Nat.reduceEqDiff, Nat.reduceAdd, Nat.reduceMul, Nat.reduceSub, Nat.reduceLeDiff, Nat.reduceLT, Nat.reduceBEq, Nat.reduceBNe, reduceCtorEq, Int.reduceBEq, Int.reduceBNe, Int.reduceLT, Int.reduceLE, Int.reduceEq, Int.reduceToNat, Int.reduceAdd, Int.reduceSub, Int.reduceNeg], by simp +contextual only [vq, vc, ve, vv, vn, vl, ↓reduceIte, Nat.reduceEqDiff, Nat.reduceAdd, Nat.reduceMul, Nat.reduceSub, Nat.reduceLeDiff, Nat.reduceLT, Nat.reduceBEq, Nat.reduceBNe, reduceCtorEq, Int.reduceBEq, Int.reduceBNe, Int.reduceLT, Int.reduceLE, Int.reduceEq, Int.reduceToNat, Int.reduceAdd, Int.reduceSub, Int.reduceNeg]; rfl, by simpa using B2⟩ fun J hJ n st hI => ?_
  obtain ⟨i, A, N, rfl, gN, lN, rfl, hi, A0, A3, A11, BN⟩ := hI
  have e70 : ((i : Int) < 70) = (i < 70) := propext ⟨fun h => by omega, fun h => by omega⟩
  simp +contextual only [vq, vc, ve, vv, vn, vl, ↓reduceIte, Nat.reduceEqDiff, Nat.reduceAdd, Nat.reduceMul, Nat.reduceSub, Nat.reduceLeDiff, Nat.reduceLT, Nat.reduceBEq, Nat.reduceBNe, reduceCtorEq, Int.reduceBEq, Int.reduceBNe, Int.reduceLT, Int.reduceLE, Int.reduceEq, Int.reduceToNat, Int.reduceAdd, Int.reduceSub, Int.reduceNeg, A11, e70]
  refine br2_dec (fun hlt => ?_) (fun hge => ?_)
  · simp +contextual only [vq, vc, ve, vv, vn, vl, ↓reduceIte, Nat.reduceEqDiff, Nat.reduceAdd, Nat.reduceMul, Nat.reduceSub, Nat.reduceLeDiff, Nat.reduceLT, Nat.reduceBEq, Nat.reduceBNe, reduceCtorEq, Int.reduceBEq, Int.reduceBNe, Int.reduceLT, Int.reduceLE, Int.reduceEq, Int.reduceToNat, Int.reduceAdd, Int.reduceSub, Int.reduceNeg, A3]
    refine new_mk fun N1 f1 => ?_
    have gN1 : Grown N N1 := by rw [f1]; exact Grown.rfl'.push
    have R1 : RowIs N1 N.bl.length [.str [126], .str [], .bool false] := by rw [f1]; exact row_push _ _
    obtain ⟨N2, p, B, t, w⟩ := buf_append (G := G) (bytes := 40) (tag := 0) (nr := [parE tilde]) (BN.grown gN1) (by simp [parE]) (by simp; omega) (by omega)
    simp only [List.length_append, List.length_map, List.length_replicate, List.flatten_cons, List.flatten_nil, List.append_nil, List.length_singleton] at p
    simp only [parE, tilde] at p
    have lN1 : N1.low = N.low := by rw [f1]; rfl
    simp +contextual only [vq, vc, ve, vv, vn, vl, ↓reduceIte, Nat.reduceEqDiff, Nat.reduceAdd, Nat.reduceMul, Nat.reduceSub, Nat.reduceLeDiff, Nat.reduceLT, Nat.reduceBEq, Nat.reduceBNe, reduceCtorEq, Int.reduceBEq, Int.reduceBNe, Int.reduceLT, Int.reduceLE, Int.reduceEq, Int.reduceToNat, Int.reduceAdd, Int.reduceSub, Int.reduceNeg, R1.getN (G := G), p, A11, wsucc hlt (by omega)]
    refine again2 hJ (70 - (i + 1)) (by omega) ⟨i + 1, _, N2, rfl, grown_but (gN.trans gN1) t (by omega), by omega, rfl, by omega, by simp +contextual only [vq, vc, ve, vv, vn, vl, ↓reduceIte, Nat.reduceEqDiff, Nat.reduceAdd, Nat.reduceMul, Nat.reduceSub, Nat.reduceLeDiff, Nat.reduceLT, Nat.reduceBEq, Nat.reduceBNe, reduceCtorEq, Int.reduceBEq, Int.reduceBNe, Int.reduceLT, Int.reduceLE, Int.reduceEq, Int.reduceToNat, Int.reduceAdd, Int.reduceSub, Int.reduceNeg, A0], by simp +contextual only [vq, vc, ve, vv, vn, vl, ↓reduceIte, Nat.reduceEqDiff, Nat.reduceAdd, Nat.reduceMul, Nat.reduceSub, Nat.reduceLeDiff, Nat.reduceLT, Nat.reduceBEq, Nat.reduceBNe, reduceCtorEq, Int.reduceBEq, Int.reduceBNe, Int.reduceLT, Int.reduceLE, Int.reduceEq, Int.reduceToNat, Int.reduceAdd, Int.reduceSub, Int.reduceNeg, Nat.add_assoc], by simp +contextual only [vq, vc, ve, vv, vn, vl, ↓reduceIte, Nat.reduceEqDiff, Nat.reduceAdd, Nat.reduceMul, Nat.reduceSub, Nat.reduceLeDiff, Nat.reduceLT, Nat.reduceBEq, Nat.reduceBNe, reduceCtorEq, Int.reduceBEq, Int.reduceBNe, Int.reduceLT, Int.reduceLE, Int.reduceEq, Int.reduceToNat, Int.reduceAdd, Int.reduceSub, Int.reduceNeg], ?_⟩
    rw [List.append_assoc] at B
    rw [List.replicate_succ']
    exact B
  · have hie : i = 70 := by omega
    subst hie
    have k1 : l.length ≤ l.length + 70 := by omega
    simp +contextual only [vq, vc, ve, vv, vn, vl, ↓reduceIte, Nat.reduceEqDiff, Nat.reduceAdd, Nat.reduceMul, Nat.reduceSub, Nat.reduceLeDiff, Nat.reduceLT, Nat.reduceBEq, Nat.reduceBNe, reduceCtorEq, Int.reduceBEq, Int.reduceBNe, Int.reduceLT, Int.reduceLE, Int.reduceEq, Int.reduceToNat, Int.reduceAdd, Int.reduceSub, Int.reduceNeg, A3, A0, k1]
    refine postX_new (v := .slice (some ⟨.mem M.bl.length 0, 0⟩) l.length (l.length + 70) 3) (by simp +contextual only [vq, vc, ve, vv, vn, vl, ↓reduceIte, Nat.reduceEqDiff, Nat.reduceAdd, Nat.reduceMul, Nat.reduceSub, Nat.reduceLeDiff, Nat.reduceLT, Nat.reduceBEq, Nat.reduceBNe, reduceCtorEq, Int.reduceBEq, Int.reduceBNe, Int.reduceLT, Int.reduceLE, Int.reduceEq, Int.reduceToNat, Int.reduceAdd, Int.reduceSub, Int.reduceNeg]) (by simp +contextual only [vq, vc, ve, vv, vn, vl, ↓reduceIte, Nat.reduceEqDiff, Nat.reduceAdd, Nat.reduceMul, Nat.reduceSub, Nat.reduceLeDiff, Nat.reduceLT, Nat.reduceBEq, Nat.reduceBNe, reduceCtorEq, Int.reduceBEq, Int.reduceBNe, Int.reduceLT, Int.reduceLE, Int.reduceEq, Int.reduceToNat, Int.reduceAdd, Int.reduceSub, Int.reduceNeg, hlen]) ⟨_, _, rfl, ?_, ?_, ?_⟩
    · exact gN
    · simp only; omega
    · have := lent_of_buf (G := G) (m := N) (n0 := m.bl.length) (b := M.bl.length) (esz := 3) (rows := l.map parE) (mark := parE tilde) (by omega) (by omega) (by rw [List.length_map]; exact BN)
      rw [List.length_map] at this
      exact this
end Go.Proofs.YtmjoaiccbghijaaDoor.paramRcpts

namespace Go.Proofs.YtmjoaiccbghijaaDoor.paramRcpts
open Go.Ev hiding Comes
variable [GG]

/-- A row of three cells that is a parameter. -/
theorem sits_par {N : Nat} {m : Mem} {r : List EV} (h : Sits N m (.struct [.str, .str, .bool]) r) : ∃ p : Par, r = parE p ∧ (p.name.length ≤ N ∧ p.value.length ≤ N) := by
  obtain ⟨a, b, rfl, _, h1, h2⟩ := sits_cons (sits_struct h)
  obtain ⟨c, d, rfl, _, h3, h4⟩ := sits_cons h2
  obtain ⟨e, f, rfl, _, h5, h6⟩ := sits_cons h4
  obtain rfl := sits_nil h6
  obtain ⟨s, rfl, hs⟩ := sits_str h1
  obtain ⟨t, rfl, ht⟩ := sits_str h3
  obtain ⟨u, rfl⟩ := sits_bool h5
  exact ⟨⟨s, t, u⟩, rfl, hs, ht⟩
theorem sits_pars {N : Nat} {m : Mem} {xs : List EV} (h : Sits N m (.slice (.struct [.str, .str, .bool])) xs) : ∃ v l, xs = [v] ∧ Pars G m v l ∧ l.length ≤ N ∧ ∀ p ∈ l, p.name.length ≤ N ∧ p.value.length ≤ N := by
  obtain ⟨v, rows, rfl, h1, h2, h3⟩ := sits_slice (G := G) h
  obtain ⟨l, rfl, h4⟩ := rows_of (fun r hr => sits_par (h3 r hr))
  exact ⟨v, l, rfl, h1, by simpa using h2, h4⟩
end Go.Proofs.YtmjoaiccbghijaaDoor.paramRcpts

namespace Go.Proofs.YtmjoaiccbghijaaDoor.paramRcpts
open Go.Ev hiding Comes
variable [GG]

theorem one_N : rcptS [⟨[78, 111, 116, 105, 102, 121], [100, 101, 108, 97, 121], true⟩] = (⟨8, false, []⟩, 0) := by decide +kernel
theorem ro_same (a b : Nat) (h : Bool) (s : List UInt8) : eqCells [2, 1, 3] [.int .i64 (a : Nat), .bool h, .str s] [.int .i64 (a : Nat), .bool h, .str s] = some true := by simp [eqCells, eqCell]
theorem law (m : Mem) (x : EV) (l : List Par) (hx : Pars G m x l) (hN : ∀ p ∈ l, p.name.length ≤ 10000000 ∧ p.value.length ≤ 10000000) (hl : l.length ≤ 100000000) : Go.Ev.Comes T G f_l10_ParamRcpts [x] m none ⟨.val (.bool true), m, none⟩ := by
  refine comes2 T_l10_ParamRcpts rfl fun M hg hlen hlow => ?_
  have hxM := hx.grown hg
  obtain ⟨v, M1, hc1, g1, l1, L1⟩ := c_l10_lent M x l hxM (by omega)
  have p1 := L1.pars (Nat.le_refl _)
  have hc2 := c_param_Rcpt M1 v l p1 (by omega) (fun p hp => by have := (hN p hp).2; omega)
  have hc3 := fun K (hK : Grown M1 K) => c_r10_Rcpt K x l ((hxM.grown g1).grown hK) (by omega) (fun p hp => by have := hN p hp; omega)
  generalize rcptS l = r at hc2 hc3
  obtain ⟨o, e⟩ := r
  simp only [roE] at hc2 hc3
  simp only [F_l10_ParamRcpts]
  simp +contextual only [vq, vc, ve, vv, vn, vl, ↓reduceIte, Nat.reduceEqDiff, Nat.reduceAdd, Nat.reduceMul, Nat.reduceSub, Nat.reduceLeDiff, Nat.reduceLT, Nat.reduceBEq, Nat.reduceBNe, reduceCtorEq, Int.reduceBEq, Int.reduceBNe, Int.reduceLT, Int.reduceLE, Int.reduceEq, Int.reduceToNat, Int.reduceAdd, Int.reduceSub, Int.reduceNeg, callR_val hc1, callR_val hc2]
  refine new_mk fun M2 e2 => ?_
  obtain ⟨M3, p3, g3, r3, l3, w3⟩ := put_new e2 (cs := [.int .i64 (o.notify : Nat), .bool o.hasOrig, .str o.orig]) rfl
  simp +contextual only [vq, vc, ve, vv, vn, vl, ↓reduceIte, Nat.reduceEqDiff, Nat.reduceAdd, Nat.reduceMul, Nat.reduceSub, Nat.reduceLeDiff, Nat.reduceLT, Nat.reduceBEq, Nat.reduceBNe, reduceCtorEq, Int.reduceBEq, Int.reduceBNe, Int.reduceLT, Int.reduceLE, Int.reduceEq, Int.reduceToNat, Int.reduceAdd, Int.reduceSub, Int.reduceNeg, p3, callR_val (hc3 M3 g3)]
  refine new_mk fun M4 e4 => ?_
  obtain ⟨M5, p5, g5, r5, l5, w5⟩ := put_new e4 (cs := [.int .i64 (o.notify : Nat), .bool o.hasOrig, .str o.orig]) rfl
  simp +contextual only [vq, vc, ve, vv, vn, vl, ↓reduceIte, Nat.reduceEqDiff, Nat.reduceAdd, Nat.reduceMul, Nat.reduceSub, Nat.reduceLeDiff, Nat.reduceLT, Nat.reduceBEq, Nat.reduceBNe, reduceCtorEq, Int.reduceBEq, Int.reduceBNe, Int.reduceLT, Int.reduceLE, Int.reduceEq, Int.reduceToNat, Int.reduceAdd, Int.reduceSub, Int.reduceNeg, p5]
  refine new_mk fun M6 e6 => ?_
  have g6 : Grown M5 M6 := by rw [e6]; exact Grown.rfl'.push
  have l6 : M6.low = M5.low := by rw [e6]; rfl
  have pA : Pars G M6 (.slice (some ⟨.mem M5.bl.length 0, 0⟩) 1 1 3) [⟨[78, 111, 116, 105, 102, 121], [100, 101, 108, 97, 121], true⟩] := lit_rowsAt e6 rfl par_len
  have hc4 := c_param_Rcpt M6 _ _ pA (by simp) (by intro p hp; simp at hp; subst hp; simp)
  rw [one_N] at hc4
  simp only [roE] at hc4
  simp +contextual only [vq, vc, ve, vv, vn, vl, ↓reduceIte, Nat.reduceEqDiff, Nat.reduceAdd, Nat.reduceMul, Nat.reduceSub, Nat.reduceLeDiff, Nat.reduceLT, Nat.reduceBEq, Nat.reduceBNe, reduceCtorEq, Int.reduceBEq, Int.reduceBNe, Int.reduceLT, Int.reduceLE, Int.reduceEq, Int.reduceToNat, Int.reduceAdd, Int.reduceSub, Int.reduceNeg, callR_val hc4]
  refine new_mk fun M7 e7 => ?_
  obtain ⟨M8, p8, g8, r8, l8, w8⟩ := put_new e7 (cs := [.int .i64 ((8 : Nat) : Int), .bool false, .str []]) rfl
  have gB := ((g3.trans g5).trans g6).trans g8
  have r3' := r3.grown ((g5.trans g6).trans g8)
  have r5' := r5.grown (g6.trans g8)
  have hk := c_l10_kept M8 M.bl.length M1.bl.length v x l (LentRows.grown gB L1) gB.le ((hxM.grown g1).grown gB) (by omega)
  have hlo : m.bl.length ≤ M8.low := by
    have := hg.le
    have := g1.le
    have := g3.le
    have := g5.le
    have := g6.le
    omega
  have e8 : eqCells [2, 1, 3] [.int .i64 ((8 : Nat) : Int), .bool false, .str []] [.int .i64 8, .bool false, .str []] = some true := by simp [eqCells, eqCell]
  simp +contextual only [vq, vc, ve, vv, vn, vl, ↓reduceIte, Nat.reduceEqDiff, Nat.reduceAdd, Nat.reduceMul, Nat.reduceSub, Nat.reduceLeDiff, Nat.reduceLT, Nat.reduceBEq, Nat.reduceBNe, reduceCtorEq, Int.reduceBEq, Int.reduceBNe, Int.reduceLT, Int.reduceLE, Int.reduceEq, Int.reduceToNat, Int.reduceAdd, Int.reduceSub, Int.reduceNeg, p8, r3'.getN (G := G), r5'.getN (G := G), r8.getN (G := G), ro_same, e8, callR_val hk, hlo]
theorem lawAll (m : Mem) (xs : List EV) (hro : RO m) (hs : SitArgs 1048576 m [.slice (.struct [.str, .str, .bool])] xs) : ∃ m' p', Go.Ev.Comes T G f_l10_ParamRcpts xs m none ⟨.val (.bool true), m', p'⟩ := by
  obtain ⟨ys, r, rfl, h1, _, rfl⟩ := hs
  obtain ⟨v, l, rfl, hp, hl, hb⟩ := sits_pars h1
  exact ⟨m, none, law m v l hp (fun p hp => by have := hb p hp; omega) (by omega)⟩
end Go.Proofs.YtmjoaiccbghijaaDoor.paramRcpts
