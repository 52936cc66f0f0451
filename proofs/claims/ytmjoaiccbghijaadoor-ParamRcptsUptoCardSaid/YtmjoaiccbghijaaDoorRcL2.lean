/- A part of the proof of the statement that this claim hands in: what single functions come to. There are no conditions. -/
import Derived.Test.YtmjoaiccbghijaaDoorRcL1
set_option linter.unusedVariables false
set_option linter.unusedSimpArgs false
set_option linter.unusedSectionVars false
namespace Go.Proofs.YtmjoaiccbghijaaDoor.paramRcpts
open Go.Ev hiding Comes
variable [GG]

theorem hex16 (x y : Nat) (hx : x < 16) (hy : y < 16) : IntKind.u8.wrap (IntKind.i64.wrap (IntKind.i64.wrap (16 * (x : Int)) + (y : Int))) = ((UInt8.ofNat (16 * x + y)).toNat : Int) := by
  have h : ∀ x y : Fin 16, IntKind.u8.wrap (IntKind.i64.wrap (IntKind.i64.wrap (16 * ((x.val : Nat) : Int)) + ((y.val : Nat) : Int))) = ((UInt8.ofNat (16 * x.val + y.val)).toNat : Int) := by decide +kernel
  exact h ⟨x, hx⟩ ⟨y, hy⟩
theorem c_r10_Unxtext (m : Mem) (s : List UInt8) (hs : s.length ≤ 100000000) : Go.Ev.Comes T G f_r10_Unxtext [.str s] m none ⟨.val (unxE (unxS s)), m, none⟩ := by
  refine comes2 T_r10_Unxtext rfl fun M hg hlen hlow => ?_
  have hl0 : m.bl.length ≤ M.low := by omega
  simp only [F_r10_Unxtext]
  simp +contextual only [vq, vc, ve, vv, vn, vl, ↓reduceIte, Nat.reduceEqDiff, Nat.reduceAdd, Nat.reduceMul, Nat.reduceSub, Nat.reduceLeDiff, Nat.reduceLT, Nat.reduceBEq, Nat.reduceBNe, reduceCtorEq, Int.reduceBEq, Int.reduceBNe, Int.reduceLT, Int.reduceLE, Int.reduceEq, Int.reduceToNat, Int.reduceAdd, Int.reduceSub, Int.reduceNeg]
  refine new_mk fun M1 e1 => ?_
  have R1 : RowIs M1 M.bl.length [.int .i64 0, .int .i64 0] := by rw [e1]; exact row_push _ _
  have l1 : m.bl.length ≤ M1.low := by rw [e1]; exact hl0
  have b1 : M1.bl.length = M.bl.length + 1 := by rw [e1]; simp [Mem.push]
  simp +contextual only [vq, vc, ve, vv, vn, vl, ↓reduceIte, Nat.reduceEqDiff, Nat.reduceAdd, Nat.reduceMul, Nat.reduceSub, Nat.reduceLeDiff, Nat.reduceLT, Nat.reduceBEq, Nat.reduceBNe, reduceCtorEq, Int.reduceBEq, Int.reduceBNe, Int.reduceLT, Int.reduceLE, Int.reduceEq, Int.reduceToNat, Int.reduceAdd, Int.reduceSub, Int.reduceNeg]
  refine loop2 (fun n st => ∃ i f o k v A N, st = ⟨A, N, [], none⟩ ∧ UnxI m M1 M.bl.length s n i f o k v A N) s.length ⟨0, s.length + 1, [], none, _, _, M1, rfl, rfl, by omega, by simp +contextual only [vq, vc, ve, vv, vn, vl, ↓reduceIte, Nat.reduceEqDiff, Nat.reduceAdd, Nat.reduceMul, Nat.reduceSub, Nat.reduceLeDiff, Nat.reduceLT, Nat.reduceBEq, Nat.reduceBNe, reduceCtorEq, Int.reduceBEq, Int.reduceBNe, Int.reduceLT, Int.reduceLE, Int.reduceEq, Int.reduceToNat, Int.reduceAdd, Int.reduceSub, Int.reduceNeg], by simp +contextual only [vq, vc, ve, vv, vn, vl, ↓reduceIte, Nat.reduceEqDiff, Nat.reduceAdd, Nat.reduceMul, Nat.reduceSub, Nat.reduceLeDiff, Nat.reduceLT, Nat.reduceBEq, Nat.reduceBNe, reduceCtorEq, Int.reduceBEq, Int.reduceBNe, Int.reduceLT, Int.reduceLE, Int.reduceEq, Int.reduceToNat, Int.reduceAdd, Int.reduceSub, Int.reduceNeg], by simp +contextual only [vq, vc, ve, vv, vn, vl, ↓reduceIte, Nat.reduceEqDiff, Nat.reduceAdd, Nat.reduceMul, Nat.reduceSub, Nat.reduceLeDiff, Nat.reduceLT, Nat.reduceBEq, Nat.reduceBNe, reduceCtorEq, Int.reduceBEq, Int.reduceBNe, Int.reduceLT, Int.reduceLE, Int.reduceEq, Int.reduceToNat, Int.reduceAdd, Int.reduceSub, Int.reduceNeg], by simp +contextual only [vq, vc, ve, vv, vn, vl, ↓reduceIte, Nat.reduceEqDiff, Nat.reduceAdd, Nat.reduceMul, Nat.reduceSub, Nat.reduceLeDiff, Nat.reduceLT, Nat.reduceBEq, Nat.reduceBNe, reduceCtorEq, Int.reduceBEq, Int.reduceBNe, Int.reduceLT, Int.reduceLE, Int.reduceEq, Int.reduceToNat, Int.reduceAdd, Int.reduceSub, Int.reduceNeg]; rfl, Priv.nil, (fun _ h => by cases h), Grown.rfl', l1, by omega, rfl, by simp⟩ fun J hJ n st hI => ?_
  obtain ⟨i, f, o, k, v, A, N, rfl, rfl, hi, A0, A3, A4, A5, hv, hk, gN, lN, hf, hu, ho⟩ := hI
  obtain ⟨f, rfl⟩ : ∃ g, f = g + 1 := ⟨f - 1, by omega⟩
  have hle := gN.le
  by_cases hlt : i < s.length
  · have hq : ((((s[i]).toNat : Int)) != 43) = (s[i] != 43) := by
      have := u8_eq s[i] 43
      simp only [bne]
      exact congrArg (! ·) this
    cases h43 : (s[i] != 43) with
    | true =>
      have hne : s[i] ≠ 43 := by simpa using h43
      rw [h43] at hq
      cases h9 : isF 9 s[i].toNat with
      | false =>
        rw [unx_not hlt h9 hne] at hu
        obtain ⟨N2, w1, w2, w3⟩ := unx_err R1 gN lN (show m.bl.length ≤ M.bl.length by omega) 104 (i : Int)
        simp +contextual only [vq, vc, ve, vv, vn, vl, ↓reduceIte, Nat.reduceEqDiff, Nat.reduceAdd, Nat.reduceMul, Nat.reduceSub, Nat.reduceLeDiff, Nat.reduceLT, Nat.reduceBEq, Nat.reduceBNe, reduceCtorEq, Int.reduceBEq, Int.reduceBNe, Int.reduceLT, Int.reduceLE, Int.reduceEq, Int.reduceToNat, Int.reduceAdd, Int.reduceSub, Int.reduceNeg, A0, A3, A5, hlt, get_byte hlt, hq, callR_val (c_r01_Is _ 9 _ (by omega)), h9, w1, w2, w3, ← hu, unxE]
      | true =>
        rw [unx_see hlt h9] at hu
        simp +contextual only [vq, vc, ve, vv, vn, vl, ↓reduceIte, Nat.reduceEqDiff, Nat.reduceAdd, Nat.reduceMul, Nat.reduceSub, Nat.reduceLeDiff, Nat.reduceLT, Nat.reduceBEq, Nat.reduceBNe, reduceCtorEq, Int.reduceBEq, Int.reduceBNe, Int.reduceLT, Int.reduceLE, Int.reduceEq, Int.reduceToNat, Int.reduceAdd, Int.reduceSub, Int.reduceNeg, A0, A4, A5, hlt, get_byte hlt, hq, callR_val (c_r01_Is _ 9 _ (by omega)), h9]
        refine new_mk fun N1 n1 => ?_
        obtain ⟨r1, v', N2, k', ha, hp, hk', g2, l2⟩ := unx_lit (m := m) hv hk n1 gN (by omega) lN ho (by omega)
        simp only [byteE] at ha
        simp +contextual only [vq, vc, ve, vv, vn, vl, ↓reduceIte, Nat.reduceEqDiff, Nat.reduceAdd, Nat.reduceMul, Nat.reduceSub, Nat.reduceLeDiff, Nat.reduceLT, Nat.reduceBEq, Nat.reduceBNe, reduceCtorEq, Int.reduceBEq, Int.reduceBNe, Int.reduceLT, Int.reduceLE, Int.reduceEq, Int.reduceToNat, Int.reduceAdd, Int.reduceSub, Int.reduceNeg, A5, r1.getN (G := G), ha, wsucc hlt (by omega)]
        exact again2 hJ (s.length - (i + 1)) (by omega) ⟨i + 1, f, _, k', v', _, N2, rfl, rfl, by omega, by simp +contextual only [vq, vc, ve, vv, vn, vl, ↓reduceIte, Nat.reduceEqDiff, Nat.reduceAdd, Nat.reduceMul, Nat.reduceSub, Nat.reduceLeDiff, Nat.reduceLT, Nat.reduceBEq, Nat.reduceBNe, reduceCtorEq, Int.reduceBEq, Int.reduceBNe, Int.reduceLT, Int.reduceLE, Int.reduceEq, Int.reduceToNat, Int.reduceAdd, Int.reduceSub, Int.reduceNeg, A0], by simp +contextual only [vq, vc, ve, vv, vn, vl, ↓reduceIte, Nat.reduceEqDiff, Nat.reduceAdd, Nat.reduceMul, Nat.reduceSub, Nat.reduceLeDiff, Nat.reduceLT, Nat.reduceBEq, Nat.reduceBNe, reduceCtorEq, Int.reduceBEq, Int.reduceBNe, Int.reduceLT, Int.reduceLE, Int.reduceEq, Int.reduceToNat, Int.reduceAdd, Int.reduceSub, Int.reduceNeg, A3], by simp +contextual only [vq, vc, ve, vv, vn, vl, ↓reduceIte, Nat.reduceEqDiff, Nat.reduceAdd, Nat.reduceMul, Nat.reduceSub, Nat.reduceLeDiff, Nat.reduceLT, Nat.reduceBEq, Nat.reduceBNe, reduceCtorEq, Int.reduceBEq, Int.reduceBNe, Int.reduceLT, Int.reduceLE, Int.reduceEq, Int.reduceToNat, Int.reduceAdd, Int.reduceSub, Int.reduceNeg], by simp +contextual only [vq, vc, ve, vv, vn, vl, ↓reduceIte, Nat.reduceEqDiff, Nat.reduceAdd, Nat.reduceMul, Nat.reduceSub, Nat.reduceLeDiff, Nat.reduceLT, Nat.reduceBEq, Nat.reduceBNe, reduceCtorEq, Int.reduceBEq, Int.reduceBNe, Int.reduceLT, Int.reduceLE, Int.reduceEq, Int.reduceToNat, Int.reduceAdd, Int.reduceSub, Int.reduceNeg], hp, hk', g2, l2, by omega, hu, by simp; omega⟩
    | false =>
      have heq : s[i] = 43 := by simpa using h43
      rw [h43] at hq
      simp +contextual only [vq, vc, ve, vv, vn, vl, ↓reduceIte, Nat.reduceEqDiff, Nat.reduceAdd, Nat.reduceMul, Nat.reduceSub, Nat.reduceLeDiff, Nat.reduceLT, Nat.reduceBEq, Nat.reduceBNe, reduceCtorEq, Int.reduceBEq, Int.reduceBNe, Int.reduceLT, Int.reduceLE, Int.reduceEq, Int.reduceToNat, Int.reduceAdd, Int.reduceSub, Int.reduceNeg, A0, A5, hlt, get_byte hlt, hq]
      refine loop2 (fun n st => ∃ c B, st = ⟨B, N, [], none⟩ ∧ n = 3 - c ∧ 1 ≤ c ∧ c ≤ 3 ∧ B 0 = .str s ∧ B 3 = .ptr (some ⟨.mem M.bl.length 0, 0⟩) ∧ B 4 = v ∧ B 5 = .int .i64 (i : Nat) ∧ B 6 = .int .i64 (c : Nat) ∧ ∀ j, 1 ≤ j → j < c → capAt s (i + j) = true) 2 ⟨1, _, rfl, by omega, by omega, by omega, by simp +contextual only [vq, vc, ve, vv, vn, vl, ↓reduceIte, Nat.reduceEqDiff, Nat.reduceAdd, Nat.reduceMul, Nat.reduceSub, Nat.reduceLeDiff, Nat.reduceLT, Nat.reduceBEq, Nat.reduceBNe, reduceCtorEq, Int.reduceBEq, Int.reduceBNe, Int.reduceLT, Int.reduceLE, Int.reduceEq, Int.reduceToNat, Int.reduceAdd, Int.reduceSub, Int.reduceNeg, A0], by simp +contextual only [vq, vc, ve, vv, vn, vl, ↓reduceIte, Nat.reduceEqDiff, Nat.reduceAdd, Nat.reduceMul, Nat.reduceSub, Nat.reduceLeDiff, Nat.reduceLT, Nat.reduceBEq, Nat.reduceBNe, reduceCtorEq, Int.reduceBEq, Int.reduceBNe, Int.reduceLT, Int.reduceLE, Int.reduceEq, Int.reduceToNat, Int.reduceAdd, Int.reduceSub, Int.reduceNeg, A3], by simp +contextual only [vq, vc, ve, vv, vn, vl, ↓reduceIte, Nat.reduceEqDiff, Nat.reduceAdd, Nat.reduceMul, Nat.reduceSub, Nat.reduceLeDiff, Nat.reduceLT, Nat.reduceBEq, Nat.reduceBNe, reduceCtorEq, Int.reduceBEq, Int.reduceBNe, Int.reduceLT, Int.reduceLE, Int.reduceEq, Int.reduceToNat, Int.reduceAdd, Int.reduceSub, Int.reduceNeg, A4], by simp +contextual only [vq, vc, ve, vv, vn, vl, ↓reduceIte, Nat.reduceEqDiff, Nat.reduceAdd, Nat.reduceMul, Nat.reduceSub, Nat.reduceLeDiff, Nat.reduceLT, Nat.reduceBEq, Nat.reduceBNe, reduceCtorEq, Int.reduceBEq, Int.reduceBNe, Int.reduceLT, Int.reduceLE, Int.reduceEq, Int.reduceToNat, Int.reduceAdd, Int.reduceSub, Int.reduceNeg, A5], by simp +contextual only [vq, vc, ve, vv, vn, vl, ↓reduceIte, Nat.reduceEqDiff, Nat.reduceAdd, Nat.reduceMul, Nat.reduceSub, Nat.reduceLeDiff, Nat.reduceLT, Nat.reduceBEq, Nat.reduceBNe, reduceCtorEq, Int.reduceBEq, Int.reduceBNe, Int.reduceLT, Int.reduceLE, Int.reduceEq, Int.reduceToNat, Int.reduceAdd, Int.reduceSub, Int.reduceNeg]; rfl, fun j h1 h2 => by omega⟩ fun J2 hJ2 n2 st2 hI2 => ?_
      obtain ⟨c, B, rfl, rfl, hc1, hc3, B0, B3, B4, B5, B6, hcap⟩ := hI2
      have hwc : IntKind.i64.wrap ((i : Int) + (c : Int)) = ((i + c : Nat) : Int) := wrap_of (by omega) (by omega)
      have hwc1 : IntKind.i64.wrap ((c : Int) + 1) = ((c + 1 : Nat) : Int) := wrap_of (by omega) (by omega)
      by_cases hc2 : c ≤ 2
      · have kc : ((c : Int) ≤ 2) = True := eq_true (by omega)
        by_cases hic : i + c < s.length
        · have k3 : (s.length ≤ i + c) = False := eq_false (by omega)
          have hcc := fun m => c_r10_capital m s (i + c) hic (by omega)
          have hca := capAt_get hic
          cases hb : capB s[i + c] with
          | false =>
            rw [hb] at hca
            rw [unx_bad hlt heq ⟨hc1, hc2⟩ hcap hca] at hu
            obtain ⟨N2, w1, w2, w3⟩ := unx_err R1 gN lN (show m.bl.length ≤ M.bl.length by omega) 104 ((i + c : Nat) : Int)
            simp only [hb] at hcc
            simp +contextual only [vq, vc, ve, vv, vn, vl, ↓reduceIte, Nat.reduceEqDiff, Nat.reduceAdd, Nat.reduceMul, Nat.reduceSub, Nat.reduceLeDiff, Nat.reduceLT, Nat.reduceBEq, Nat.reduceBNe, reduceCtorEq, Int.reduceBEq, Int.reduceBNe, Int.reduceLT, Int.reduceLE, Int.reduceEq, Int.reduceToNat, Int.reduceAdd, Int.reduceSub, Int.reduceNeg, B0, B3, B5, B6, kc, k3, hwc, callR_val (hcc _), w1, w2, w3, ← hu, unxE]
          | true =>
            rw [hb] at hca
            simp only [hb] at hcc
            simp +contextual only [vq, vc, ve, vv, vn, vl, ↓reduceIte, Nat.reduceEqDiff, Nat.reduceAdd, Nat.reduceMul, Nat.reduceSub, Nat.reduceLeDiff, Nat.reduceLT, Nat.reduceBEq, Nat.reduceBNe, reduceCtorEq, Int.reduceBEq, Int.reduceBNe, Int.reduceLT, Int.reduceLE, Int.reduceEq, Int.reduceToNat, Int.reduceAdd, Int.reduceSub, Int.reduceNeg, B0, B5, B6, kc, k3, hwc, callR_val (hcc _), hwc1]
            refine again2 hJ2 (3 - (c + 1)) (by omega) ⟨c + 1, _, rfl, rfl, by omega, by omega, by simp +contextual only [vq, vc, ve, vv, vn, vl, ↓reduceIte, Nat.reduceEqDiff, Nat.reduceAdd, Nat.reduceMul, Nat.reduceSub, Nat.reduceLeDiff, Nat.reduceLT, Nat.reduceBEq, Nat.reduceBNe, reduceCtorEq, Int.reduceBEq, Int.reduceBNe, Int.reduceLT, Int.reduceLE, Int.reduceEq, Int.reduceToNat, Int.reduceAdd, Int.reduceSub, Int.reduceNeg, B0], by simp +contextual only [vq, vc, ve, vv, vn, vl, ↓reduceIte, Nat.reduceEqDiff, Nat.reduceAdd, Nat.reduceMul, Nat.reduceSub, Nat.reduceLeDiff, Nat.reduceLT, Nat.reduceBEq, Nat.reduceBNe, reduceCtorEq, Int.reduceBEq, Int.reduceBNe, Int.reduceLT, Int.reduceLE, Int.reduceEq, Int.reduceToNat, Int.reduceAdd, Int.reduceSub, Int.reduceNeg, B3], by simp +contextual only [vq, vc, ve, vv, vn, vl, ↓reduceIte, Nat.reduceEqDiff, Nat.reduceAdd, Nat.reduceMul, Nat.reduceSub, Nat.reduceLeDiff, Nat.reduceLT, Nat.reduceBEq, Nat.reduceBNe, reduceCtorEq, Int.reduceBEq, Int.reduceBNe, Int.reduceLT, Int.reduceLE, Int.reduceEq, Int.reduceToNat, Int.reduceAdd, Int.reduceSub, Int.reduceNeg, B4], by simp +contextual only [vq, vc, ve, vv, vn, vl, ↓reduceIte, Nat.reduceEqDiff, Nat.reduceAdd, Nat.reduceMul, Nat.reduceSub, Nat.reduceLeDiff, Nat.reduceLT, Nat.reduceBEq, Nat.reduceBNe, reduceCtorEq, Int.reduceBEq, Int.reduceBNe, Int.reduceLT, Int.reduceLE, Int.reduceEq, Int.reduceToNat, Int.reduceAdd, Int.reduceSub, Int.reduceNeg, B5], by simp +contextual only [vq, vc, ve, vv, vn, vl, ↓reduceIte, Nat.reduceEqDiff, Nat.reduceAdd, Nat.reduceMul, Nat.reduceSub, Nat.reduceLeDiff, Nat.reduceLT, Nat.reduceBEq, Nat.reduceBNe, reduceCtorEq, Int.reduceBEq, Int.reduceBNe, Int.reduceLT, Int.reduceLE, Int.reduceEq, Int.reduceToNat, Int.reduceAdd, Int.reduceSub, Int.reduceNeg], fun j h1 h2 => ?_⟩
            by_cases hjc : j = c
            · subst hjc; exact hca
            · exact hcap j h1 (by omega)
        · have k3 : (s.length ≤ i + c) = True := eq_true (by omega)
          have hca : capAt s (i + c) = false := capAt_none (by omega)
          rw [unx_bad hlt heq ⟨hc1, hc2⟩ hcap hca] at hu
          obtain ⟨N2, w1, w2, w3⟩ := unx_err R1 gN lN (show m.bl.length ≤ M.bl.length by omega) 104 ((i + c : Nat) : Int)
          simp +contextual only [vq, vc, ve, vv, vn, vl, ↓reduceIte, Nat.reduceEqDiff, Nat.reduceAdd, Nat.reduceMul, Nat.reduceSub, Nat.reduceLeDiff, Nat.reduceLT, Nat.reduceBEq, Nat.reduceBNe, reduceCtorEq, Int.reduceBEq, Int.reduceBNe, Int.reduceLT, Int.reduceLE, Int.reduceEq, Int.reduceToNat, Int.reduceAdd, Int.reduceSub, Int.reduceNeg, B0, B3, B5, B6, kc, k3, hwc, w1, w2, w3, ← hu, unxE]
      · have hc : c = 3 := by omega
        subst hc
        have kc : (((3 : Nat) : Int) ≤ 2) = False := eq_false (by omega)
        have q1 := hcap 1 (by omega) (by omega)
        have q2 := hcap 2 (by omega) (by omega)
        rw [unx_good hlt heq q1 q2] at hu
        obtain ⟨h1, c1, d1⟩ := capAt_lt q1
        obtain ⟨h2, c2, d2⟩ := capAt_lt q2
        rw [d1, d2] at hu
        have a1 := capB_lt _ c1
        have a2 := capB_lt _ c2
        have w1 : IntKind.i64.wrap ((i : Int) + 1) = ((i + 1 : Nat) : Int) := wrap_of (by omega) (by omega)
        have w2 : IntKind.i64.wrap ((i : Int) + 2) = ((i + 2 : Nat) : Int) := wrap_of (by omega) (by omega)
        have w3 : IntKind.i64.wrap ((i : Int) + 3) = ((i + 3 : Nat) : Int) := wrap_of (by omega) (by omega)
        have hx := hex16 _ _ a1 a2
        simp +contextual only [vq, vc, ve, vv, vn, vl, ↓reduceIte, Nat.reduceEqDiff, Nat.reduceAdd, Nat.reduceMul, Nat.reduceSub, Nat.reduceLeDiff, Nat.reduceLT, Nat.reduceBEq, Nat.reduceBNe, reduceCtorEq, Int.reduceBEq, Int.reduceBNe, Int.reduceLT, Int.reduceLE, Int.reduceEq, Int.reduceToNat, Int.reduceAdd, Int.reduceSub, Int.reduceNeg, B0, B4, B5, B6, kc, w1, w2, w3, get_byte h1, get_byte h2, callR_val (c_r01_Digit _ _ c1), callR_val (c_r01_Digit _ _ c2), hx]
        refine new_mk fun N1 n1 => ?_
        have gX : Grown M1 ⟨N.bl, N.bl.length⟩ := gN
        obtain ⟨r1, v', N2, k', ha, hp, hk', g2, l2⟩ := unx_lit (m := m) (N := ⟨N.bl, N.bl.length⟩) hv hk n1 gX (by omega) (by simp only; omega) ho (by omega)
        simp only [byteE] at ha
        have hlD : m.bl.length ≤ lowD N N2 := by
          unfold lowD
          split
          · exact lN
          · omega
        simp +contextual only [vq, vc, ve, vv, vn, vl, ↓reduceIte, Nat.reduceEqDiff, Nat.reduceAdd, Nat.reduceMul, Nat.reduceSub, Nat.reduceLeDiff, Nat.reduceLT, Nat.reduceBEq, Nat.reduceBNe, reduceCtorEq, Int.reduceBEq, Int.reduceBNe, Int.reduceLT, Int.reduceLE, Int.reduceEq, Int.reduceToNat, Int.reduceAdd, Int.reduceSub, Int.reduceNeg, r1.getN (G := G), ha]
        simp only [endD]
        simp +contextual only [vq, vc, ve, vv, vn, vl, ↓reduceIte, Nat.reduceEqDiff, Nat.reduceAdd, Nat.reduceMul, Nat.reduceSub, Nat.reduceLeDiff, Nat.reduceLT, Nat.reduceBEq, Nat.reduceBNe, reduceCtorEq, Int.reduceBEq, Int.reduceBNe, Int.reduceLT, Int.reduceLE, Int.reduceEq, Int.reduceToNat, Int.reduceAdd, Int.reduceSub, Int.reduceNeg, B5, w3]
        exact again2 hJ (s.length - (i + 3)) (by omega) ⟨i + 3, f, _, k', v', _, _, rfl, rfl, by omega, by simp +contextual only [vq, vc, ve, vv, vn, vl, ↓reduceIte, Nat.reduceEqDiff, Nat.reduceAdd, Nat.reduceMul, Nat.reduceSub, Nat.reduceLeDiff, Nat.reduceLT, Nat.reduceBEq, Nat.reduceBNe, reduceCtorEq, Int.reduceBEq, Int.reduceBNe, Int.reduceLT, Int.reduceLE, Int.reduceEq, Int.reduceToNat, Int.reduceAdd, Int.reduceSub, Int.reduceNeg, B0], by simp +contextual only [vq, vc, ve, vv, vn, vl, ↓reduceIte, Nat.reduceEqDiff, Nat.reduceAdd, Nat.reduceMul, Nat.reduceSub, Nat.reduceLeDiff, Nat.reduceLT, Nat.reduceBEq, Nat.reduceBNe, reduceCtorEq, Int.reduceBEq, Int.reduceBNe, Int.reduceLT, Int.reduceLE, Int.reduceEq, Int.reduceToNat, Int.reduceAdd, Int.reduceSub, Int.reduceNeg, B3], by simp +contextual only [vq, vc, ve, vv, vn, vl, ↓reduceIte, Nat.reduceEqDiff, Nat.reduceAdd, Nat.reduceMul, Nat.reduceSub, Nat.reduceLeDiff, Nat.reduceLT, Nat.reduceBEq, Nat.reduceBNe, reduceCtorEq, Int.reduceBEq, Int.reduceBNe, Int.reduceLT, Int.reduceLE, Int.reduceEq, Int.reduceToNat, Int.reduceAdd, Int.reduceSub, Int.reduceNeg], by simp +contextual only [vq, vc, ve, vv, vn, vl, ↓reduceIte, Nat.reduceEqDiff, Nat.reduceAdd, Nat.reduceMul, Nat.reduceSub, Nat.reduceLeDiff, Nat.reduceLT, Nat.reduceBEq, Nat.reduceBNe, reduceCtorEq, Int.reduceBEq, Int.reduceBNe, Int.reduceLT, Int.reduceLE, Int.reduceEq, Int.reduceToNat, Int.reduceAdd, Int.reduceSub, Int.reduceNeg], hp, hk', g2, hlD, by omega, hu, by simp; omega⟩
  · have he : i = s.length := by omega
    subst he
    rw [unx_end (Nat.le_refl _)] at hu
    obtain ⟨N2, w1, w2, w3⟩ := unx_err R1 gN lN (show m.bl.length ≤ M.bl.length by omega) 0 0
    have ht : tosE G N v = some (.str o) := hv.bytes.tos
    simp +contextual only [vq, vc, ve, vv, vn, vl, ↓reduceIte, Nat.reduceEqDiff, Nat.reduceAdd, Nat.reduceMul, Nat.reduceSub, Nat.reduceLeDiff, Nat.reduceLT, Nat.reduceBEq, Nat.reduceBNe, reduceCtorEq, Int.reduceBEq, Int.reduceBNe, Int.reduceLT, Int.reduceLE, Int.reduceEq, Int.reduceToNat, Int.reduceAdd, Int.reduceSub, Int.reduceNeg, A0, A3, A4, A5, ht, w1, w2, w3, ← hu, unxE]
end Go.Proofs.YtmjoaiccbghijaaDoor.paramRcpts

namespace Go.Proofs.YtmjoaiccbghijaaDoor.paramRcpts
open Go.Ev hiding Comes
variable [GG]

theorem c_r05_lead (m : Mem) (n : Nat) (hn : n < 5) : Go.Ev.Comes T G f_r05_lead [.int .i64 n] m none ⟨.val (.int .i64 (leadZ n)), m, none⟩ := by
  refine comes2 T_r05_lead rfl fun M hg hlen hlow => ?_
  simp only [F_r05_lead]
  simp +contextual only [vq, vc, ve, vv, vn, vl, ↓reduceIte, Nat.reduceEqDiff, Nat.reduceAdd, Nat.reduceMul, Nat.reduceSub, Nat.reduceLeDiff, Nat.reduceLT, Nat.reduceBEq, Nat.reduceBNe, reduceCtorEq, Int.reduceBEq, Int.reduceBNe, Int.reduceLT, Int.reduceLE, Int.reduceEq, Int.reduceToNat, Int.reduceAdd, Int.reduceSub, Int.reduceNeg]
  refine new_mk fun M1 e1 => ?_
  have R1 : RowIs M1 M.bl.length [.int .i64 0, .int .i64 0, .int .i64 192, .int .i64 224, .int .i64 240] := by rw [e1]; exact row_push _ _
  have hl : m.bl.length ≤ M1.low := by rw [e1]; show _ ≤ M.low; omega
  have i5 : ((n : Int) < 5) = True := eq_true (by omega)
  have i5' : ((n : Int) < ((5 : Nat) : Int)) = True := eq_true (by omega)
  have hv : ([.int .i64 0, .int .i64 0, .int .i64 192, .int .i64 224, .int .i64 240] : List EV)[n]? = some (.int .i64 (leadZ n)) := by
    have : n = 0 ∨ n = 1 ∨ n = 2 ∨ n = 3 ∨ n = 4 := by omega
    rcases this with rfl | rfl | rfl | rfl | rfl <;> rfl
  simp +contextual only [vq, vc, ve, vv, vn, vl, ↓reduceIte, Nat.reduceEqDiff, Nat.reduceAdd, Nat.reduceMul, Nat.reduceSub, Nat.reduceLeDiff, Nat.reduceLT, Nat.reduceBEq, Nat.reduceBNe, reduceCtorEq, Int.reduceBEq, Int.reduceBNe, Int.reduceLT, Int.reduceLE, Int.reduceEq, Int.reduceToNat, Int.reduceAdd, Int.reduceSub, Int.reduceNeg, i5, i5', R1.get (G := G), hv, hl]
theorem c_r05_Is (m : Mem) (r : Int) : Go.Ev.Comes T G f_r05_Is [.int .i64 r] m none ⟨.val (.bool (isR r)), m, none⟩ := by
  refine comes2 T_r05_Is rfl fun M hg hlen hlow => ?_
  have hl : m.bl.length ≤ M.low := by omega
  simp only [F_r05_Is]
  simp +contextual only [vq, vc, ve, vv, vn, vl, ↓reduceIte, Nat.reduceEqDiff, Nat.reduceAdd, Nat.reduceMul, Nat.reduceSub, Nat.reduceLeDiff, Nat.reduceLT, Nat.reduceBEq, Nat.reduceBNe, reduceCtorEq, Int.reduceBEq, Int.reduceBNe, Int.reduceLT, Int.reduceLE, Int.reduceEq, Int.reduceToNat, Int.reduceAdd, Int.reduceSub, Int.reduceNeg, hl]
  rfl

theorem wz {z : Int} (h0 : 0 ≤ z) (h1 : z ≤ 400000000) : IntKind.i64.wrap z = z := wrap64 (by omega) (by omega)
theorem uz {z : Int} (h0 : 0 ≤ z) (h1 : z < 256) : IntKind.u8.wrap z = ((bt z).toNat : Int) := by
  rw [wrap8 h0 h1]
  simp [bt, UInt8.toNat_ofNat']
  omega
/-- The bytes of a rune, written. -/
theorem c_r05_Write (m : Mem) (x : Int) (h0 : 0 ≤ x) (h1 : x ≤ 1114111) :
    ∃ M, Go.Ev.Comes T G f_r05_Write [.int .i32 x] m none ⟨.val (.slice (some ⟨.mem m.bl.length 0, 0⟩) (wr x).length (wr x).length 1), M, none⟩ ∧ Grown m M ∧ min m.low m.bl.length ≤ M.low ∧ RowIs M m.bl.length (bytesE (wr x)) := by
  suffices H : ∃ r, Go.Ev.Comes T G f_r05_Write [.int .i32 x] m none r ∧ ∃ M, r = ⟨.val (.slice (some ⟨.mem m.bl.length 0, 0⟩) (wr x).length (wr x).length 1), M, none⟩ ∧ Grown m M ∧ min m.low m.bl.length ≤ M.low ∧ RowIs M m.bl.length (bytesE (wr x)) by
    obtain ⟨_, hc, M, rfl, h⟩ := H
    exact ⟨M, hc, h⟩
  refine comes2P T_r05_Write rfl fun M hg hlen hlow => ?_
  have wx : IntKind.i64.wrap x = x := wz h0 (by omega)
  have fin : ∀ {A : Fr} {l : List UInt8} {M2 : Mem}, wr x = l → M2 = M.push (.cells (bytesE l) 0 true) → A 2 = .slice (some ⟨.mem M.bl.length 0, 0⟩) l.length l.length 1 → postX G [.tmp 2] m (fun r => ∃ M, r = ⟨.val (.slice (some ⟨.mem m.bl.length 0, 0⟩) (wr x).length (wr x).length 1), M, none⟩ ∧ Grown m M ∧ min m.low m.bl.length ≤ M.low ∧ RowIs M m.bl.length (bytesE (wr x))) .ret ⟨A, M2, [], none⟩ := by
    intro A l M2 e e2 hA
    subst e
    rw [hlen] at hA
    refine postX_new (v := .slice (some ⟨.mem m.bl.length 0, 0⟩) (wr x).length (wr x).length 1) (by simp +contextual only [vq, vc, ve, vv, vn, vl, ↓reduceIte, Nat.reduceEqDiff, Nat.reduceAdd, Nat.reduceMul, Nat.reduceSub, Nat.reduceLeDiff, Nat.reduceLT, Nat.reduceBEq, Nat.reduceBNe, reduceCtorEq, Int.reduceBEq, Int.reduceBNe, Int.reduceLT, Int.reduceLE, Int.reduceEq, Int.reduceToNat, Int.reduceAdd, Int.reduceSub, Int.reduceNeg, hA]) (by simp +contextual only [vq, vc, ve, vv, vn, vl, ↓reduceIte, Nat.reduceEqDiff, Nat.reduceAdd, Nat.reduceMul, Nat.reduceSub, Nat.reduceLeDiff, Nat.reduceLT, Nat.reduceBEq, Nat.reduceBNe, reduceCtorEq, Int.reduceBEq, Int.reduceBNe, Int.reduceLT, Int.reduceLE, Int.reduceEq, Int.reduceToNat, Int.reduceAdd, Int.reduceSub, Int.reduceNeg]) ⟨⟨M2.bl, min m.low M2.low⟩, rfl, ?_, ?_, ?_⟩
    · obtain ⟨l, hl⟩ := (hg.push : Grown m (M.push (.cells (bytesE (wr x)) 0 true)))
      exact ⟨l, by rw [e2]; exact hl⟩
    · rw [e2]; show _ ≤ min m.low M.low; omega
    · have := row_push M (bytesE (wr x))
      rw [hlen, ← e2] at this
      exact this
  simp only [F_r05_Write]
  have d1 : x.tdiv 64 = x / 64 := Int.tdiv_eq_ediv_of_nonneg h0
  have d2 : x.tdiv 4096 = x / 4096 := Int.tdiv_eq_ediv_of_nonneg h0
  have d3 : x.tdiv 262144 = x / 262144 := Int.tdiv_eq_ediv_of_nonneg h0
  have r1 : x.tmod 64 = x % 64 := Int.tmod_eq_emod_of_nonneg h0
  have r2 : (x / 64).tmod 64 = x / 64 % 64 := Int.tmod_eq_emod_of_nonneg (by omega)
  have r3 : (x / 4096).tmod 64 = x / 4096 % 64 := Int.tmod_eq_emod_of_nonneg (by omega)
  have q1 : IntKind.i64.wrap (x / 64) = x / 64 := wz (by omega) (by omega)
  have q2 : IntKind.i64.wrap (x / 4096) = x / 4096 := wz (by omega) (by omega)
  have q3 : IntKind.i64.wrap (x / 262144) = x / 262144 := wz (by omega) (by omega)
  have w (a z : Int) (ha : 0 ≤ a ∧ a ≤ 1000) (hz : 0 ≤ z ∧ z ≤ 1114111) : IntKind.i64.wrap (a + z) = a + z := wz (by omega) (by omega)
  by_cases c1 : x < 128
  · have ew : wr x = [bt x] := by unfold wr; rw [if_pos c1]
    simp +contextual only [vq, vc, ve, vv, vn, vl, ↓reduceIte, Nat.reduceEqDiff, Nat.reduceAdd, Nat.reduceMul, Nat.reduceSub, Nat.reduceLeDiff, Nat.reduceLT, Nat.reduceBEq, Nat.reduceBNe, reduceCtorEq, Int.reduceBEq, Int.reduceBNe, Int.reduceLT, Int.reduceLE, Int.reduceEq, Int.reduceToNat, Int.reduceAdd, Int.reduceSub, Int.reduceNeg, wx, c1, uz h0 (show x < 256 by omega)]
    refine new_mk fun M2 e2 => ?_
    simp +contextual only [vq, vc, ve, vv, vn, vl, ↓reduceIte, Nat.reduceEqDiff, Nat.reduceAdd, Nat.reduceMul, Nat.reduceSub, Nat.reduceLeDiff, Nat.reduceLT, Nat.reduceBEq, Nat.reduceBNe, reduceCtorEq, Int.reduceBEq, Int.reduceBNe, Int.reduceLT, Int.reduceLE, Int.reduceEq, Int.reduceToNat, Int.reduceAdd, Int.reduceSub, Int.reduceNeg]
    exact fin ew e2 (by simp +contextual only [vq, vc, ve, vv, vn, vl, ↓reduceIte, Nat.reduceEqDiff, Nat.reduceAdd, Nat.reduceMul, Nat.reduceSub, Nat.reduceLeDiff, Nat.reduceLT, Nat.reduceBEq, Nat.reduceBNe, reduceCtorEq, Int.reduceBEq, Int.reduceBNe, Int.reduceLT, Int.reduceLE, Int.reduceEq, Int.reduceToNat, Int.reduceAdd, Int.reduceSub, Int.reduceNeg])
  by_cases c2 : x < 2048
  · have ew : wr x = [bt (192 + x / 64), bt (128 + x % 64)] := by unfold wr; rw [if_neg c1, if_pos c2]
    simp +contextual only [vq, vc, ve, vv, vn, vl, ↓reduceIte, Nat.reduceEqDiff, Nat.reduceAdd, Nat.reduceMul, Nat.reduceSub, Nat.reduceLeDiff, Nat.reduceLT, Nat.reduceBEq, Nat.reduceBNe, reduceCtorEq, Int.reduceBEq, Int.reduceBNe, Int.reduceLT, Int.reduceLE, Int.reduceEq, Int.reduceToNat, Int.reduceAdd, Int.reduceSub, Int.reduceNeg, wx, c1, c2, d1, q1, r1, w 192 (x / 64) (by omega) (by omega), w 128 (x % 64) (by omega) (by omega), uz (show 0 ≤ 192 + x / 64 by omega) (by omega), uz (show 0 ≤ 128 + x % 64 by omega) (by omega)]
    refine new_mk fun M2 e2 => ?_
    simp +contextual only [vq, vc, ve, vv, vn, vl, ↓reduceIte, Nat.reduceEqDiff, Nat.reduceAdd, Nat.reduceMul, Nat.reduceSub, Nat.reduceLeDiff, Nat.reduceLT, Nat.reduceBEq, Nat.reduceBNe, reduceCtorEq, Int.reduceBEq, Int.reduceBNe, Int.reduceLT, Int.reduceLE, Int.reduceEq, Int.reduceToNat, Int.reduceAdd, Int.reduceSub, Int.reduceNeg]
    exact fin ew e2 (by simp +contextual only [vq, vc, ve, vv, vn, vl, ↓reduceIte, Nat.reduceEqDiff, Nat.reduceAdd, Nat.reduceMul, Nat.reduceSub, Nat.reduceLeDiff, Nat.reduceLT, Nat.reduceBEq, Nat.reduceBNe, reduceCtorEq, Int.reduceBEq, Int.reduceBNe, Int.reduceLT, Int.reduceLE, Int.reduceEq, Int.reduceToNat, Int.reduceAdd, Int.reduceSub, Int.reduceNeg])
  by_cases c3 : x < 65536
  · have ew : wr x = [bt (224 + x / 4096), bt (128 + x / 64 % 64), bt (128 + x % 64)] := by unfold wr; rw [if_neg c1, if_neg c2, if_pos c3]
    simp +contextual only [vq, vc, ve, vv, vn, vl, ↓reduceIte, Nat.reduceEqDiff, Nat.reduceAdd, Nat.reduceMul, Nat.reduceSub, Nat.reduceLeDiff, Nat.reduceLT, Nat.reduceBEq, Nat.reduceBNe, reduceCtorEq, Int.reduceBEq, Int.reduceBNe, Int.reduceLT, Int.reduceLE, Int.reduceEq, Int.reduceToNat, Int.reduceAdd, Int.reduceSub, Int.reduceNeg, wx, c1, c2, c3, d1, d2, q1, q2, r1, r2, w 224 (x / 4096) (by omega) (by omega), w 128 (x / 64 % 64) (by omega) (by omega), w 128 (x % 64) (by omega) (by omega), uz (show 0 ≤ 224 + x / 4096 by omega) (by omega), uz (show 0 ≤ 128 + x / 64 % 64 by omega) (by omega), uz (show 0 ≤ 128 + x % 64 by omega) (by omega)]
    refine new_mk fun M2 e2 => ?_
    simp +contextual only [vq, vc, ve, vv, vn, vl, ↓reduceIte, Nat.reduceEqDiff, Nat.reduceAdd, Nat.reduceMul, Nat.reduceSub, Nat.reduceLeDiff, Nat.reduceLT, Nat.reduceBEq, Nat.reduceBNe, reduceCtorEq, Int.reduceBEq, Int.reduceBNe, Int.reduceLT, Int.reduceLE, Int.reduceEq, Int.reduceToNat, Int.reduceAdd, Int.reduceSub, Int.reduceNeg]
    exact fin ew e2 (by simp +contextual only [vq, vc, ve, vv, vn, vl, ↓reduceIte, Nat.reduceEqDiff, Nat.reduceAdd, Nat.reduceMul, Nat.reduceSub, Nat.reduceLeDiff, Nat.reduceLT, Nat.reduceBEq, Nat.reduceBNe, reduceCtorEq, Int.reduceBEq, Int.reduceBNe, Int.reduceLT, Int.reduceLE, Int.reduceEq, Int.reduceToNat, Int.reduceAdd, Int.reduceSub, Int.reduceNeg])
  · have ew : wr x = [bt (240 + x / 262144), bt (128 + x / 4096 % 64), bt (128 + x / 64 % 64), bt (128 + x % 64)] := by unfold wr; rw [if_neg c1, if_neg c2, if_neg c3]
    simp +contextual only [vq, vc, ve, vv, vn, vl, ↓reduceIte, Nat.reduceEqDiff, Nat.reduceAdd, Nat.reduceMul, Nat.reduceSub, Nat.reduceLeDiff, Nat.reduceLT, Nat.reduceBEq, Nat.reduceBNe, reduceCtorEq, Int.reduceBEq, Int.reduceBNe, Int.reduceLT, Int.reduceLE, Int.reduceEq, Int.reduceToNat, Int.reduceAdd, Int.reduceSub, Int.reduceNeg, wx, c1, c2, c3, d1, d2, d3, q1, q2, q3, r1, r2, r3, w 240 (x / 262144) (by omega) (by omega), w 128 (x / 4096 % 64) (by omega) (by omega), w 128 (x / 64 % 64) (by omega) (by omega), w 128 (x % 64) (by omega) (by omega), uz (show 0 ≤ 240 + x / 262144 by omega) (by omega), uz (show 0 ≤ 128 + x / 4096 % 64 by omega) (by omega), uz (show 0 ≤ 128 + x / 64 % 64 by omega) (by omega), uz (show 0 ≤ 128 + x % 64 by omega) (by omega)]
    refine new_mk fun M2 e2 => ?_
    simp +contextual only [vq, vc, ve, vv, vn, vl, ↓reduceIte, Nat.reduceEqDiff, Nat.reduceAdd, Nat.reduceMul, Nat.reduceSub, Nat.reduceLeDiff, Nat.reduceLT, Nat.reduceBEq, Nat.reduceBNe, reduceCtorEq, Int.reduceBEq, Int.reduceBNe, Int.reduceLT, Int.reduceLE, Int.reduceEq, Int.reduceToNat, Int.reduceAdd, Int.reduceSub, Int.reduceNeg]
    exact fin ew e2 (by simp +contextual only [vq, vc, ve, vv, vn, vl, ↓reduceIte, Nat.reduceEqDiff, Nat.reduceAdd, Nat.reduceMul, Nat.reduceSub, Nat.reduceLeDiff, Nat.reduceLT, Nat.reduceBEq, Nat.reduceBNe, reduceCtorEq, Int.reduceBEq, Int.reduceBNe, Int.reduceLT, Int.reduceLE, Int.reduceEq, Int.reduceToNat, Int.reduceAdd, Int.reduceSub, Int.reduceNeg])
end Go.Proofs.YtmjoaiccbghijaaDoor.paramRcpts

namespace Go.Proofs.YtmjoaiccbghijaaDoor.paramRcpts
open Go.Ev hiding Comes
variable [GG]

theorem wi {z : Int} (h : -2000000000000 ≤ z ∧ z ≤ 2000000000000) : IntKind.i64.wrap z = z := wrap64 (by omega) (by omega)
theorem w32 {z : Int} (h0 : 0 ≤ z) (h1 : z ≤ 1114111) : IntKind.i32.wrap z = z := by
  unfold IntKind.wrap
  simp [IntKind.bits, IntKind.signed]
  omega
theorem c_r05_made (m : Mem) (l : List UInt8) (a : Ad) (cap : Nat) (h1 : 1 ≤ l.length) (h4 : l.length ≤ 4) (hcap : l.length ≤ cap) (hg0 : m.getN G a l.length = some (bytesE l)) (ho : oldAd m.bl.length a = true) :
    Go.Ev.Comes T G f_r05_made [.slice (some a) l.length cap 1] m none ⟨.val (.tuple [.int .i32 (IntKind.i32.wrap (madeX l)), .bool (madeOk l)]), m, none⟩ := by
  refine comes2 T_r05_made rfl fun M hg hlen hlow => ?_
  have hgM := getN_grown hg hg0
  have oM := oldAd_le ho hg.le
  have hl0 : m.bl.length ≤ M.low := by omega
  have at_ : ∀ (i : Nat) (hi : i < l.length), M.get G (a.plus i) = some (byteE l[i]) := fun i hi => by
    have := get_part (a := a) (off := 0) (k := i) (v := byteE l[i]) (by rw [Ad.plus_zero]; exact hgM) (by omega) (sub_one (by simp [bytesE, hi]))
    rwa [Nat.zero_add] at this
  have d0 := at_ 0 (by omega)
  have hl := lead_le l.length
  have hb := l[0].toNat_lt
  have x0 : IntKind.i64.wrap ((l[0].toNat : Int)) = (l[0].toNat : Int) := wi (by omega)
  have x1 : IntKind.i64.wrap ((l[0].toNat : Int) - leadZ l.length) = madeK l 0 := by
    rw [wi (by omega)]
    match l, h1 with
    | b :: r, _ => rfl
  rw [Ad.plus_zero] at d0
  have p0 : 0 < l.length := by omega
  have h1' : (1 : Int) ≤ (l.length : Int) := by omega
  simp only [F_r05_made]
  simp +contextual only [vq, vc, ve, vv, vn, vl, ↓reduceIte, Nat.reduceEqDiff, Nat.reduceAdd, Nat.reduceMul, Nat.reduceSub, Nat.reduceLeDiff, Nat.reduceLT, Nat.reduceBEq, Nat.reduceBNe, reduceCtorEq, Int.reduceBEq, Int.reduceBNe, Int.reduceLT, Int.reduceLE, Int.reduceEq, Int.reduceToNat, Int.reduceAdd, Int.reduceSub, Int.reduceNeg, p0, d0, oM, x0, x1, callR_val (c_r05_lead _ _ (show l.length < 5 by omega)), h1', hcap]
  refine loop2 (fun n st => ∃ i A, st = ⟨A, M, [], none⟩ ∧ n = l.length - 1 - i ∧ i ≤ l.length - 1 ∧ A 0 = .slice (some a) l.length cap 1 ∧ A 4 = .int .i64 (madeK l i) ∧ A 16 = .slice (some (a.plus 1)) (l.length - 1) (cap - 1) 1 ∧ A 17 = .int .i64 (l.length - 1 : Nat) ∧ A 18 = .int .i64 (i : Nat)) (l.length - 1) ⟨0, _, rfl, by omega, by omega, by simp +contextual only [vq, vc, ve, vv, vn, vl, ↓reduceIte, Nat.reduceEqDiff, Nat.reduceAdd, Nat.reduceMul, Nat.reduceSub, Nat.reduceLeDiff, Nat.reduceLT, Nat.reduceBEq, Nat.reduceBNe, reduceCtorEq, Int.reduceBEq, Int.reduceBNe, Int.reduceLT, Int.reduceLE, Int.reduceEq, Int.reduceToNat, Int.reduceAdd, Int.reduceSub, Int.reduceNeg], by simp +contextual only [vq, vc, ve, vv, vn, vl, ↓reduceIte, Nat.reduceEqDiff, Nat.reduceAdd, Nat.reduceMul, Nat.reduceSub, Nat.reduceLeDiff, Nat.reduceLT, Nat.reduceBEq, Nat.reduceBNe, reduceCtorEq, Int.reduceBEq, Int.reduceBNe, Int.reduceLT, Int.reduceLE, Int.reduceEq, Int.reduceToNat, Int.reduceAdd, Int.reduceSub, Int.reduceNeg], by simp +contextual only [vq, vc, ve, vv, vn, vl, ↓reduceIte, Nat.reduceEqDiff, Nat.reduceAdd, Nat.reduceMul, Nat.reduceSub, Nat.reduceLeDiff, Nat.reduceLT, Nat.reduceBEq, Nat.reduceBNe, reduceCtorEq, Int.reduceBEq, Int.reduceBNe, Int.reduceLT, Int.reduceLE, Int.reduceEq, Int.reduceToNat, Int.reduceAdd, Int.reduceSub, Int.reduceNeg], by simp +contextual only [vq, vc, ve, vv, vn, vl, ↓reduceIte, Nat.reduceEqDiff, Nat.reduceAdd, Nat.reduceMul, Nat.reduceSub, Nat.reduceLeDiff, Nat.reduceLT, Nat.reduceBEq, Nat.reduceBNe, reduceCtorEq, Int.reduceBEq, Int.reduceBNe, Int.reduceLT, Int.reduceLE, Int.reduceEq, Int.reduceToNat, Int.reduceAdd, Int.reduceSub, Int.reduceNeg], by simp +contextual only [vq, vc, ve, vv, vn, vl, ↓reduceIte, Nat.reduceEqDiff, Nat.reduceAdd, Nat.reduceMul, Nat.reduceSub, Nat.reduceLeDiff, Nat.reduceLT, Nat.reduceBEq, Nat.reduceBNe, reduceCtorEq, Int.reduceBEq, Int.reduceBNe, Int.reduceLT, Int.reduceLE, Int.reduceEq, Int.reduceToNat, Int.reduceAdd, Int.reduceSub, Int.reduceNeg]; rfl⟩ fun J hJ n st hI => ?_
  obtain ⟨i, A, rfl, rfl, hi, A0, A4, A16, A17, A18⟩ := hI
  have hms := madeK_small h4 i
  simp +contextual only [vq, vc, ve, vv, vn, vl, ↓reduceIte, Nat.reduceEqDiff, Nat.reduceAdd, Nat.reduceMul, Nat.reduceSub, Nat.reduceLeDiff, Nat.reduceLT, Nat.reduceBEq, Nat.reduceBNe, reduceCtorEq, Int.reduceBEq, Int.reduceBNe, Int.reduceLT, Int.reduceLE, Int.reduceEq, Int.reduceToNat, Int.reduceAdd, Int.reduceSub, Int.reduceNeg, A17, A18]
  refine br2_dec (fun hlt => ?_) (fun hge => ?_)
  · have d1 := at_ (i + 1) (by omega)
    have hc := (l[i + 1]'(by omega)).toNat_lt
    have q1 : IntKind.i64.wrap (64 * madeK l i) = 64 * madeK l i := wi (by omega)
    have q2 : IntKind.i64.wrap (((l[i + 1]'(by omega)).toNat : Int)) = ((l[i + 1]'(by omega)).toNat : Int) := wi (by omega)
    have q3 : IntKind.i64.wrap (64 * madeK l i + ((l[i + 1]'(by omega)).toNat : Int)) = 64 * madeK l i + ((l[i + 1]'(by omega)).toNat : Int) := wi (by omega)
    have q4 : IntKind.i64.wrap (64 * madeK l i + ((l[i + 1]'(by omega)).toNat : Int) - 128) = madeK l (i + 1) := by
      rw [madeK_next (by omega)]
      exact wi (by omega)
    have pl : 1 + i = i + 1 := by omega
    simp +contextual only [vq, vc, ve, vv, vn, vl, ↓reduceIte, Nat.reduceEqDiff, Nat.reduceAdd, Nat.reduceMul, Nat.reduceSub, Nat.reduceLeDiff, Nat.reduceLT, Nat.reduceBEq, Nat.reduceBNe, reduceCtorEq, Int.reduceBEq, Int.reduceBNe, Int.reduceLT, Int.reduceLE, Int.reduceEq, Int.reduceToNat, Int.reduceAdd, Int.reduceSub, Int.reduceNeg, A4, A16, A18, hlt, pl, d1, q1, q2, q3, q4, wsucc hlt (by omega)]
    exact again2 hJ (l.length - 1 - (i + 1)) (by omega) ⟨i + 1, _, rfl, rfl, by omega, by simp +contextual only [vq, vc, ve, vv, vn, vl, ↓reduceIte, Nat.reduceEqDiff, Nat.reduceAdd, Nat.reduceMul, Nat.reduceSub, Nat.reduceLeDiff, Nat.reduceLT, Nat.reduceBEq, Nat.reduceBNe, reduceCtorEq, Int.reduceBEq, Int.reduceBNe, Int.reduceLT, Int.reduceLE, Int.reduceEq, Int.reduceToNat, Int.reduceAdd, Int.reduceSub, Int.reduceNeg, A0], by simp +contextual only [vq, vc, ve, vv, vn, vl, ↓reduceIte, Nat.reduceEqDiff, Nat.reduceAdd, Nat.reduceMul, Nat.reduceSub, Nat.reduceLeDiff, Nat.reduceLT, Nat.reduceBEq, Nat.reduceBNe, reduceCtorEq, Int.reduceBEq, Int.reduceBNe, Int.reduceLT, Int.reduceLE, Int.reduceEq, Int.reduceToNat, Int.reduceAdd, Int.reduceSub, Int.reduceNeg], by simp +contextual only [vq, vc, ve, vv, vn, vl, ↓reduceIte, Nat.reduceEqDiff, Nat.reduceAdd, Nat.reduceMul, Nat.reduceSub, Nat.reduceLeDiff, Nat.reduceLT, Nat.reduceBEq, Nat.reduceBNe, reduceCtorEq, Int.reduceBEq, Int.reduceBNe, Int.reduceLT, Int.reduceLE, Int.reduceEq, Int.reduceToNat, Int.reduceAdd, Int.reduceSub, Int.reduceNeg, A16], by simp +contextual only [vq, vc, ve, vv, vn, vl, ↓reduceIte, Nat.reduceEqDiff, Nat.reduceAdd, Nat.reduceMul, Nat.reduceSub, Nat.reduceLeDiff, Nat.reduceLT, Nat.reduceBEq, Nat.reduceBNe, reduceCtorEq, Int.reduceBEq, Int.reduceBNe, Int.reduceLT, Int.reduceLE, Int.reduceEq, Int.reduceToNat, Int.reduceAdd, Int.reduceSub, Int.reduceNeg, A17], by simp +contextual only [vq, vc, ve, vv, vn, vl, ↓reduceIte, Nat.reduceEqDiff, Nat.reduceAdd, Nat.reduceMul, Nat.reduceSub, Nat.reduceLeDiff, Nat.reduceLT, Nat.reduceBEq, Nat.reduceBNe, reduceCtorEq, Int.reduceBEq, Int.reduceBNe, Int.reduceLT, Int.reduceLE, Int.reduceEq, Int.reduceToNat, Int.reduceAdd, Int.reduceSub, Int.reduceNeg]⟩
  · have hie : i = l.length - 1 := by omega
    subst hie
    rw [madeK_end] at A4 hms
    cases hR : isR (madeX l) with
    | true =>
      obtain ⟨⟨r0, r1⟩, _⟩ := (isR_iff _).1 hR
      obtain ⟨N2, hcw, g2, l2, R2⟩ := c_r05_Write ⟨M.bl, M.bl.length⟩ (madeX l) r0 r1
      have lw : (bytesE (wr (madeX l))).length = (wr (madeX l)).length := by simp [bytesE]
      have k1 : N2.getN G ⟨.mem M.bl.length 0, 0⟩ (wr (madeX l)).length = some (bytesE (wr (madeX l))) := getN_row R2 (sub_all lw)
      have k2 : N2.getN G a l.length = some (bytesE l) := getN_grown (m := ⟨M.bl, M.bl.length⟩) g2 hgM
      have hm : madeOk l = (wr (madeX l) == l) := by simp [madeOk, hR]
      have l2' : M.bl.length ≤ N2.low := by
        have := l2
        simp only [Nat.min_self] at this
        exact this
      simp +contextual only [vq, vc, ve, vv, vn, vl, ↓reduceIte, Nat.reduceEqDiff, Nat.reduceAdd, Nat.reduceMul, Nat.reduceSub, Nat.reduceLeDiff, Nat.reduceLT, Nat.reduceBEq, Nat.reduceBNe, reduceCtorEq, Int.reduceBEq, Int.reduceBNe, Int.reduceLT, Int.reduceLE, Int.reduceEq, Int.reduceToNat, Int.reduceAdd, Int.reduceSub, Int.reduceNeg, A4, A0, callR_val (c_r05_Is _ _), hR, w32 r0 r1, callR_val hcw, k1, k2, oM]
      rw [cutD_new l2']
      simp +contextual only [vq, vc, ve, vv, vn, vl, ↓reduceIte, Nat.reduceEqDiff, Nat.reduceAdd, Nat.reduceMul, Nat.reduceSub, Nat.reduceLeDiff, Nat.reduceLT, Nat.reduceBEq, Nat.reduceBNe, reduceCtorEq, Int.reduceBEq, Int.reduceBNe, Int.reduceLT, Int.reduceLE, Int.reduceEq, Int.reduceToNat, Int.reduceAdd, Int.reduceSub, Int.reduceNeg]
      rw [endD_new l2']
      simp +contextual only [vq, vc, ve, vv, vn, vl, ↓reduceIte, Nat.reduceEqDiff, Nat.reduceAdd, Nat.reduceMul, Nat.reduceSub, Nat.reduceLeDiff, Nat.reduceLT, Nat.reduceBEq, Nat.reduceBNe, reduceCtorEq, Int.reduceBEq, Int.reduceBNe, Int.reduceLT, Int.reduceLE, Int.reduceEq, Int.reduceToNat, Int.reduceAdd, Int.reduceSub, Int.reduceNeg, hm, hl0]
    | false =>
      have hm : madeOk l = false := by simp [madeOk, hR]
      simp +contextual only [vq, vc, ve, vv, vn, vl, ↓reduceIte, Nat.reduceEqDiff, Nat.reduceAdd, Nat.reduceMul, Nat.reduceSub, Nat.reduceLeDiff, Nat.reduceLT, Nat.reduceBEq, Nat.reduceBNe, reduceCtorEq, Int.reduceBEq, Int.reduceBNe, Int.reduceLT, Int.reduceLE, Int.reduceEq, Int.reduceToNat, Int.reduceAdd, Int.reduceSub, Int.reduceNeg, A4, A0, callR_val (c_r05_Is _ _), hR, hm, hl0]
theorem wf_le : ∀ l : List UInt8, wf l ≤ 4 ∧ wf l ≤ l.length := by
  intro l
  unfold wf
  split
  · simp
  · rename_i b r
    repeat' split
    all_goals simp
    all_goals omega

/-- How many bytes the rune at a place has. -/
theorem c_r05_One (m : Mem) (s : List UInt8) (a : Ad) (cap k : Nat) (hk : k ≤ s.length) (hN : s.length ≤ 1000000000000) (hcap : s.length ≤ cap) (hg0 : m.getN G a s.length = some (bytesE s)) (ho : oldAd m.bl.length a = true) :
    ∃ x : Int, Go.Ev.Comes T G f_r05_One [.slice (some a) s.length cap 1, .int .i64 k] m none ⟨.val (.tuple [.int .i32 x, .int .i64 (wf (s.drop k) : Nat)]), m, none⟩ := by
  suffices H : ∃ r, Go.Ev.Comes T G f_r05_One [.slice (some a) s.length cap 1, .int .i64 k] m none r ∧ ∃ x : Int, r = ⟨.val (.tuple [.int .i32 x, .int .i64 (wf (s.drop k) : Nat)]), m, none⟩ by
    obtain ⟨_, hc, x, rfl⟩ := H
    exact ⟨x, hc⟩
  refine comes2P T_r05_One rfl fun M hg hlen hlow => ?_
  have hgM := getN_grown hg hg0
  have oM := oldAd_le ho hg.le
  have hwf := wf_le (s.drop k)
  have hl0 : m.bl.length ≤ M.low := by omega
  rw [List.length_drop] at hwf
  simp only [F_r05_One]
  simp +contextual only [vq, vc, ve, vv, vn, vl, ↓reduceIte, Nat.reduceEqDiff, Nat.reduceAdd, Nat.reduceMul, Nat.reduceSub, Nat.reduceLeDiff, Nat.reduceLT, Nat.reduceBEq, Nat.reduceBNe, reduceCtorEq, Int.reduceBEq, Int.reduceBNe, Int.reduceLT, Int.reduceLE, Int.reduceEq, Int.reduceToNat, Int.reduceAdd, Int.reduceSub, Int.reduceNeg]
  refine loop2 (fun q st => ∃ n A, st = ⟨A, M, [], none⟩ ∧ q = 5 - n ∧ 1 ≤ n ∧ n ≤ 5 ∧ A 0 = .slice (some a) s.length cap 1 ∧ A 1 = .int .i64 k ∧ A 6 = .int .i64 (n : Nat) ∧ (∀ j, 1 ≤ j → j < n → wf (s.drop k) ≠ j)) 4 ⟨1, _, rfl, rfl, by omega, by omega, by simp +contextual only [vq, vc, ve, vv, vn, vl, ↓reduceIte, Nat.reduceEqDiff, Nat.reduceAdd, Nat.reduceMul, Nat.reduceSub, Nat.reduceLeDiff, Nat.reduceLT, Nat.reduceBEq, Nat.reduceBNe, reduceCtorEq, Int.reduceBEq, Int.reduceBNe, Int.reduceLT, Int.reduceLE, Int.reduceEq, Int.reduceToNat, Int.reduceAdd, Int.reduceSub, Int.reduceNeg], by simp +contextual only [vq, vc, ve, vv, vn, vl, ↓reduceIte, Nat.reduceEqDiff, Nat.reduceAdd, Nat.reduceMul, Nat.reduceSub, Nat.reduceLeDiff, Nat.reduceLT, Nat.reduceBEq, Nat.reduceBNe, reduceCtorEq, Int.reduceBEq, Int.reduceBNe, Int.reduceLT, Int.reduceLE, Int.reduceEq, Int.reduceToNat, Int.reduceAdd, Int.reduceSub, Int.reduceNeg], by simp +contextual only [vq, vc, ve, vv, vn, vl, ↓reduceIte, Nat.reduceEqDiff, Nat.reduceAdd, Nat.reduceMul, Nat.reduceSub, Nat.reduceLeDiff, Nat.reduceLT, Nat.reduceBEq, Nat.reduceBNe, reduceCtorEq, Int.reduceBEq, Int.reduceBNe, Int.reduceLT, Int.reduceLE, Int.reduceEq, Int.reduceToNat, Int.reduceAdd, Int.reduceSub, Int.reduceNeg]; rfl, fun j h1 h2 => by omega⟩ fun J hJ q st hI => ?_
  obtain ⟨n, A, rfl, rfl, hn1, hn5, A0, A1, A6, hno⟩ := hI
  have hw : IntKind.i64.wrap ((k : Int) + (n : Int)) = ((k + n : Nat) : Int) := wrap_of (by omega) (by omega)
  have e4 : ((n : Int) ≤ 4) = (n ≤ 4) := propext ⟨fun h => by omega, fun h => by omega⟩
  by_cases hin : n ≤ 4 ∧ k + n ≤ s.length
  · obtain ⟨hn4, hkn⟩ := hin
    have hll : ((s.drop k).take n).length = n := by simp; omega
    have hgl : M.getN G (a.plus k) ((s.drop k).take n).length = some (bytesE ((s.drop k).take n)) := by
      have := getN_part (a := a) (off := 0) (k := k) (j := n) (ds := bytesE ((s.drop k).take n)) (by rw [Ad.plus_zero]; exact hgM) (by omega) ⟨by simp [bytesE]; omega, by simp [bytesE, List.map_take, List.map_drop]⟩
      rw [Nat.zero_add] at this
      rw [hll]
      exact this
    have hc := c_r05_made M ((s.drop k).take n) (a.plus k) (cap - k) (by omega) (by omega) (by omega) hgl oM
    rw [hll, made_wf (s.drop k) n hn1 hn4 (by rw [List.length_drop]; omega)] at hc
    have j2 : k + n ≤ cap := by omega
    have j3 : k + n - k = n := by omega
    have j4 : k ≤ k + n := by omega
    simp +contextual only [vq, vc, ve, vv, vn, vl, ↓reduceIte, Nat.reduceEqDiff, Nat.reduceAdd, Nat.reduceMul, Nat.reduceSub, Nat.reduceLeDiff, Nat.reduceLT, Nat.reduceBEq, Nat.reduceBNe, reduceCtorEq, Int.reduceBEq, Int.reduceBNe, Int.reduceLT, Int.reduceLE, Int.reduceEq, Int.reduceToNat, Int.reduceAdd, Int.reduceSub, Int.reduceNeg, A0, A1, A6, hw, e4, hn4, hkn, j2, j3, j4, callR_val hc]
    refine br2_dec (fun hy => ?_) (fun hno' => ?_)
    · simp +contextual only [vq, vc, ve, vv, vn, vl, ↓reduceIte, Nat.reduceEqDiff, Nat.reduceAdd, Nat.reduceMul, Nat.reduceSub, Nat.reduceLeDiff, Nat.reduceLT, Nat.reduceBEq, Nat.reduceBNe, reduceCtorEq, Int.reduceBEq, Int.reduceBNe, Int.reduceLT, Int.reduceLE, Int.reduceEq, Int.reduceToNat, Int.reduceAdd, Int.reduceSub, Int.reduceNeg, A6]
      exact postX_same (v := .tuple [.int .i32 (IntKind.i32.wrap (madeX ((s.drop k).take n))), .int .i64 (n : Nat)]) (by simp +contextual only [vq, vc, ve, vv, vn, vl, ↓reduceIte, Nat.reduceEqDiff, Nat.reduceAdd, Nat.reduceMul, Nat.reduceSub, Nat.reduceLeDiff, Nat.reduceLT, Nat.reduceBEq, Nat.reduceBNe, reduceCtorEq, Int.reduceBEq, Int.reduceBNe, Int.reduceLT, Int.reduceLE, Int.reduceEq, Int.reduceToNat, Int.reduceAdd, Int.reduceSub, Int.reduceNeg]) hl0 rfl ⟨_, by rw [hy]⟩
    · simp +contextual only [vq, vc, ve, vv, vn, vl, ↓reduceIte, Nat.reduceEqDiff, Nat.reduceAdd, Nat.reduceMul, Nat.reduceSub, Nat.reduceLeDiff, Nat.reduceLT, Nat.reduceBEq, Nat.reduceBNe, reduceCtorEq, Int.reduceBEq, Int.reduceBNe, Int.reduceLT, Int.reduceLE, Int.reduceEq, Int.reduceToNat, Int.reduceAdd, Int.reduceSub, Int.reduceNeg, A6, wsucc (n := 5) (show n < 5 by omega) (by omega)]
      exact again2 hJ (5 - (n + 1)) (by omega) ⟨n + 1, _, rfl, rfl, by omega, by omega, by simp +contextual only [vq, vc, ve, vv, vn, vl, ↓reduceIte, Nat.reduceEqDiff, Nat.reduceAdd, Nat.reduceMul, Nat.reduceSub, Nat.reduceLeDiff, Nat.reduceLT, Nat.reduceBEq, Nat.reduceBNe, reduceCtorEq, Int.reduceBEq, Int.reduceBNe, Int.reduceLT, Int.reduceLE, Int.reduceEq, Int.reduceToNat, Int.reduceAdd, Int.reduceSub, Int.reduceNeg, A0], by simp +contextual only [vq, vc, ve, vv, vn, vl, ↓reduceIte, Nat.reduceEqDiff, Nat.reduceAdd, Nat.reduceMul, Nat.reduceSub, Nat.reduceLeDiff, Nat.reduceLT, Nat.reduceBEq, Nat.reduceBNe, reduceCtorEq, Int.reduceBEq, Int.reduceBNe, Int.reduceLT, Int.reduceLE, Int.reduceEq, Int.reduceToNat, Int.reduceAdd, Int.reduceSub, Int.reduceNeg, A1], by simp +contextual only [vq, vc, ve, vv, vn, vl, ↓reduceIte, Nat.reduceEqDiff, Nat.reduceAdd, Nat.reduceMul, Nat.reduceSub, Nat.reduceLeDiff, Nat.reduceLT, Nat.reduceBEq, Nat.reduceBNe, reduceCtorEq, Int.reduceBEq, Int.reduceBNe, Int.reduceLT, Int.reduceLE, Int.reduceEq, Int.reduceToNat, Int.reduceAdd, Int.reduceSub, Int.reduceNeg], fun j h1 h2 => by
        by_cases hj : j = n
        · rw [hj]; exact hno'
        · exact hno j h1 (by omega)⟩
  · have h0 : wf (s.drop k) = 0 := by
      by_cases hz : wf (s.drop k) = 0
      · exact hz
      · have := hno (wf (s.drop k)) (by omega)
        omega
    have k1 : (decide (n ≤ 4) && decide (k + n ≤ s.length)) = false := by
      simp only [Bool.and_eq_false_iff, decide_eq_false_iff_not]
      omega
    simp +contextual only [vq, vc, ve, vv, vn, vl, ↓reduceIte, Nat.reduceEqDiff, Nat.reduceAdd, Nat.reduceMul, Nat.reduceSub, Nat.reduceLeDiff, Nat.reduceLT, Nat.reduceBEq, Nat.reduceBNe, reduceCtorEq, Int.reduceBEq, Int.reduceBNe, Int.reduceLT, Int.reduceLE, Int.reduceEq, Int.reduceToNat, Int.reduceAdd, Int.reduceSub, Int.reduceNeg, A0, A1, A6, hw, e4, k1]
    exact postX_same (v := .tuple [.int .i32 0, .int .i64 ((0 : Nat) : Int)]) (by simp +contextual only [vq, vc, ve, vv, vn, vl, ↓reduceIte, Nat.reduceEqDiff, Nat.reduceAdd, Nat.reduceMul, Nat.reduceSub, Nat.reduceLeDiff, Nat.reduceLT, Nat.reduceBEq, Nat.reduceBNe, reduceCtorEq, Int.reduceBEq, Int.reduceBNe, Int.reduceLT, Int.reduceLE, Int.reduceEq, Int.reduceToNat, Int.reduceAdd, Int.reduceSub, Int.reduceNeg]; rfl) hl0 rfl ⟨0, by rw [h0]⟩

theorem good_fuel {f g : Nat} {l : List UInt8} (hf : l.length ≤ f) (hg : l.length ≤ g) : good f l = good g l := by
  have h1 := pb_good f l 0 0 0 0 hf
  have h2 := pb_good g l 0 0 0 0 hg
  omega
theorem good_none {f : Nat} {l : List UInt8} (h : wf l = 0) : good f l = 0 := by
  cases f with
  | zero => rfl
  | succ f => simp only [good, h]
theorem good_next {f : Nat} {l : List UInt8} (h : wf l ≠ 0) : good (f + 1) l = wf l + good f (l.drop (wf l)) := by
  simp only [good]
  split
  · rename_i h0
    exact absurd h0 h
  · rename_i n hn
    rw [hn]
/-- Where the first wrong UTF-8 begins, by the reference. -/
theorem c_r05_Bad (m : Mem) (s : List UInt8) (a : Ad) (cap : Nat) (hN : s.length ≤ 1000000000000) (hcap : s.length ≤ cap) (hg0 : m.getN G a s.length = some (bytesE s)) (ho : oldAd m.bl.length a = true) :
    Go.Ev.Comes T G f_r05_Bad [.slice (some a) s.length cap 1] m none ⟨.val (.int .i64 (good s.length s : Nat)), m, none⟩ := by
  refine comes2 T_r05_Bad rfl fun M hg hlen hlow => ?_
  have hgM := getN_grown hg hg0
  have oM := oldAd_le ho hg.le
  have hl0 : m.bl.length ≤ M.low := by omega
  simp only [F_r05_Bad]
  simp +contextual only [vq, vc, ve, vv, vn, vl, ↓reduceIte, Nat.reduceEqDiff, Nat.reduceAdd, Nat.reduceMul, Nat.reduceSub, Nat.reduceLeDiff, Nat.reduceLT, Nat.reduceBEq, Nat.reduceBNe, reduceCtorEq, Int.reduceBEq, Int.reduceBNe, Int.reduceLT, Int.reduceLE, Int.reduceEq, Int.reduceToNat, Int.reduceAdd, Int.reduceSub, Int.reduceNeg]
  refine loop2 (fun q st => ∃ k A, st = ⟨A, M, [], none⟩ ∧ q = s.length - k ∧ k ≤ s.length ∧ A 0 = .slice (some a) s.length cap 1 ∧ A 3 = .int .i64 (k : Nat) ∧ k + good s.length (s.drop k) = good s.length s) s.length ⟨0, _, rfl, by omega, by omega, by simp +contextual only [vq, vc, ve, vv, vn, vl, ↓reduceIte, Nat.reduceEqDiff, Nat.reduceAdd, Nat.reduceMul, Nat.reduceSub, Nat.reduceLeDiff, Nat.reduceLT, Nat.reduceBEq, Nat.reduceBNe, reduceCtorEq, Int.reduceBEq, Int.reduceBNe, Int.reduceLT, Int.reduceLE, Int.reduceEq, Int.reduceToNat, Int.reduceAdd, Int.reduceSub, Int.reduceNeg], by simp +contextual only [vq, vc, ve, vv, vn, vl, ↓reduceIte, Nat.reduceEqDiff, Nat.reduceAdd, Nat.reduceMul, Nat.reduceSub, Nat.reduceLeDiff, Nat.reduceLT, Nat.reduceBEq, Nat.reduceBNe, reduceCtorEq, Int.reduceBEq, Int.reduceBNe, Int.reduceLT, Int.reduceLE, Int.reduceEq, Int.reduceToNat, Int.reduceAdd, Int.reduceSub, Int.reduceNeg]; rfl, by simp⟩ fun J hJ q st hI => ?_
  obtain ⟨k, A, rfl, rfl, hk, A0, A3, hR⟩ := hI
  have hwf := wf_le (s.drop k)
  rw [List.length_drop] at hwf
  obtain ⟨x, hc⟩ := c_r05_One M s a cap k hk hN hcap hgM oM
  simp +contextual only [vq, vc, ve, vv, vn, vl, ↓reduceIte, Nat.reduceEqDiff, Nat.reduceAdd, Nat.reduceMul, Nat.reduceSub, Nat.reduceLeDiff, Nat.reduceLT, Nat.reduceBEq, Nat.reduceBNe, reduceCtorEq, Int.reduceBEq, Int.reduceBNe, Int.reduceLT, Int.reduceLE, Int.reduceEq, Int.reduceToNat, Int.reduceAdd, Int.reduceSub, Int.reduceNeg, A0, A3, callR_val hc]
  refine br2_mk (fun h0 => ?_) (fun h0 => ?_)
  · have h0 : wf (s.drop k) = 0 := by simpa using h0
    rw [good_none h0, Nat.add_zero] at hR
    simp +contextual only [vq, vc, ve, vv, vn, vl, ↓reduceIte, Nat.reduceEqDiff, Nat.reduceAdd, Nat.reduceMul, Nat.reduceSub, Nat.reduceLeDiff, Nat.reduceLT, Nat.reduceBEq, Nat.reduceBNe, reduceCtorEq, Int.reduceBEq, Int.reduceBNe, Int.reduceLT, Int.reduceLE, Int.reduceEq, Int.reduceToNat, Int.reduceAdd, Int.reduceSub, Int.reduceNeg, A3, hl0, hR]
  · have h0 : wf (s.drop k) ≠ 0 := by simpa using h0
    simp +contextual only [vq, vc, ve, vv, vn, vl, ↓reduceIte, Nat.reduceEqDiff, Nat.reduceAdd, Nat.reduceMul, Nat.reduceSub, Nat.reduceLeDiff, Nat.reduceLT, Nat.reduceBEq, Nat.reduceBNe, reduceCtorEq, Int.reduceBEq, Int.reduceBNe, Int.reduceLT, Int.reduceLE, Int.reduceEq, Int.reduceToNat, Int.reduceAdd, Int.reduceSub, Int.reduceNeg, A3, wrap_of (show (k : Int) + (wf (s.drop k) : Int) = ((k + wf (s.drop k) : Nat) : Int) by omega) (by omega)]
    refine again2 hJ (s.length - (k + wf (s.drop k))) (by omega) ⟨k + wf (s.drop k), _, rfl, rfl, by omega, by simp +contextual only [vq, vc, ve, vv, vn, vl, ↓reduceIte, Nat.reduceEqDiff, Nat.reduceAdd, Nat.reduceMul, Nat.reduceSub, Nat.reduceLeDiff, Nat.reduceLT, Nat.reduceBEq, Nat.reduceBNe, reduceCtorEq, Int.reduceBEq, Int.reduceBNe, Int.reduceLT, Int.reduceLE, Int.reduceEq, Int.reduceToNat, Int.reduceAdd, Int.reduceSub, Int.reduceNeg, A0], by simp +contextual only [vq, vc, ve, vv, vn, vl, ↓reduceIte, Nat.reduceEqDiff, Nat.reduceAdd, Nat.reduceMul, Nat.reduceSub, Nat.reduceLeDiff, Nat.reduceLT, Nat.reduceBEq, Nat.reduceBNe, reduceCtorEq, Int.reduceBEq, Int.reduceBNe, Int.reduceLT, Int.reduceLE, Int.reduceEq, Int.reduceToNat, Int.reduceAdd, Int.reduceSub, Int.reduceNeg], ?_⟩
    rw [← hR]
    obtain ⟨f, hf⟩ : ∃ f, s.length = f + 1 := ⟨s.length - 1, by omega⟩
    have e1 : good s.length (s.drop k) = wf (s.drop k) + good f ((s.drop k).drop (wf (s.drop k))) := by rw [hf]; exact good_next h0
    rw [e1, List.drop_drop]
    have e2 : good s.length (s.drop (k + wf (s.drop k))) = good f (s.drop (k + wf (s.drop k))) := good_fuel (by rw [List.length_drop]; omega) (by rw [List.length_drop]; omega)
    omega
end Go.Proofs.YtmjoaiccbghijaaDoor.paramRcpts

namespace Go.Proofs.YtmjoaiccbghijaaDoor.paramRcpts
open Go.Ev hiding Comes
variable [GG]

theorem c_r10_again (m : Mem) (x : EV) (l : List Par) (n : Nat) (hx : Pars G m x l) (hn : n < l.length) (hl : l.length ≤ 1000000000) (hb : ∀ p ∈ l, p.name.length ≤ 1000000000) :
    Go.Ev.Comes T G f_r10_again [x, .int .i64 (n : Nat)] m none ⟨.val (.bool ((l.take n).any fun q => sameU q.name l[n].name)), m, none⟩ := by
  refine comes2 T_r10_again rfl fun M hg hlen hlow => ?_
  have hl0 : m.bl.length ≤ M.low := by omega
  have hx := hx.grown hg
  simp only [F_r10_again]
  simp +contextual only [vq, vc, ve, vv, vn, vl, ↓reduceIte, Nat.reduceEqDiff, Nat.reduceAdd, Nat.reduceMul, Nat.reduceSub, Nat.reduceLeDiff, Nat.reduceLT, Nat.reduceBEq, Nat.reduceBNe, reduceCtorEq, Int.reduceBEq, Int.reduceBNe, Int.reduceLT, Int.reduceLE, Int.reduceEq, Int.reduceToNat, Int.reduceAdd, Int.reduceSub, Int.reduceNeg]
  refine loop2 (fun q st => ∃ i A, st = ⟨A, M, [], none⟩ ∧ q = n - i ∧ i ≤ n ∧ A 0 = x ∧ A 1 = .int .i64 (n : Nat) ∧ A 5 = .int .i64 (i : Nat) ∧ ((l.take i).any fun q => sameU q.name l[n].name) = false) n ⟨0, _, rfl, by omega, by omega, by simp +contextual only [vq, vc, ve, vv, vn, vl, ↓reduceIte, Nat.reduceEqDiff, Nat.reduceAdd, Nat.reduceMul, Nat.reduceSub, Nat.reduceLeDiff, Nat.reduceLT, Nat.reduceBEq, Nat.reduceBNe, reduceCtorEq, Int.reduceBEq, Int.reduceBNe, Int.reduceLT, Int.reduceLE, Int.reduceEq, Int.reduceToNat, Int.reduceAdd, Int.reduceSub, Int.reduceNeg], by simp +contextual only [vq, vc, ve, vv, vn, vl, ↓reduceIte, Nat.reduceEqDiff, Nat.reduceAdd, Nat.reduceMul, Nat.reduceSub, Nat.reduceLeDiff, Nat.reduceLT, Nat.reduceBEq, Nat.reduceBNe, reduceCtorEq, Int.reduceBEq, Int.reduceBNe, Int.reduceLT, Int.reduceLE, Int.reduceEq, Int.reduceToNat, Int.reduceAdd, Int.reduceSub, Int.reduceNeg], by simp +contextual only [vq, vc, ve, vv, vn, vl, ↓reduceIte, Nat.reduceEqDiff, Nat.reduceAdd, Nat.reduceMul, Nat.reduceSub, Nat.reduceLeDiff, Nat.reduceLT, Nat.reduceBEq, Nat.reduceBNe, reduceCtorEq, Int.reduceBEq, Int.reduceBNe, Int.reduceLT, Int.reduceLE, Int.reduceEq, Int.reduceToNat, Int.reduceAdd, Int.reduceSub, Int.reduceNeg]; rfl, rfl⟩ fun J hJ q st hI => ?_
  obtain ⟨i, A, rfl, rfl, hi, A0, A1, A5, hno⟩ := hI
  by_cases hlt : i < n
  · have hil : i < l.length := by omega
    obtain ⟨a, c, e, hc, hget, ho⟩ := hx.at hil
    obtain ⟨a', c', e', hc', hget', ho'⟩ := hx.at hn
    rw [e] at e'
    cases e'
    have A0' := A0
    rw [e] at A0
    have h1 := (par_gets hget).1
    have h2 := (par_gets hget').1
    have hS := fun m => c_r01_Same m l[i].name l[n].name (hb _ (List.getElem_mem hil)) (hb _ (List.getElem_mem hn))
    have k1 : (i < l.length) = True := eq_true hil
    have k2 : (n < l.length) = True := eq_true hn
    simp +contextual only [vq, vc, ve, vv, vn, vl, ↓reduceIte, Nat.reduceEqDiff, Nat.reduceAdd, Nat.reduceMul, Nat.reduceSub, Nat.reduceLeDiff, Nat.reduceLT, Nat.reduceBEq, Nat.reduceBNe, reduceCtorEq, Int.reduceBEq, Int.reduceBNe, Int.reduceLT, Int.reduceLE, Int.reduceEq, Int.reduceToNat, Int.reduceAdd, Int.reduceSub, Int.reduceNeg, A0, A1, A5, hlt, k1, k2, h1, h2, ho, callR_val (hS _)]
    have ht : (l.take (i + 1)).any (fun q => sameU q.name l[n].name) = sameU l[i].name l[n].name := by
      rw [List.take_succ_eq_append_getElem hil, List.any_append, hno]
      simp
    refine br2_mk (fun hq => ?_) (fun hq => ?_)
    · have he : ((l.take n).any fun q => sameU q.name l[n].name) = true := by
        rw [List.any_eq_true]
        exact ⟨l[i], by rw [List.mem_take_iff_getElem]; exact ⟨i, by omega, rfl⟩, hq⟩
      simp +contextual only [vq, vc, ve, vv, vn, vl, ↓reduceIte, Nat.reduceEqDiff, Nat.reduceAdd, Nat.reduceMul, Nat.reduceSub, Nat.reduceLeDiff, Nat.reduceLT, Nat.reduceBEq, Nat.reduceBNe, reduceCtorEq, Int.reduceBEq, Int.reduceBNe, Int.reduceLT, Int.reduceLE, Int.reduceEq, Int.reduceToNat, Int.reduceAdd, Int.reduceSub, Int.reduceNeg, he, hl0]
    · simp +contextual only [vq, vc, ve, vv, vn, vl, ↓reduceIte, Nat.reduceEqDiff, Nat.reduceAdd, Nat.reduceMul, Nat.reduceSub, Nat.reduceLeDiff, Nat.reduceLT, Nat.reduceBEq, Nat.reduceBNe, reduceCtorEq, Int.reduceBEq, Int.reduceBNe, Int.reduceLT, Int.reduceLE, Int.reduceEq, Int.reduceToNat, Int.reduceAdd, Int.reduceSub, Int.reduceNeg, A5, wsucc hlt (by omega)]
      exact again2 hJ (n - (i + 1)) (by omega) ⟨i + 1, _, rfl, rfl, by omega, by simp +contextual only [vq, vc, ve, vv, vn, vl, ↓reduceIte, Nat.reduceEqDiff, Nat.reduceAdd, Nat.reduceMul, Nat.reduceSub, Nat.reduceLeDiff, Nat.reduceLT, Nat.reduceBEq, Nat.reduceBNe, reduceCtorEq, Int.reduceBEq, Int.reduceBNe, Int.reduceLT, Int.reduceLE, Int.reduceEq, Int.reduceToNat, Int.reduceAdd, Int.reduceSub, Int.reduceNeg, A0'], by simp +contextual only [vq, vc, ve, vv, vn, vl, ↓reduceIte, Nat.reduceEqDiff, Nat.reduceAdd, Nat.reduceMul, Nat.reduceSub, Nat.reduceLeDiff, Nat.reduceLT, Nat.reduceBEq, Nat.reduceBNe, reduceCtorEq, Int.reduceBEq, Int.reduceBNe, Int.reduceLT, Int.reduceLE, Int.reduceEq, Int.reduceToNat, Int.reduceAdd, Int.reduceSub, Int.reduceNeg, A1], by simp +contextual only [vq, vc, ve, vv, vn, vl, ↓reduceIte, Nat.reduceEqDiff, Nat.reduceAdd, Nat.reduceMul, Nat.reduceSub, Nat.reduceLeDiff, Nat.reduceLT, Nat.reduceBEq, Nat.reduceBNe, reduceCtorEq, Int.reduceBEq, Int.reduceBNe, Int.reduceLT, Int.reduceLE, Int.reduceEq, Int.reduceToNat, Int.reduceAdd, Int.reduceSub, Int.reduceNeg], by rw [ht, hq]⟩
  · have he : i = n := by omega
    subst he
    simp +contextual only [vq, vc, ve, vv, vn, vl, ↓reduceIte, Nat.reduceEqDiff, Nat.reduceAdd, Nat.reduceMul, Nat.reduceSub, Nat.reduceLeDiff, Nat.reduceLT, Nat.reduceBEq, Nat.reduceBNe, reduceCtorEq, Int.reduceBEq, Int.reduceBNe, Int.reduceLT, Int.reduceLE, Int.reduceEq, Int.reduceToNat, Int.reduceAdd, Int.reduceSub, Int.reduceNeg, A1, A5, hno, hl0]
theorem c_r10_Shown (m : Mem) (s : List UInt8) (hs : s.length ≤ 1000000000) : Go.Ev.Comes T G f_r10_Shown [.str s] m none ⟨.val (.bool (shownS s)), m, none⟩ := by
  refine comes2 T_r10_Shown rfl fun M hg hlen hlow => ?_
  have hl : m.bl.length ≤ M.low := by omega
  simp only [F_r10_Shown]
  simp +contextual only [vq, vc, ve, vv, vn, vl, ↓reduceIte, Nat.reduceEqDiff, Nat.reduceAdd, Nat.reduceMul, Nat.reduceSub, Nat.reduceLeDiff, Nat.reduceLT, Nat.reduceBEq, Nat.reduceBNe, reduceCtorEq, Int.reduceBEq, Int.reduceBNe, Int.reduceLT, Int.reduceLE, Int.reduceEq, Int.reduceToNat, Int.reduceAdd, Int.reduceSub, Int.reduceNeg]
  refine loop2 (fun n st => ∃ i A, st = ⟨A, M, [], none⟩ ∧ n = s.length - i ∧ i ≤ s.length ∧ A 0 = .str s ∧ A 3 = .int .i64 (i : Nat) ∧ ∀ x ∈ s.take i, (decide (32 ≤ x.toNat) && decide (x.toNat ≤ 126)) = true) s.length ⟨0, _, rfl, by omega, by omega, by simp +contextual only [vq, vc, ve, vv, vn, vl, ↓reduceIte, Nat.reduceEqDiff, Nat.reduceAdd, Nat.reduceMul, Nat.reduceSub, Nat.reduceLeDiff, Nat.reduceLT, Nat.reduceBEq, Nat.reduceBNe, reduceCtorEq, Int.reduceBEq, Int.reduceBNe, Int.reduceLT, Int.reduceLE, Int.reduceEq, Int.reduceToNat, Int.reduceAdd, Int.reduceSub, Int.reduceNeg], by simp +contextual only [vq, vc, ve, vv, vn, vl, ↓reduceIte, Nat.reduceEqDiff, Nat.reduceAdd, Nat.reduceMul, Nat.reduceSub, Nat.reduceLeDiff, Nat.reduceLT, Nat.reduceBEq, Nat.reduceBNe, reduceCtorEq, Int.reduceBEq, Int.reduceBNe, Int.reduceLT, Int.reduceLE, Int.reduceEq, Int.reduceToNat, Int.reduceAdd, Int.reduceSub, Int.reduceNeg]; rfl, by simp⟩ fun J hJ n st hI => ?_
  obtain ⟨i, A, rfl, rfl, hi, A0, A3, hall⟩ := hI
  by_cases hlt : i < s.length
  · have bad : (decide (32 ≤ (s[i]).toNat) && decide ((s[i]).toNat ≤ 126)) = false → shownS s = false := fun h => by
      unfold shownS
      rw [Bool.and_eq_false_iff]
      right
      rw [List.all_eq_false]
      exact ⟨s[i], List.getElem_mem hlt, by rw [h]; simp⟩
    by_cases h1 : (s[i].toNat : Int) < 32
    · have e := bad (by rw [decide_eq_false (by omega), Bool.false_and])
      simp +contextual only [vq, vc, ve, vv, vn, vl, ↓reduceIte, Nat.reduceEqDiff, Nat.reduceAdd, Nat.reduceMul, Nat.reduceSub, Nat.reduceLeDiff, Nat.reduceLT, Nat.reduceBEq, Nat.reduceBNe, reduceCtorEq, Int.reduceBEq, Int.reduceBNe, Int.reduceLT, Int.reduceLE, Int.reduceEq, Int.reduceToNat, Int.reduceAdd, Int.reduceSub, Int.reduceNeg, A0, A3, hlt, get_byte hlt, h1, e, hl]
    · by_cases h2 : 126 < (s[i].toNat : Int)
      · have e := bad (by rw [decide_eq_false (p := s[i].toNat ≤ 126) (by omega), Bool.and_false])
        simp +contextual only [vq, vc, ve, vv, vn, vl, ↓reduceIte, Nat.reduceEqDiff, Nat.reduceAdd, Nat.reduceMul, Nat.reduceSub, Nat.reduceLeDiff, Nat.reduceLT, Nat.reduceBEq, Nat.reduceBNe, reduceCtorEq, Int.reduceBEq, Int.reduceBNe, Int.reduceLT, Int.reduceLE, Int.reduceEq, Int.reduceToNat, Int.reduceAdd, Int.reduceSub, Int.reduceNeg, A0, A3, hlt, get_byte hlt, h1, h2, e, hl]
      · simp +contextual only [vq, vc, ve, vv, vn, vl, ↓reduceIte, Nat.reduceEqDiff, Nat.reduceAdd, Nat.reduceMul, Nat.reduceSub, Nat.reduceLeDiff, Nat.reduceLT, Nat.reduceBEq, Nat.reduceBNe, reduceCtorEq, Int.reduceBEq, Int.reduceBNe, Int.reduceLT, Int.reduceLE, Int.reduceEq, Int.reduceToNat, Int.reduceAdd, Int.reduceSub, Int.reduceNeg, A0, A3, hlt, get_byte hlt, h1, h2, wsucc hlt (by omega)]
        exact again2 hJ (s.length - (i + 1)) (by omega) ⟨i + 1, _, rfl, rfl, by omega, by simp +contextual only [vq, vc, ve, vv, vn, vl, ↓reduceIte, Nat.reduceEqDiff, Nat.reduceAdd, Nat.reduceMul, Nat.reduceSub, Nat.reduceLeDiff, Nat.reduceLT, Nat.reduceBEq, Nat.reduceBNe, reduceCtorEq, Int.reduceBEq, Int.reduceBNe, Int.reduceLT, Int.reduceLE, Int.reduceEq, Int.reduceToNat, Int.reduceAdd, Int.reduceSub, Int.reduceNeg, A0], by simp +contextual only [vq, vc, ve, vv, vn, vl, ↓reduceIte, Nat.reduceEqDiff, Nat.reduceAdd, Nat.reduceMul, Nat.reduceSub, Nat.reduceLeDiff, Nat.reduceLT, Nat.reduceBEq, Nat.reduceBNe, reduceCtorEq, Int.reduceBEq, Int.reduceBNe, Int.reduceLT, Int.reduceLE, Int.reduceEq, Int.reduceToNat, Int.reduceAdd, Int.reduceSub, Int.reduceNeg], take_next (p := fun x => decide (32 ≤ x.toNat) && decide (x.toNat ≤ 126)) hlt hall (by rw [decide_eq_true (by omega), decide_eq_true (by omega)]; rfl)⟩
  · have he : i = s.length := by omega
    subst he
    rw [List.take_length] at hall
    have e : shownS s = (s != []) := by
      unfold shownS
      rw [List.all_eq_true.2 hall, Bool.and_true]
    have e2 : (s != []) = !(s == []) := rfl
    simp +contextual only [vq, vc, ve, vv, vn, vl, ↓reduceIte, Nat.reduceEqDiff, Nat.reduceAdd, Nat.reduceMul, Nat.reduceSub, Nat.reduceLeDiff, Nat.reduceLT, Nat.reduceBEq, Nat.reduceBNe, reduceCtorEq, Int.reduceBEq, Int.reduceBNe, Int.reduceLT, Int.reduceLE, Int.reduceEq, Int.reduceToNat, Int.reduceAdd, Int.reduceSub, Int.reduceNeg, A0, A3, e, e2, hl]
theorem c_r10_shown (m : Mem) (s : List UInt8) (hs : s.length ≤ 100000000) : Go.Ev.Comes T G f_r10_shown [.str s] m none ⟨.val (.tuple [.str (unxS s).1, .bool ((unxS s).2.1 == 0 && shownS (unxS s).1)]), m, none⟩ := by
  refine comes2 T_r10_shown rfl fun M hg hlen hlow => ?_
  have hl : m.bl.length ≤ M.low := by omega
  have hX := c_r10_Unxtext M s hs
  have hxl := unxS_len s
  generalize unxS s = u at hX hxl
  obtain ⟨uo, ue, ua⟩ := u
  simp only [unxE] at hX hxl
  simp only [F_r10_shown]
  simp +contextual only [vq, vc, ve, vv, vn, vl, ↓reduceIte, Nat.reduceEqDiff, Nat.reduceAdd, Nat.reduceMul, Nat.reduceSub, Nat.reduceLeDiff, Nat.reduceLT, Nat.reduceBEq, Nat.reduceBNe, reduceCtorEq, Int.reduceBEq, Int.reduceBNe, Int.reduceLT, Int.reduceLE, Int.reduceEq, Int.reduceToNat, Int.reduceAdd, Int.reduceSub, Int.reduceNeg, callR_val hX]
  refine new_mk fun N3 n3 => ?_
  obtain ⟨N4, p4, g4, r4, l4, w4⟩ := put_new n3 (cs := [.int .i64 ue, .int .i64 ua]) rfl
  have hl4 : m.bl.length ≤ N4.low := by have := hg.le; omega
  have hS := c_r10_Shown N4 uo (by omega)
  cases hz : (ue == 0) with
  | true => simp +contextual only [vq, vc, ve, vv, vn, vl, ↓reduceIte, Nat.reduceEqDiff, Nat.reduceAdd, Nat.reduceMul, Nat.reduceSub, Nat.reduceLeDiff, Nat.reduceLT, Nat.reduceBEq, Nat.reduceBNe, reduceCtorEq, Int.reduceBEq, Int.reduceBNe, Int.reduceLT, Int.reduceLE, Int.reduceEq, Int.reduceToNat, Int.reduceAdd, Int.reduceSub, Int.reduceNeg, p4, r4.get (G := G), hz, callR_val hS, hl4]
  | false => simp +contextual only [vq, vc, ve, vv, vn, vl, ↓reduceIte, Nat.reduceEqDiff, Nat.reduceAdd, Nat.reduceMul, Nat.reduceSub, Nat.reduceLeDiff, Nat.reduceLT, Nat.reduceBEq, Nat.reduceBNe, reduceCtorEq, Int.reduceBEq, Int.reduceBNe, Int.reduceLT, Int.reduceLE, Int.reduceEq, Int.reduceToNat, Int.reduceAdd, Int.reduceSub, Int.reduceNeg, p4, r4.get (G := G), hz, callR_val hS, hl4]
theorem wideB_refI (b : UInt8) : (decide ((b.toNat : Int) < 128) && (!isF 9 b.toNat || ((b.toNat : Int) == 92))) = !wideB b := by
  have h : ∀ n : Fin 256, (decide (((UInt8.ofNat n.val).toNat : Int) < 128) && (!isF 9 (UInt8.ofNat n.val).toNat || (((UInt8.ofNat n.val).toNat : Int) == 92))) = !wideB (UInt8.ofNat n.val) := by decide +kernel
  have := h ⟨b.toNat, b.toNat_lt⟩
  simp only [UInt8.ofNat_toNat] at this
  exact this
theorem c_r10_unitext (m : Mem) (s : List UInt8) (hs : s.length ≤ 1000000000) : Go.Ev.Comes T G f_r10_unitext [.str s] m none ⟨.val (.bool (wideS s)), m, none⟩ := by
  refine comes2 T_r10_unitext rfl fun M hg hlen hlow => ?_
  have hl : m.bl.length ≤ M.low := by omega
  have c9 := fun m b => c_r01_Is m 9 b (by omega)
  simp only [F_r10_unitext]
  simp +contextual only [vq, vc, ve, vv, vn, vl, ↓reduceIte, Nat.reduceEqDiff, Nat.reduceAdd, Nat.reduceMul, Nat.reduceSub, Nat.reduceLeDiff, Nat.reduceLT, Nat.reduceBEq, Nat.reduceBNe, reduceCtorEq, Int.reduceBEq, Int.reduceBNe, Int.reduceLT, Int.reduceLE, Int.reduceEq, Int.reduceToNat, Int.reduceAdd, Int.reduceSub, Int.reduceNeg]
  refine loop2 (fun n st => ∃ i A, st = ⟨A, M, [], none⟩ ∧ n = s.length - i ∧ i ≤ s.length ∧ A 0 = .str s ∧ A 3 = .int .i64 (i : Nat) ∧ ∀ x ∈ s.take i, wideB x = true) s.length ⟨0, _, rfl, by omega, by omega, by simp +contextual only [vq, vc, ve, vv, vn, vl, ↓reduceIte, Nat.reduceEqDiff, Nat.reduceAdd, Nat.reduceMul, Nat.reduceSub, Nat.reduceLeDiff, Nat.reduceLT, Nat.reduceBEq, Nat.reduceBNe, reduceCtorEq, Int.reduceBEq, Int.reduceBNe, Int.reduceLT, Int.reduceLE, Int.reduceEq, Int.reduceToNat, Int.reduceAdd, Int.reduceSub, Int.reduceNeg], by simp +contextual only [vq, vc, ve, vv, vn, vl, ↓reduceIte, Nat.reduceEqDiff, Nat.reduceAdd, Nat.reduceMul, Nat.reduceSub, Nat.reduceLeDiff, Nat.reduceLT, Nat.reduceBEq, Nat.reduceBNe, reduceCtorEq, Int.reduceBEq, Int.reduceBNe, Int.reduceLT, Int.reduceLE, Int.reduceEq, Int.reduceToNat, Int.reduceAdd, Int.reduceSub, Int.reduceNeg]; rfl, by simp⟩ fun J hJ n st hI => ?_
  obtain ⟨i, A, rfl, rfl, hi, A0, A3, hall⟩ := hI
  by_cases hlt : i < s.length
  · have hw := wideB_refI s[i]
    have bad : wideB s[i] = false → wideS s = false := fun h => by
      unfold wideS
      rw [Bool.and_eq_false_iff]
      left
      rw [List.all_eq_false]
      exact ⟨s[i], List.getElem_mem hlt, by simp [h]⟩
    have next : wideB s[i] = true → ∀ x ∈ s.take (i + 1), wideB x = true := fun h => take_next hlt hall h
    by_cases h1 : (s[i].toNat : Int) < 128
    · rw [decide_eq_true h1, Bool.true_and] at hw
      cases h9 : isF 9 s[i].toNat with
      | false =>
        rw [h9] at hw
        have e := bad (by simpa using hw.symm)
        simp +contextual only [vq, vc, ve, vv, vn, vl, ↓reduceIte, Nat.reduceEqDiff, Nat.reduceAdd, Nat.reduceMul, Nat.reduceSub, Nat.reduceLeDiff, Nat.reduceLT, Nat.reduceBEq, Nat.reduceBNe, reduceCtorEq, Int.reduceBEq, Int.reduceBNe, Int.reduceLT, Int.reduceLE, Int.reduceEq, Int.reduceToNat, Int.reduceAdd, Int.reduceSub, Int.reduceNeg, A0, A3, hlt, get_byte hlt, h1, callR_val (c9 _ _), h9, e, hl]
      | true =>
        rw [h9, Bool.not_true, Bool.false_or] at hw
        cases h92 : ((s[i].toNat : Int) == 92) with
        | true =>
          rw [h92] at hw
          have e := bad (by simpa using hw.symm)
          simp +contextual only [vq, vc, ve, vv, vn, vl, ↓reduceIte, Nat.reduceEqDiff, Nat.reduceAdd, Nat.reduceMul, Nat.reduceSub, Nat.reduceLeDiff, Nat.reduceLT, Nat.reduceBEq, Nat.reduceBNe, reduceCtorEq, Int.reduceBEq, Int.reduceBNe, Int.reduceLT, Int.reduceLE, Int.reduceEq, Int.reduceToNat, Int.reduceAdd, Int.reduceSub, Int.reduceNeg, A0, A3, hlt, get_byte hlt, h1, callR_val (c9 _ _), h9, h92, e, hl]
        | false =>
          rw [h92] at hw
          simp +contextual only [vq, vc, ve, vv, vn, vl, ↓reduceIte, Nat.reduceEqDiff, Nat.reduceAdd, Nat.reduceMul, Nat.reduceSub, Nat.reduceLeDiff, Nat.reduceLT, Nat.reduceBEq, Nat.reduceBNe, reduceCtorEq, Int.reduceBEq, Int.reduceBNe, Int.reduceLT, Int.reduceLE, Int.reduceEq, Int.reduceToNat, Int.reduceAdd, Int.reduceSub, Int.reduceNeg, A0, A3, hlt, get_byte hlt, h1, callR_val (c9 _ _), h9, h92, wsucc hlt (by omega)]
          exact again2 hJ (s.length - (i + 1)) (by omega) ⟨i + 1, _, rfl, rfl, by omega, by simp +contextual only [vq, vc, ve, vv, vn, vl, ↓reduceIte, Nat.reduceEqDiff, Nat.reduceAdd, Nat.reduceMul, Nat.reduceSub, Nat.reduceLeDiff, Nat.reduceLT, Nat.reduceBEq, Nat.reduceBNe, reduceCtorEq, Int.reduceBEq, Int.reduceBNe, Int.reduceLT, Int.reduceLE, Int.reduceEq, Int.reduceToNat, Int.reduceAdd, Int.reduceSub, Int.reduceNeg, A0], by simp +contextual only [vq, vc, ve, vv, vn, vl, ↓reduceIte, Nat.reduceEqDiff, Nat.reduceAdd, Nat.reduceMul, Nat.reduceSub, Nat.reduceLeDiff, Nat.reduceLT, Nat.reduceBEq, Nat.reduceBNe, reduceCtorEq, Int.reduceBEq, Int.reduceBNe, Int.reduceLT, Int.reduceLE, Int.reduceEq, Int.reduceToNat, Int.reduceAdd, Int.reduceSub, Int.reduceNeg], next (by simpa using hw.symm)⟩
    · rw [decide_eq_false h1, Bool.false_and] at hw
      simp +contextual only [vq, vc, ve, vv, vn, vl, ↓reduceIte, Nat.reduceEqDiff, Nat.reduceAdd, Nat.reduceMul, Nat.reduceSub, Nat.reduceLeDiff, Nat.reduceLT, Nat.reduceBEq, Nat.reduceBNe, reduceCtorEq, Int.reduceBEq, Int.reduceBNe, Int.reduceLT, Int.reduceLE, Int.reduceEq, Int.reduceToNat, Int.reduceAdd, Int.reduceSub, Int.reduceNeg, A0, A3, hlt, get_byte hlt, h1, wsucc hlt (by omega)]
      exact again2 hJ (s.length - (i + 1)) (by omega) ⟨i + 1, _, rfl, rfl, by omega, by simp +contextual only [vq, vc, ve, vv, vn, vl, ↓reduceIte, Nat.reduceEqDiff, Nat.reduceAdd, Nat.reduceMul, Nat.reduceSub, Nat.reduceLeDiff, Nat.reduceLT, Nat.reduceBEq, Nat.reduceBNe, reduceCtorEq, Int.reduceBEq, Int.reduceBNe, Int.reduceLT, Int.reduceLE, Int.reduceEq, Int.reduceToNat, Int.reduceAdd, Int.reduceSub, Int.reduceNeg, A0], by simp +contextual only [vq, vc, ve, vv, vn, vl, ↓reduceIte, Nat.reduceEqDiff, Nat.reduceAdd, Nat.reduceMul, Nat.reduceSub, Nat.reduceLeDiff, Nat.reduceLT, Nat.reduceBEq, Nat.reduceBNe, reduceCtorEq, Int.reduceBEq, Int.reduceBNe, Int.reduceLT, Int.reduceLE, Int.reduceEq, Int.reduceToNat, Int.reduceAdd, Int.reduceSub, Int.reduceNeg], next (by simpa using hw.symm)⟩
  · have he : i = s.length := by omega
    subst he
    rw [List.take_length] at hall
    have e : wideS s = (s != [] && good s.length s == s.length) := by
      unfold wideS
      rw [List.all_eq_true.2 hall, Bool.true_and]
    by_cases hz : s = []
    · subst hz
      simp +contextual only [vq, vc, ve, vv, vn, vl, ↓reduceIte, Nat.reduceEqDiff, Nat.reduceAdd, Nat.reduceMul, Nat.reduceSub, Nat.reduceLeDiff, Nat.reduceLT, Nat.reduceBEq, Nat.reduceBNe, reduceCtorEq, Int.reduceBEq, Int.reduceBNe, Int.reduceLT, Int.reduceLE, Int.reduceEq, Int.reduceToNat, Int.reduceAdd, Int.reduceSub, Int.reduceNeg, A0, A3, e, hl]
    · have z : (s == []) = false := by simpa using hz
      have z2 : (s != []) = true := by simpa using hz
      simp +contextual only [vq, vc, ve, vv, vn, vl, ↓reduceIte, Nat.reduceEqDiff, Nat.reduceAdd, Nat.reduceMul, Nat.reduceSub, Nat.reduceLeDiff, Nat.reduceLT, Nat.reduceBEq, Nat.reduceBNe, reduceCtorEq, Int.reduceBEq, Int.reduceBNe, Int.reduceLT, Int.reduceLE, Int.reduceEq, Int.reduceToNat, Int.reduceAdd, Int.reduceSub, Int.reduceNeg, A0, A3, z]
      refine new_mk fun M1 e1 => ?_
      have g2 : M1.getN G ⟨.mem M.bl.length 0, 0⟩ s.length = some (bytesE s) := by rw [e1]; exact getN_row (row_push _ _) (sub_all (by simp [bytesE]))
      have ho : oldAd M1.bl.length ⟨.mem M.bl.length 0, 0⟩ = true := by rw [e1]; simp [oldAd, Mem.push]
      have hl2 : m.bl.length ≤ M1.low := by rw [e1]; exact hl
      simp +contextual only [vq, vc, ve, vv, vn, vl, ↓reduceIte, Nat.reduceEqDiff, Nat.reduceAdd, Nat.reduceMul, Nat.reduceSub, Nat.reduceLeDiff, Nat.reduceLT, Nat.reduceBEq, Nat.reduceBNe, reduceCtorEq, Int.reduceBEq, Int.reduceBNe, Int.reduceLT, Int.reduceLE, Int.reduceEq, Int.reduceToNat, Int.reduceAdd, Int.reduceSub, Int.reduceNeg, A0, callR_val (c_r05_Bad M1 s _ _ (show s.length ≤ 1000000000000 by omega) (Nat.le_refl _) g2 ho), e, z, z2, hl2]
theorem c_r10_orig (m : Mem) (s : List UInt8) (hs : s.length ≤ 100000000) : Go.Ev.Comes T G f_r10_orig [.str s] m none ⟨.val (.tuple [.str (origS s).1, .bool (origS s).2]), m, none⟩ := by
  refine comes2 T_r10_orig rfl fun M hg hlen hlow => ?_
  have hl : m.bl.length ≤ M.low := by omega
  have hT := c_r10_typed M s (by omega)
  simp only [F_r10_orig]
  cases ht : typedS s with
  | none =>
    have e : origS s = ([], false) := by simp only [origS, ht]
    have e2 : typI s = -1 := by simp only [typI, ht]
    rw [e2] at hT
    rw [e]
    simp +contextual only [vq, vc, ve, vv, vn, vl, ↓reduceIte, Nat.reduceEqDiff, Nat.reduceAdd, Nat.reduceMul, Nat.reduceSub, Nat.reduceLeDiff, Nat.reduceLT, Nat.reduceBEq, Nat.reduceBNe, reduceCtorEq, Int.reduceBEq, Int.reduceBNe, Int.reduceLT, Int.reduceLE, Int.reduceEq, Int.reduceToNat, Int.reduceAdd, Int.reduceSub, Int.reduceNeg, callR_val hT, hl]
  | some n =>
    obtain ⟨hn, hn59, _, _⟩ := typed_lt ht
    have e2 : typI s = (n : Int) := by simp only [typI, ht]
    rw [e2] at hT
    have k0 : (((n : Nat) : Int) < 0) = False := eq_false (by omega)
    have k1 : n ≤ s.length := by omega
    have k2 : n + 1 ≤ s.length := by omega
    have w1 : IntKind.i64.wrap ((n : Int) + 1) = ((n + 1 : Nat) : Int) := wrap_of (by omega) (by omega)
    have hS := c_r01_Same M (s.take n) wUTF8 (by rw [List.length_take]; omega) (by simp [wUTF8])
    unfold wUTF8 at hS
    cases hu : sameU (s.take n) wUTF8 with
    | true =>
      have e : origS s = (s, wideS (s.drop (n + 1))) := by simp only [origS, ht, hu, if_true]
      rw [e]
      unfold wUTF8 at hu
      rw [hu] at hS
      simp +contextual only [vq, vc, ve, vv, vn, vl, ↓reduceIte, Nat.reduceEqDiff, Nat.reduceAdd, Nat.reduceMul, Nat.reduceSub, Nat.reduceLeDiff, Nat.reduceLT, Nat.reduceBEq, Nat.reduceBNe, reduceCtorEq, Int.reduceBEq, Int.reduceBNe, Int.reduceLT, Int.reduceLE, Int.reduceEq, Int.reduceToNat, Int.reduceAdd, Int.reduceSub, Int.reduceNeg, callR_val hT, k0, k1, k2, w1, callR_val hS, callR_val (c_r10_unitext M (s.drop (n + 1)) (by simp; omega)), hl]
    | false =>
      have e : origS s = (s.take (n + 1) ++ (unxS (s.drop (n + 1))).1, (unxS (s.drop (n + 1))).2.1 == 0 && shownS (unxS (s.drop (n + 1))).1) := by simp only [origS, ht, hu, Bool.false_eq_true, if_false]
      rw [e]
      unfold wUTF8 at hu
      rw [hu] at hS
      have hxl := unxS_len (s.drop (n + 1))
      have hlc : (s.take (n + 1)).length + (unxS (s.drop (n + 1))).1.length ≤ 9223372036854775807 := by simp at hxl ⊢; omega
      simp +contextual only [vq, vc, ve, vv, vn, vl, ↓reduceIte, Nat.reduceEqDiff, Nat.reduceAdd, Nat.reduceMul, Nat.reduceSub, Nat.reduceLeDiff, Nat.reduceLT, Nat.reduceBEq, Nat.reduceBNe, reduceCtorEq, Int.reduceBEq, Int.reduceBNe, Int.reduceLT, Int.reduceLE, Int.reduceEq, Int.reduceToNat, Int.reduceAdd, Int.reduceSub, Int.reduceNeg, callR_val hT, k0, k1, k2, w1, callR_val hS, callR_val (c_r10_shown M (s.drop (n + 1)) (by simp; omega)), hlc, hl]
end Go.Proofs.YtmjoaiccbghijaaDoor.paramRcpts

namespace Go.Proofs.YtmjoaiccbghijaaDoor.paramRcpts
open Go.Ev hiding Comes
variable [GG]

def notesL : List (List UInt8) := [wSUCCESS, wFAILURE, wDELAY]
theorem c_r10_notes (m : Mem) : ∃ r, Go.Ev.Comes T G f_r10_notes [] m none r ∧ ∃ v m', r = ⟨.val v, m', none⟩ ∧ Grown m m' ∧ min m.low m.bl.length ≤ m'.low ∧ StrL m' v notesL := by
  refine comes2P T_r10_notes rfl fun M hg hlen hlow => ?_
  have hl0 : m.bl.length ≤ M.low := by omega
  simp only [F_r10_notes]
  simp +contextual only [vq, vc, ve, vv, vn, vl, ↓reduceIte, Nat.reduceEqDiff, Nat.reduceAdd, Nat.reduceMul, Nat.reduceSub, Nat.reduceLeDiff, Nat.reduceLT, Nat.reduceBEq, Nat.reduceBNe, reduceCtorEq, Int.reduceBEq, Int.reduceBNe, Int.reduceLT, Int.reduceLE, Int.reduceEq, Int.reduceToNat, Int.reduceAdd, Int.reduceSub, Int.reduceNeg]
  refine new_mk fun M1 e1 => ?_
  have g1 : Grown M M1 := by rw [e1]; exact Grown.rfl'.push
  have l1 : M1.low = M.low := by rw [e1]; rfl
  have hS : StrL M1 (.slice (some ⟨.mem M.bl.length 0, 0⟩) 3 3 1) notesL := StrL.lit (l := notesL) e1
  simp +contextual only [vq, vc, ve, vv, vn, vl, ↓reduceIte, Nat.reduceEqDiff, Nat.reduceAdd, Nat.reduceMul, Nat.reduceSub, Nat.reduceLeDiff, Nat.reduceLT, Nat.reduceBEq, Nat.reduceBNe, reduceCtorEq, Int.reduceBEq, Int.reduceBNe, Int.reduceLT, Int.reduceLE, Int.reduceEq, Int.reduceToNat, Int.reduceAdd, Int.reduceSub, Int.reduceNeg]
  refine postX_new (v := .slice (some ⟨.mem M.bl.length 0, 0⟩) 3 3 1) (by simp +contextual only [vq, vc, ve, vv, vn, vl, ↓reduceIte, Nat.reduceEqDiff, Nat.reduceAdd, Nat.reduceMul, Nat.reduceSub, Nat.reduceLeDiff, Nat.reduceLT, Nat.reduceBEq, Nat.reduceBNe, reduceCtorEq, Int.reduceBEq, Int.reduceBNe, Int.reduceLT, Int.reduceLE, Int.reduceEq, Int.reduceToNat, Int.reduceAdd, Int.reduceSub, Int.reduceNeg]) (by simp [noref, hlen]) ⟨_, _, rfl, hg.trans g1, by simp only; omega, hS⟩
theorem note_bit (w : List UInt8) : (plc w notesL = none ∧ bitOf w = 0) ∨ (plc w notesL = some 0 ∧ bitOf w = 2) ∨ (plc w notesL = some 1 ∧ bitOf w = 4) ∨ (plc w notesL = some 2 ∧ bitOf w = 8) := by
  have e1 : upS wSUCCESS = wSUCCESS := by decide +kernel
  have e2 : upS wFAILURE = wFAILURE := by decide +kernel
  have e3 : upS wDELAY = wDELAY := by decide +kernel
  have b : ∀ x y : List UInt8, (x == y) = decide (y = x) := fun x y => by rw [Bool.eq_iff_iff, beq_iff_eq, decide_eq_true_eq]; exact eq_comm
  simp only [plc, notesL, List.findIdx?_cons, List.findIdx?_nil, sameU, e1, e2, e3, b, bitOf]
  by_cases h1 : upS w = wSUCCESS
  · simp [h1]
  · by_cases h2 : upS w = wFAILURE
    · simp [h2, wSUCCESS, wFAILURE]
    · by_cases h3 : upS w = wDELAY
      · simp [h3, wSUCCESS, wFAILURE, wDELAY]
      · simp [h1, h2, h3]
theorem til_last (c : UInt8) (s : List UInt8) : (tilB c s = s.length ↔ s.count c = 0) := tilB_eq
theorem c_r10_notify (m : Mem) (s : List UInt8) (hs : s.length ≤ 1000000000) : Go.Ev.Comes T G f_r10_notify [.str s] m none ⟨.val (.int .i64 (notifyS s : Nat)), m, none⟩ := by
  refine comes2 T_r10_notify rfl fun M hg hlen hlow => ?_
  have hl0 : m.bl.length ≤ M.low := by omega
  have hS := c_r01_Same M s wNEVER hs (by simp [wNEVER])
  unfold wNEVER at hS
  simp only [F_r10_notify]
  cases hne : sameU s [78, 69, 86, 69, 82] with
  | true =>
    have e : notifyS s = 1 := if_pos hne
    rw [hne] at hS
    simp +contextual only [vq, vc, ve, vv, vn, vl, ↓reduceIte, Nat.reduceEqDiff, Nat.reduceAdd, Nat.reduceMul, Nat.reduceSub, Nat.reduceLeDiff, Nat.reduceLT, Nat.reduceBEq, Nat.reduceBNe, reduceCtorEq, Int.reduceBEq, Int.reduceBNe, Int.reduceLT, Int.reduceLE, Int.reduceEq, Int.reduceToNat, Int.reduceAdd, Int.reduceSub, Int.reduceNeg, callR_val hS, e, hl0]
    rfl
  | false =>
    have e : notifyS s = noteGo (splitB 44 (s.count 44) s) 0 := if_neg (by unfold wNEVER; simp [hne])
    rw [hne] at hS
    rw [e]
    simp +contextual only [vq, vc, ve, vv, vn, vl, ↓reduceIte, Nat.reduceEqDiff, Nat.reduceAdd, Nat.reduceMul, Nat.reduceSub, Nat.reduceLeDiff, Nat.reduceLT, Nat.reduceBEq, Nat.reduceBNe, reduceCtorEq, Int.reduceBEq, Int.reduceBNe, Int.reduceLT, Int.reduceLE, Int.reduceEq, Int.reduceToNat, Int.reduceAdd, Int.reduceSub, Int.reduceNeg, callR_val hS]
    refine loop2 (fun q st => ∃ (i sum : Nat) (A : Fr) (N : Mem), st = ⟨A, N, [], none⟩ ∧ q = s.length - i ∧ i ≤ s.length ∧ A 0 = .str s ∧ A 3 = .int .i64 (sum : Nat) ∧ A 4 = .int .i64 (i : Nat) ∧ sum < 16 ∧ sum % 2 = 0 ∧ noteGo (splitB 44 ((s.drop i).count 44) (s.drop i)) sum = noteGo (splitB 44 (s.count 44) s) 0 ∧ m.bl.length ≤ N.bl.length ∧ m.bl.length ≤ N.low) s.length
      ⟨0, 0, _, M, rfl, by omega, by omega, by simp +contextual only [vq, vc, ve, vv, vn, vl, ↓reduceIte, Nat.reduceEqDiff, Nat.reduceAdd, Nat.reduceMul, Nat.reduceSub, Nat.reduceLeDiff, Nat.reduceLT, Nat.reduceBEq, Nat.reduceBNe, reduceCtorEq, Int.reduceBEq, Int.reduceBNe, Int.reduceLT, Int.reduceLE, Int.reduceEq, Int.reduceToNat, Int.reduceAdd, Int.reduceSub, Int.reduceNeg], by simp +contextual only [vq, vc, ve, vv, vn, vl, ↓reduceIte, Nat.reduceEqDiff, Nat.reduceAdd, Nat.reduceMul, Nat.reduceSub, Nat.reduceLeDiff, Nat.reduceLT, Nat.reduceBEq, Nat.reduceBNe, reduceCtorEq, Int.reduceBEq, Int.reduceBNe, Int.reduceLT, Int.reduceLE, Int.reduceEq, Int.reduceToNat, Int.reduceAdd, Int.reduceSub, Int.reduceNeg]; rfl, by simp +contextual only [vq, vc, ve, vv, vn, vl, ↓reduceIte, Nat.reduceEqDiff, Nat.reduceAdd, Nat.reduceMul, Nat.reduceSub, Nat.reduceLeDiff, Nat.reduceLT, Nat.reduceBEq, Nat.reduceBNe, reduceCtorEq, Int.reduceBEq, Int.reduceBNe, Int.reduceLT, Int.reduceLE, Int.reduceEq, Int.reduceToNat, Int.reduceAdd, Int.reduceSub, Int.reduceNeg]; rfl, by omega, rfl, rfl, by omega, by omega⟩ fun J hJ q st hI => ?_
    obtain ⟨i, sum, A, N, rfl, rfl, hi, A0, A3, A4, hsum, heven, hgo, bN, lN⟩ := hI
    have htl := tilB_le 44 (s.drop i)
    have hdl : (s.drop i).length = s.length - i := by simp
    rw [hdl] at htl
    have hT := c_r10_tillB N s i 44 hi (by omega)
    have hT : Go.Ev.Comes T G f_r10_till [.str s, .int .i64 (i : Nat), .int .u8 44] N none ⟨.val (.int .i64 (i + tilB 44 (s.drop i) : Nat)), N, none⟩ := hT
    obtain ⟨_, hn, v, N1, rfl, g1, l1, hv⟩ := c_r10_notes ⟨N.bl, N.bl.length⟩
    have hle1 := g1.le
    simp only at hle1 l1
    have hA := c_r10_among N1 v ((s.drop i).take (tilB 44 (s.drop i))) notesL hv (by simp [notesL]) (by simp [notesL, wSUCCESS, wFAILURE, wDELAY]) (by simp; omega)
    have k1 : i ≤ i + tilB 44 (s.drop i) := by omega
    have k2 : i + tilB 44 (s.drop i) ≤ s.length := by omega
    have k3 : i + tilB 44 (s.drop i) - i = tilB 44 (s.drop i) := by omega
    have hl1 : N.bl.length ≤ N1.low := by omega
    obtain ⟨av, cv, ev, sv⟩ := hv.slice
    -- the words ahead
    have hsp : splitB 44 ((s.drop i).count 44) (s.drop i) = (s.drop i).take (tilB 44 (s.drop i)) :: (if tilB 44 (s.drop i) = (s.drop i).length then [] else splitB 44 ((s.drop (i + tilB 44 (s.drop i) + 1)).count 44) (s.drop (i + tilB 44 (s.drop i) + 1))) := by
      by_cases hlast : tilB 44 (s.drop i) = (s.drop i).length
      · rw [if_pos hlast, hlast, List.take_length, tilB_eq.1 hlast]
        rfl
      · rw [if_neg hlast, count_cut (by omega), splitB, List.drop_drop]
        rfl
    generalize hw : (s.drop i).take (tilB 44 (s.drop i)) = w at hA hsp
    rw [hsp, noteGo] at hgo
    simp +contextual only [vq, vc, ve, vv, vn, vl, ↓reduceIte, Nat.reduceEqDiff, Nat.reduceAdd, Nat.reduceMul, Nat.reduceSub, Nat.reduceLeDiff, Nat.reduceLT, Nat.reduceBEq, Nat.reduceBNe, reduceCtorEq, Int.reduceBEq, Int.reduceBNe, Int.reduceLT, Int.reduceLE, Int.reduceEq, Int.reduceToNat, Int.reduceAdd, Int.reduceSub, Int.reduceNeg, A0, A4, callR_val hT, k1, k2, k3, hw, callR_val hn, callR_val hA]
    rw [endD_new hl1]
    rcases note_bit w with ⟨hp, hb⟩ | hbit
    · rw [plcI_none hp]
      rw [if_pos (.inl hb)] at hgo
      simp +contextual only [vq, vc, ve, vv, vn, vl, ↓reduceIte, Nat.reduceEqDiff, Nat.reduceAdd, Nat.reduceMul, Nat.reduceSub, Nat.reduceLeDiff, Nat.reduceLT, Nat.reduceBEq, Nat.reduceBNe, reduceCtorEq, Int.reduceBEq, Int.reduceBNe, Int.reduceLT, Int.reduceLE, Int.reduceEq, Int.reduceToNat, Int.reduceAdd, Int.reduceSub, Int.reduceNeg, lN]
      rw [← hgo]
      rfl
    obtain ⟨k, hp, hk3, hb, hb0⟩ : ∃ k, plc w notesL = some k ∧ k < 3 ∧ ([.int .i64 2, .int .i64 4, .int .i64 8] : List EV)[k]? = some (.int .i64 (bitOf w : Nat)) ∧ (bitOf w = 2 ∨ bitOf w = 4 ∨ bitOf w = 8) := by
      rcases hbit with ⟨h1, h2⟩ | ⟨h1, h2⟩ | ⟨h1, h2⟩
      · exact ⟨0, h1, by omega, by rw [h2]; rfl, by omega⟩
      · exact ⟨1, h1, by omega, by rw [h2]; rfl, by omega⟩
      · exact ⟨2, h1, by omega, by rw [h2]; rfl, by omega⟩
    rw [plcI_some hp]
    have k0 : (((k : Nat) : Int) < 0) = False := eq_false (by omega)
    have kk3 : (((k : Nat) : Int) < ((3 : Nat) : Int)) = True := eq_true (by omega)
    have kk3' : (k < 3) = True := eq_true hk3
    simp +contextual only [vq, vc, ve, vv, vn, vl, ↓reduceIte, Nat.reduceEqDiff, Nat.reduceAdd, Nat.reduceMul, Nat.reduceSub, Nat.reduceLeDiff, Nat.reduceLT, Nat.reduceBEq, Nat.reduceBNe, reduceCtorEq, Int.reduceBEq, Int.reduceBNe, Int.reduceLT, Int.reduceLE, Int.reduceEq, Int.reduceToNat, Int.reduceAdd, Int.reduceSub, Int.reduceNeg, k0]
    refine new_mk fun N2 n2 => ?_
    have r2 : RowIs N2 N1.bl.length [.int .i64 2, .int .i64 4, .int .i64 8] := by rw [n2]; exact row_push _ _
    have l2 : N2.low = N.low := by rw [n2]; rfl
    have b2 : N2.bl.length = N1.bl.length + 1 := by rw [n2]; simp [Mem.push]
    have lN2 : m.bl.length ≤ N2.low := by omega
    have ww1 : IntKind.i64.wrap ((sum : Int).tdiv (bitOf w : Nat)) = ((sum / bitOf w : Nat) : Int) := wrap_of rfl (by have := Nat.div_le_self sum (bitOf w); omega)
    have ww2 : (((sum / bitOf w : Nat) : Int)).tmod 2 = ((sum / bitOf w % 2 : Nat) : Int) := rfl
    have ww3 : IntKind.i64.wrap ((sum : Int) + (bitOf w : Nat)) = ((sum + bitOf w : Nat) : Int) := wrap_of (by omega) (by omega)
    have nz : ¬ ((bitOf w : Nat) : Int) = 0 := by omega
    have nz' : ¬ bitOf w = 0 := by omega
    by_cases hq : sum / bitOf w % 2 = 1
    · have z : (((sum / bitOf w % 2 : Nat) : Int) == 1) = true := beq_iff_eq.2 (by omega)
      rw [if_pos (.inr hq)] at hgo
      simp +contextual only [vq, vc, ve, vv, vn, vl, ↓reduceIte, Nat.reduceEqDiff, Nat.reduceAdd, Nat.reduceMul, Nat.reduceSub, Nat.reduceLeDiff, Nat.reduceLT, Nat.reduceBEq, Nat.reduceBNe, reduceCtorEq, Int.reduceBEq, Int.reduceBNe, Int.reduceLT, Int.reduceLE, Int.reduceEq, Int.reduceToNat, Int.reduceAdd, Int.reduceSub, Int.reduceNeg, A3, kk3, kk3', r2.get (G := G), hb, nz, nz', ww1, ww2, z, lN2]
      rw [← hgo]
      rfl
    · have z : (((sum / bitOf w % 2 : Nat) : Int) == 1) = false := beq_eq_false_iff_ne.2 (by omega)
      rw [if_neg (by simp [nz', hq])] at hgo
      by_cases hlast : tilB 44 (s.drop i) = (s.drop i).length
      · have z2 : (i + tilB 44 (s.drop i) == s.length) = true := by simp; omega
        rw [if_pos hlast, noteGo] at hgo
        simp +contextual only [vq, vc, ve, vv, vn, vl, ↓reduceIte, Nat.reduceEqDiff, Nat.reduceAdd, Nat.reduceMul, Nat.reduceSub, Nat.reduceLeDiff, Nat.reduceLT, Nat.reduceBEq, Nat.reduceBNe, reduceCtorEq, Int.reduceBEq, Int.reduceBNe, Int.reduceLT, Int.reduceLE, Int.reduceEq, Int.reduceToNat, Int.reduceAdd, Int.reduceSub, Int.reduceNeg, A0, A3, kk3, kk3', r2.get (G := G), hb, nz, nz', ww1, ww2, ww3, z, z2, lN2]
        rw [← hgo]
      · have z2 : (i + tilB 44 (s.drop i) == s.length) = false := by simp; omega
        have ww4 : IntKind.i64.wrap (((i + tilB 44 (s.drop i) : Nat) : Int) + 1) = ((i + tilB 44 (s.drop i) + 1 : Nat) : Int) := wrap_of (by omega) (by omega)
        rw [if_neg hlast] at hgo
        have hs16 : sum + bitOf w < 16 ∧ (sum + bitOf w) % 2 = 0 := by
          have h := bits_or sum (bitOf w) hsum hb0 hq
          exact ⟨h.2, by omega⟩
        simp +contextual only [vq, vc, ve, vv, vn, vl, ↓reduceIte, Nat.reduceEqDiff, Nat.reduceAdd, Nat.reduceMul, Nat.reduceSub, Nat.reduceLeDiff, Nat.reduceLT, Nat.reduceBEq, Nat.reduceBNe, reduceCtorEq, Int.reduceBEq, Int.reduceBNe, Int.reduceLT, Int.reduceLE, Int.reduceEq, Int.reduceToNat, Int.reduceAdd, Int.reduceSub, Int.reduceNeg, A0, A3, A4, kk3, kk3', r2.get (G := G), hb, nz, nz', ww1, ww2, ww3, ww4, z, z2]
        refine again2 hJ (s.length - (i + tilB 44 (s.drop i) + 1)) (by omega) ⟨i + tilB 44 (s.drop i) + 1, sum + bitOf w, _, N2, rfl, rfl, by omega, by simp +contextual only [vq, vc, ve, vv, vn, vl, ↓reduceIte, Nat.reduceEqDiff, Nat.reduceAdd, Nat.reduceMul, Nat.reduceSub, Nat.reduceLeDiff, Nat.reduceLT, Nat.reduceBEq, Nat.reduceBNe, reduceCtorEq, Int.reduceBEq, Int.reduceBNe, Int.reduceLT, Int.reduceLE, Int.reduceEq, Int.reduceToNat, Int.reduceAdd, Int.reduceSub, Int.reduceNeg, A0], by simp +contextual only [vq, vc, ve, vv, vn, vl, ↓reduceIte, Nat.reduceEqDiff, Nat.reduceAdd, Nat.reduceMul, Nat.reduceSub, Nat.reduceLeDiff, Nat.reduceLT, Nat.reduceBEq, Nat.reduceBNe, reduceCtorEq, Int.reduceBEq, Int.reduceBNe, Int.reduceLT, Int.reduceLE, Int.reduceEq, Int.reduceToNat, Int.reduceAdd, Int.reduceSub, Int.reduceNeg], by simp +contextual only [vq, vc, ve, vv, vn, vl, ↓reduceIte, Nat.reduceEqDiff, Nat.reduceAdd, Nat.reduceMul, Nat.reduceSub, Nat.reduceLeDiff, Nat.reduceLT, Nat.reduceBEq, Nat.reduceBNe, reduceCtorEq, Int.reduceBEq, Int.reduceBNe, Int.reduceLT, Int.reduceLE, Int.reduceEq, Int.reduceToNat, Int.reduceAdd, Int.reduceSub, Int.reduceNeg], hs16.1, hs16.2, hgo, by omega, lN2⟩
end Go.Proofs.YtmjoaiccbghijaaDoor.paramRcpts

namespace Go.Proofs.YtmjoaiccbghijaaDoor.paramRcpts
open Go.Ev hiding Comes
variable [GG]

theorem c_r10_Rcpt (m : Mem) (x : EV) (l : List Par) (hx : Pars G m x l) (hl : l.length ≤ 1000000000) (hv : ∀ p ∈ l, p.name.length ≤ 100000000 ∧ p.value.length ≤ 100000000) :
    Go.Ev.Comes T G f_r10_Rcpt [x] m none ⟨.val (.tuple [.agg (roE (rcptS l).1), .int .i64 (rcptS l).2]), m, none⟩ := by
  refine comes2 T_r10_Rcpt rfl fun M hg hlen hlow => ?_
  have hl0 : m.bl.length ≤ M.low := by omega
  obtain ⟨ax, cx, ex, sx⟩ := hx.slice
  simp only [F_r10_Rcpt]
  simp +contextual only [vq, vc, ve, vv, vn, vl, ↓reduceIte, Nat.reduceEqDiff, Nat.reduceAdd, Nat.reduceMul, Nat.reduceSub, Nat.reduceLeDiff, Nat.reduceLT, Nat.reduceBEq, Nat.reduceBNe, reduceCtorEq, Int.reduceBEq, Int.reduceBNe, Int.reduceLT, Int.reduceLE, Int.reduceEq, Int.reduceToNat, Int.reduceAdd, Int.reduceSub, Int.reduceNeg]
  refine new_mk fun M1 e1 => ?_
  simp +contextual only [vq, vc, ve, vv, vn, vl, ↓reduceIte, Nat.reduceEqDiff, Nat.reduceAdd, Nat.reduceMul, Nat.reduceSub, Nat.reduceLeDiff, Nat.reduceLT, Nat.reduceBEq, Nat.reduceBNe, reduceCtorEq, Int.reduceBEq, Int.reduceBNe, Int.reduceLT, Int.reduceLE, Int.reduceEq, Int.reduceToNat, Int.reduceAdd, Int.reduceSub, Int.reduceNeg]
  refine new_mk fun M2 e2 => ?_
  have g1 : Grown M M1 := by rw [e1]; exact Grown.rfl'.push
  have g2 : Grown M1 M2 := by rw [e2]; exact Grown.rfl'.push
  have b1 : M1.bl.length = M.bl.length + 1 := by rw [e1]; simp [Mem.push]
  have b2 : M2.bl.length = M1.bl.length + 1 := by rw [e2]; simp [Mem.push]
  have l1 : M1.low = M.low := by rw [e1]; rfl
  have l2 : M2.low = M1.low := by rw [e2]; rfl
  have R1 : RowIs M1 M.bl.length (roE ro0) := by rw [e1]; exact row_push _ _
  have hN : StrL M2 (.slice (some ⟨.mem M1.bl.length 0, 0⟩) 2 2 1) [wNOTIFY, wORCPT] := StrL.lit (l := [wNOTIFY, wORCPT]) e2
  have gA := (hg.trans g1).trans g2
  have hF := c_r10_first M2 x _ l [wNOTIFY, wORCPT] (hx.grown gA) hN hl (fun p hp => by have := (hv p hp).1; omega) (by simp) (by simp [wNOTIFY, wORCPT])
  -- an end with an error
  have err : ∀ (N : Mem), Grown M1 N → m.bl.length ≤ N.low → ∃ N2, N.putN ⟨.mem M.bl.length 0, 0⟩ [.int .i64 0, .bool false, .str []] = some N2 ∧ N2.getN G ⟨.mem M.bl.length 0, 0⟩ 3 = some [.int .i64 0, .bool false, .str []] ∧ m.bl.length ≤ N2.low := fun N gN lN => by
    obtain ⟨N2, p2, R4, t2, w2⟩ := putN_row (off := 0) (vs := roE ro0) (R1.grown gN) (by simp [roE])
    have R4 : RowIs N2 M.bl.length (roE ro0) := R4
    exact ⟨N2, p2, getN_row R4 (sub_all rfl), by omega⟩
  have hro : ∀ c : Int, (EV.tuple [.agg (roE ro0), .int .i64 c]) = EV.tuple [.agg [.int .i64 0, .bool false, .str []], .int .i64 c] := fun c => rfl
  rw [rcpt_ref]
  cases hu : unk [wNOTIFY, wORCPT] l with
  | true =>
    rw [hu, if_pos rfl] at hF
    rw [if_pos rfl]
    obtain ⟨N2, p2, q2, w2⟩ := err M2 g2 (by omega)
    rw [sx] at hF ⊢
    simp only [hro]
    simp +contextual only [vq, vc, ve, vv, vn, vl, ↓reduceIte, Nat.reduceEqDiff, Nat.reduceAdd, Nat.reduceMul, Nat.reduceSub, Nat.reduceLeDiff, Nat.reduceLT, Nat.reduceBEq, Nat.reduceBNe, reduceCtorEq, Int.reduceBEq, Int.reduceBNe, Int.reduceLT, Int.reduceLE, Int.reduceEq, Int.reduceToNat, Int.reduceAdd, Int.reduceSub, Int.reduceNeg, callR_val hF, p2, q2, w2]
  | false =>
    rw [hu] at hF
    simp only [Bool.false_eq_true, if_false] at hF ⊢
    have hF' := hF
    rw [sx] at hF'
    simp +contextual only [vq, vc, ve, vv, vn, vl, ↓reduceIte, Nat.reduceEqDiff, Nat.reduceAdd, Nat.reduceMul, Nat.reduceSub, Nat.reduceLeDiff, Nat.reduceLT, Nat.reduceBEq, Nat.reduceBNe, reduceCtorEq, Int.reduceBEq, Int.reduceBNe, Int.reduceLT, Int.reduceLE, Int.reduceEq, Int.reduceToNat, Int.reduceAdd, Int.reduceSub, Int.reduceNeg, callR_val hF]
    refine new_mk fun M3 e3 => ?_
    have g3 : Grown M2 M3 := by rw [e3]; exact Grown.rfl'.push
    have b3 : M3.bl.length = M2.bl.length + 1 := by rw [e3]; simp [Mem.push]
    have l3 : M3.low = M2.low := by rw [e3]; rfl
    have R3 : RowIs M3 M2.bl.length (roE ro0) := by rw [e3]; exact row_push _ _
    simp +contextual only [vq, vc, ve, vv, vn, vl, ↓reduceIte, Nat.reduceEqDiff, Nat.reduceAdd, Nat.reduceMul, Nat.reduceSub, Nat.reduceLeDiff, Nat.reduceLT, Nat.reduceBEq, Nat.reduceBNe, reduceCtorEq, Int.reduceBEq, Int.reduceBNe, Int.reduceLT, Int.reduceLE, Int.reduceEq, Int.reduceToNat, Int.reduceAdd, Int.reduceSub, Int.reduceNeg, sx]
    refine loop2 (fun q st => ∃ i o A N, st = ⟨A, N, [], none⟩ ∧ q = l.length - i ∧ i ≤ l.length ∧ A 0 = x ∧ A 2 = .ptr (some ⟨.mem M.bl.length 0, 0⟩) ∧ A 5 = .ptr (some ⟨.mem M2.bl.length 0, 0⟩) ∧ A 6 = .int .i64 (i : Nat) ∧ RowIs N M2.bl.length (roE o) ∧ Grown M2 N ∧ m.bl.length ≤ N.low ∧ rGo (l.take i) (l.drop i) o = rGo [] l ro0) l.length
      ⟨0, ro0, _, M3, rfl, by omega, by omega, by simp +contextual only [vq, vc, ve, vv, vn, vl, ↓reduceIte, Nat.reduceEqDiff, Nat.reduceAdd, Nat.reduceMul, Nat.reduceSub, Nat.reduceLeDiff, Nat.reduceLT, Nat.reduceBEq, Nat.reduceBNe, reduceCtorEq, Int.reduceBEq, Int.reduceBNe, Int.reduceLT, Int.reduceLE, Int.reduceEq, Int.reduceToNat, Int.reduceAdd, Int.reduceSub, Int.reduceNeg, sx], by simp +contextual only [vq, vc, ve, vv, vn, vl, ↓reduceIte, Nat.reduceEqDiff, Nat.reduceAdd, Nat.reduceMul, Nat.reduceSub, Nat.reduceLeDiff, Nat.reduceLT, Nat.reduceBEq, Nat.reduceBNe, reduceCtorEq, Int.reduceBEq, Int.reduceBNe, Int.reduceLT, Int.reduceLE, Int.reduceEq, Int.reduceToNat, Int.reduceAdd, Int.reduceSub, Int.reduceNeg], by simp +contextual only [vq, vc, ve, vv, vn, vl, ↓reduceIte, Nat.reduceEqDiff, Nat.reduceAdd, Nat.reduceMul, Nat.reduceSub, Nat.reduceLeDiff, Nat.reduceLT, Nat.reduceBEq, Nat.reduceBNe, reduceCtorEq, Int.reduceBEq, Int.reduceBNe, Int.reduceLT, Int.reduceLE, Int.reduceEq, Int.reduceToNat, Int.reduceAdd, Int.reduceSub, Int.reduceNeg], by simp +contextual only [vq, vc, ve, vv, vn, vl, ↓reduceIte, Nat.reduceEqDiff, Nat.reduceAdd, Nat.reduceMul, Nat.reduceSub, Nat.reduceLeDiff, Nat.reduceLT, Nat.reduceBEq, Nat.reduceBNe, reduceCtorEq, Int.reduceBEq, Int.reduceBNe, Int.reduceLT, Int.reduceLE, Int.reduceEq, Int.reduceToNat, Int.reduceAdd, Int.reduceSub, Int.reduceNeg]; rfl, R3, g3, by omega, by simp⟩ fun J hJ q st hI => ?_
    obtain ⟨i, o, A, N, rfl, rfl, hi, A0, A2, A5, A6, hR, gN, lN, hgo⟩ := hI
    have hxN := (hx.grown gA).grown gN
    have g1N := g2.trans gN
    have hRlt := hR.lt
    by_cases hlt : i < l.length
    · obtain ⟨a, c, e, hc, hget, ho⟩ := hxN.at hlt
      have A0' := A0
      rw [e] at A0
      obtain ⟨h1, h2, h3⟩ := par_gets hget
      have hmem := List.getElem_mem hlt
      have hag := c_r10_again N x l i hxN hlt hl (fun p hp => by have := (hv p hp).1; omega)
      rw [e] at hag
      have hdrop : l.drop i = l[i] :: l.drop (i + 1) := List.drop_eq_getElem_cons hlt
      have htake : l.take (i + 1) = l.take i ++ [l[i]] := List.take_succ_eq_append_getElem hlt
      rw [hdrop, rGo] at hgo
      cases hq : ((l.take i).any fun q => sameU q.name l[i].name) with
      | true =>
        rw [hq] at hag hgo
        simp only [if_true] at hgo
        obtain ⟨N2, p2, q2, w2⟩ := err N g1N lN
        rw [← hgo]
        simp only [hro]
        simp +contextual only [vq, vc, ve, vv, vn, vl, ↓reduceIte, Nat.reduceEqDiff, Nat.reduceAdd, Nat.reduceMul, Nat.reduceSub, Nat.reduceLeDiff, Nat.reduceLT, Nat.reduceBEq, Nat.reduceBNe, reduceCtorEq, Int.reduceBEq, Int.reduceBNe, Int.reduceLT, Int.reduceLE, Int.reduceEq, Int.reduceToNat, Int.reduceAdd, Int.reduceSub, Int.reduceNeg, A0, A2, A6, hlt, callR_val hag, p2, q2, w2]
      | false =>
        rw [hq] at hag hgo
        simp only [Bool.false_eq_true, if_false] at hgo
        cases hh : l[i].has with
        | false =>
          rw [hh] at h3 hgo
          simp only [if_true] at hgo
          obtain ⟨N2, p2, q2, w2⟩ := err N g1N lN
          rw [← hgo]
          simp only [hro]
          simp +contextual only [vq, vc, ve, vv, vn, vl, ↓reduceIte, Nat.reduceEqDiff, Nat.reduceAdd, Nat.reduceMul, Nat.reduceSub, Nat.reduceLeDiff, Nat.reduceLT, Nat.reduceBEq, Nat.reduceBNe, reduceCtorEq, Int.reduceBEq, Int.reduceBNe, Int.reduceLT, Int.reduceLE, Int.reduceEq, Int.reduceToNat, Int.reduceAdd, Int.reduceSub, Int.reduceNeg, A0, A2, A6, hlt, callR_val hag, h3, ho, p2, q2, w2]
        | true =>
          rw [hh] at h3 hgo
          simp only [Bool.true_eq_false, if_false] at hgo
          have hS := c_r01_Same N l[i].name wNOTIFY (by have := (hv _ hmem).1; omega) (by simp [wNOTIFY])
          unfold wNOTIFY at hS
          cases hs : sameU l[i].name wNOTIFY with
          | true =>
            rw [hs] at hgo
            simp only [if_true] at hgo
            unfold wNOTIFY at hs
            rw [hs] at hS
            have hNo := c_r10_notify N l[i].value (by have := (hv _ hmem).2; omega)
            simp only [roE] at hR
            obtain ⟨N2, p2, R4, t2, w2⟩ := put1_row (off := 0) (v := .int .i64 (notifyS l[i].value : Nat)) hR (by simp)
            have R4 : RowIs N2 M2.bl.length (roE { o with notify := notifyS l[i].value }) := R4
            have hg4 : Grown M2 N2 := grown_but gN t2 (by omega)
            have R4g := R4.get (G := G) 0
            simp only [roE, List.getElem?_cons_zero] at R4g
            by_cases h0 : notifyS l[i].value = 0
            · have z : (((notifyS l[i].value : Nat) : Int) == 0) = true := beq_iff_eq.2 (by omega)
              rw [if_pos h0] at hgo
              obtain ⟨N3, p3, q3, w3⟩ := err N2 (g2.trans hg4) (by omega)
              rw [← hgo]
              simp only [hro]
              simp +contextual only [vq, vc, ve, vv, vn, vl, ↓reduceIte, Nat.reduceEqDiff, Nat.reduceAdd, Nat.reduceMul, Nat.reduceSub, Nat.reduceLeDiff, Nat.reduceLT, Nat.reduceBEq, Nat.reduceBNe, reduceCtorEq, Int.reduceBEq, Int.reduceBNe, Int.reduceLT, Int.reduceLE, Int.reduceEq, Int.reduceToNat, Int.reduceAdd, Int.reduceSub, Int.reduceNeg, A0, A2, A5, A6, hlt, callR_val hag, h1, h2, h3, ho, callR_val hS, callR_val hNo, p2, R4g, z, p3, q3, w3]
            · have z : (((notifyS l[i].value : Nat) : Int) == 0) = false := beq_eq_false_iff_ne.2 (by omega)
              rw [if_neg h0] at hgo
              simp +contextual only [vq, vc, ve, vv, vn, vl, ↓reduceIte, Nat.reduceEqDiff, Nat.reduceAdd, Nat.reduceMul, Nat.reduceSub, Nat.reduceLeDiff, Nat.reduceLT, Nat.reduceBEq, Nat.reduceBNe, reduceCtorEq, Int.reduceBEq, Int.reduceBNe, Int.reduceLT, Int.reduceLE, Int.reduceEq, Int.reduceToNat, Int.reduceAdd, Int.reduceSub, Int.reduceNeg, A0, A2, A5, A6, hlt, callR_val hag, h1, h2, h3, ho, callR_val hS, callR_val hNo, p2, R4g, z, wsucc hlt (by omega)]
              exact again2 hJ (l.length - (i + 1)) (by omega) ⟨i + 1, _, _, N2, rfl, rfl, by omega, by simp +contextual only [vq, vc, ve, vv, vn, vl, ↓reduceIte, Nat.reduceEqDiff, Nat.reduceAdd, Nat.reduceMul, Nat.reduceSub, Nat.reduceLeDiff, Nat.reduceLT, Nat.reduceBEq, Nat.reduceBNe, reduceCtorEq, Int.reduceBEq, Int.reduceBNe, Int.reduceLT, Int.reduceLE, Int.reduceEq, Int.reduceToNat, Int.reduceAdd, Int.reduceSub, Int.reduceNeg, A0'], by simp +contextual only [vq, vc, ve, vv, vn, vl, ↓reduceIte, Nat.reduceEqDiff, Nat.reduceAdd, Nat.reduceMul, Nat.reduceSub, Nat.reduceLeDiff, Nat.reduceLT, Nat.reduceBEq, Nat.reduceBNe, reduceCtorEq, Int.reduceBEq, Int.reduceBNe, Int.reduceLT, Int.reduceLE, Int.reduceEq, Int.reduceToNat, Int.reduceAdd, Int.reduceSub, Int.reduceNeg, A2], by simp +contextual only [vq, vc, ve, vv, vn, vl, ↓reduceIte, Nat.reduceEqDiff, Nat.reduceAdd, Nat.reduceMul, Nat.reduceSub, Nat.reduceLeDiff, Nat.reduceLT, Nat.reduceBEq, Nat.reduceBNe, reduceCtorEq, Int.reduceBEq, Int.reduceBNe, Int.reduceLT, Int.reduceLE, Int.reduceEq, Int.reduceToNat, Int.reduceAdd, Int.reduceSub, Int.reduceNeg, A5], by simp +contextual only [vq, vc, ve, vv, vn, vl, ↓reduceIte, Nat.reduceEqDiff, Nat.reduceAdd, Nat.reduceMul, Nat.reduceSub, Nat.reduceLeDiff, Nat.reduceLT, Nat.reduceBEq, Nat.reduceBNe, reduceCtorEq, Int.reduceBEq, Int.reduceBNe, Int.reduceLT, Int.reduceLE, Int.reduceEq, Int.reduceToNat, Int.reduceAdd, Int.reduceSub, Int.reduceNeg], R4, hg4, by omega, by rw [htake]; exact hgo⟩
          | false =>
            rw [hs] at hgo
            simp only [Bool.false_eq_true, if_false] at hgo
            unfold wNOTIFY at hs
            rw [hs] at hS
            have hO := c_r10_orig N l[i].value (by have := (hv _ hmem).2; omega)
            cases h2o : (origS l[i].value).2 with
            | false =>
              rw [h2o] at hO hgo
              simp only [Bool.false_eq_true, if_false] at hgo
              obtain ⟨N2, p2, q2, w2⟩ := err N g1N lN
              rw [← hgo]
              simp only [hro]
              simp +contextual only [vq, vc, ve, vv, vn, vl, ↓reduceIte, Nat.reduceEqDiff, Nat.reduceAdd, Nat.reduceMul, Nat.reduceSub, Nat.reduceLeDiff, Nat.reduceLT, Nat.reduceBEq, Nat.reduceBNe, reduceCtorEq, Int.reduceBEq, Int.reduceBNe, Int.reduceLT, Int.reduceLE, Int.reduceEq, Int.reduceToNat, Int.reduceAdd, Int.reduceSub, Int.reduceNeg, A0, A2, A6, hlt, callR_val hag, h1, h2, h3, ho, callR_val hS, callR_val hO, p2, q2, w2]
            | true =>
              rw [h2o] at hO hgo
              simp only [if_true] at hgo
              simp only [roE] at hR
              obtain ⟨N2, p2, R4, t2, w2⟩ := put1_row (off := 1) (v := .bool true) hR (by simp)
              obtain ⟨N3, p3, R5, t3, w3⟩ := put1_row (off := 2) (v := .str (origS l[i].value).1) R4 (by simp)
              have R5 : RowIs N3 M2.bl.length (roE { o with hasOrig := true, orig := (origS l[i].value).1 }) := R5
              have hg5 : Grown M2 N3 := grown_but (grown_but gN t2 (by omega)) t3 (by omega)
              simp +contextual only [vq, vc, ve, vv, vn, vl, ↓reduceIte, Nat.reduceEqDiff, Nat.reduceAdd, Nat.reduceMul, Nat.reduceSub, Nat.reduceLeDiff, Nat.reduceLT, Nat.reduceBEq, Nat.reduceBNe, reduceCtorEq, Int.reduceBEq, Int.reduceBNe, Int.reduceLT, Int.reduceLE, Int.reduceEq, Int.reduceToNat, Int.reduceAdd, Int.reduceSub, Int.reduceNeg, A0, A2, A5, A6, hlt, callR_val hag, h1, h2, h3, ho, callR_val hS, callR_val hO, p2, p3, wsucc hlt (by omega)]
              exact again2 hJ (l.length - (i + 1)) (by omega) ⟨i + 1, _, _, N3, rfl, rfl, by omega, by simp +contextual only [vq, vc, ve, vv, vn, vl, ↓reduceIte, Nat.reduceEqDiff, Nat.reduceAdd, Nat.reduceMul, Nat.reduceSub, Nat.reduceLeDiff, Nat.reduceLT, Nat.reduceBEq, Nat.reduceBNe, reduceCtorEq, Int.reduceBEq, Int.reduceBNe, Int.reduceLT, Int.reduceLE, Int.reduceEq, Int.reduceToNat, Int.reduceAdd, Int.reduceSub, Int.reduceNeg, A0'], by simp +contextual only [vq, vc, ve, vv, vn, vl, ↓reduceIte, Nat.reduceEqDiff, Nat.reduceAdd, Nat.reduceMul, Nat.reduceSub, Nat.reduceLeDiff, Nat.reduceLT, Nat.reduceBEq, Nat.reduceBNe, reduceCtorEq, Int.reduceBEq, Int.reduceBNe, Int.reduceLT, Int.reduceLE, Int.reduceEq, Int.reduceToNat, Int.reduceAdd, Int.reduceSub, Int.reduceNeg, A2], by simp +contextual only [vq, vc, ve, vv, vn, vl, ↓reduceIte, Nat.reduceEqDiff, Nat.reduceAdd, Nat.reduceMul, Nat.reduceSub, Nat.reduceLeDiff, Nat.reduceLT, Nat.reduceBEq, Nat.reduceBNe, reduceCtorEq, Int.reduceBEq, Int.reduceBNe, Int.reduceLT, Int.reduceLE, Int.reduceEq, Int.reduceToNat, Int.reduceAdd, Int.reduceSub, Int.reduceNeg, A5], by simp +contextual only [vq, vc, ve, vv, vn, vl, ↓reduceIte, Nat.reduceEqDiff, Nat.reduceAdd, Nat.reduceMul, Nat.reduceSub, Nat.reduceLeDiff, Nat.reduceLT, Nat.reduceBEq, Nat.reduceBNe, reduceCtorEq, Int.reduceBEq, Int.reduceBNe, Int.reduceLT, Int.reduceLE, Int.reduceEq, Int.reduceToNat, Int.reduceAdd, Int.reduceSub, Int.reduceNeg], R5, hg5, by omega, by rw [htake]; exact hgo⟩
    · have he : i = l.length := by omega
      subst he
      rw [List.drop_length, rGo] at hgo
      rw [← hgo]
      obtain ⟨N2, p2, R4, t2, w2⟩ := putN_row (off := 0) (vs := roE o) (R1.grown g1N) (by simp [roE])
      have R4 : RowIs N2 M.bl.length (roE o) := R4
      have hlN : m.bl.length ≤ N2.low := by omega
      simp only [roE] at hR p2 R4
      rw [sx] at A0
      simp only [roE]
      simp +contextual only [vq, vc, ve, vv, vn, vl, ↓reduceIte, Nat.reduceEqDiff, Nat.reduceAdd, Nat.reduceMul, Nat.reduceSub, Nat.reduceLeDiff, Nat.reduceLT, Nat.reduceBEq, Nat.reduceBNe, reduceCtorEq, Int.reduceBEq, Int.reduceBNe, Int.reduceLT, Int.reduceLE, Int.reduceEq, Int.reduceToNat, Int.reduceAdd, Int.reduceSub, Int.reduceNeg, A0, A2, A5, A6, hlt, hR.getN (G := G), p2, R4.getN (G := G), hlN]
end Go.Proofs.YtmjoaiccbghijaaDoor.paramRcpts

namespace Go.Proofs.YtmjoaiccbghijaaDoor.paramRcpts
open Go.Ev hiding Comes
variable [GG]

theorem up_toNat (b : UInt8) : ((up b).toNat : Int) = if 97 ≤ (b.toNat : Int) ∧ (b.toNat : Int) ≤ 122 then (b.toNat : Int) - 32 else b.toNat := by
  have h : ∀ n : Fin 256, ((up (UInt8.ofNat n.val)).toNat : Int) = if 97 ≤ ((UInt8.ofNat n.val).toNat : Int) ∧ ((UInt8.ofNat n.val).toNat : Int) ≤ 122 then ((UInt8.ofNat n.val).toNat : Int) - 32 else (UInt8.ofNat n.val).toNat := by decide +kernel
  have := h ⟨b.toNat, b.toNat_lt⟩
  rwa [UInt8.ofNat_toNat] at this
theorem c_octet_upper (m : Mem) (b : UInt8) : Go.Ev.Comes T G f_octet_upper [.int .u8 b.toNat] m none ⟨.val (.int .u8 (up b).toNat), m, none⟩ := by
  refine comes2 T_octet_upper rfl fun M hg hlen hlow => ?_
  have hl : m.bl.length ≤ M.low := by omega
  have hu := up_toNat b
  simp only [F_octet_upper]
  simp +contextual only [vq, vc, ve, vv, vn, vl, ↓reduceIte, Nat.reduceEqDiff, Nat.reduceAdd, Nat.reduceMul, Nat.reduceSub, Nat.reduceLeDiff, Nat.reduceLT, Nat.reduceBEq, Nat.reduceBNe, reduceCtorEq, Int.reduceBEq, Int.reduceBNe, Int.reduceLT, Int.reduceLE, Int.reduceEq, Int.reduceToNat, Int.reduceAdd, Int.reduceSub, Int.reduceNeg]
  refine br2_mk (fun h => ?_) (fun h => ?_)
  · have h : 97 ≤ (b.toNat : Int) ∧ (b.toNat : Int) ≤ 122 := by simpa using h
    rw [if_pos h] at hu
    simp +contextual only [vq, vc, ve, vv, vn, vl, ↓reduceIte, Nat.reduceEqDiff, Nat.reduceAdd, Nat.reduceMul, Nat.reduceSub, Nat.reduceLeDiff, Nat.reduceLT, Nat.reduceBEq, Nat.reduceBNe, reduceCtorEq, Int.reduceBEq, Int.reduceBNe, Int.reduceLT, Int.reduceLE, Int.reduceEq, Int.reduceToNat, Int.reduceAdd, Int.reduceSub, Int.reduceNeg, hl, hu, wrap8 (show 0 ≤ (b.toNat : Int) - 97 by omega) (by omega)]
    rw [wrap8 (by omega) (by omega)]
    omega
  · have h : ¬ (97 ≤ (b.toNat : Int) ∧ (b.toNat : Int) ≤ 122) := by
      intro k
      simp [k] at h
    rw [if_neg h] at hu
    simp +contextual only [vq, vc, ve, vv, vn, vl, ↓reduceIte, Nat.reduceEqDiff, Nat.reduceAdd, Nat.reduceMul, Nat.reduceSub, Nat.reduceLeDiff, Nat.reduceLT, Nat.reduceBEq, Nat.reduceBNe, reduceCtorEq, Int.reduceBEq, Int.reduceBNe, Int.reduceLT, Int.reduceLE, Int.reduceEq, Int.reduceToNat, Int.reduceAdd, Int.reduceSub, Int.reduceNeg, hl, hu]
end Go.Proofs.YtmjoaiccbghijaaDoor.paramRcpts

namespace Go.Proofs.YtmjoaiccbghijaaDoor.paramRcpts
open Go.Ev hiding Comes
variable [GG]

theorem c_octet_Same (m : Mem) (s t : List UInt8) (hN : s.length ≤ 1000000000000) : Go.Ev.Comes T G f_octet_Same [.str s, .str t] m none ⟨.val (.bool (sameU s t)), m, none⟩ := by
  refine comes2 T_octet_Same rfl fun M hg hlen hlow => ?_
  have hl : m.bl.length ≤ M.low := by omega
  simp only [F_octet_Same]
  by_cases hne : s.length = t.length
  · simp +contextual only [vq, vc, ve, vv, vn, vl, ↓reduceIte, Nat.reduceEqDiff, Nat.reduceAdd, Nat.reduceMul, Nat.reduceSub, Nat.reduceLeDiff, Nat.reduceLT, Nat.reduceBEq, Nat.reduceBNe, reduceCtorEq, Int.reduceBEq, Int.reduceBNe, Int.reduceLT, Int.reduceLE, Int.reduceEq, Int.reduceToNat, Int.reduceAdd, Int.reduceSub, Int.reduceNeg, hne]
    refine loop2 (fun n st => ∃ i A, st = ⟨A, M, [], none⟩ ∧ n = t.length - i ∧ i ≤ t.length ∧ A 0 = .str s ∧ A 1 = .str t ∧ A 12 = .int .i64 t.length ∧ A 13 = .int .i64 i ∧ upS (s.take i) = upS (t.take i)) t.length ⟨0, _, rfl, by omega, by omega, by simp +contextual only [vq, vc, ve, vv, vn, vl, ↓reduceIte, Nat.reduceEqDiff, Nat.reduceAdd, Nat.reduceMul, Nat.reduceSub, Nat.reduceLeDiff, Nat.reduceLT, Nat.reduceBEq, Nat.reduceBNe, reduceCtorEq, Int.reduceBEq, Int.reduceBNe, Int.reduceLT, Int.reduceLE, Int.reduceEq, Int.reduceToNat, Int.reduceAdd, Int.reduceSub, Int.reduceNeg], by simp +contextual only [vq, vc, ve, vv, vn, vl, ↓reduceIte, Nat.reduceEqDiff, Nat.reduceAdd, Nat.reduceMul, Nat.reduceSub, Nat.reduceLeDiff, Nat.reduceLT, Nat.reduceBEq, Nat.reduceBNe, reduceCtorEq, Int.reduceBEq, Int.reduceBNe, Int.reduceLT, Int.reduceLE, Int.reduceEq, Int.reduceToNat, Int.reduceAdd, Int.reduceSub, Int.reduceNeg], by simp +contextual only [vq, vc, ve, vv, vn, vl, ↓reduceIte, Nat.reduceEqDiff, Nat.reduceAdd, Nat.reduceMul, Nat.reduceSub, Nat.reduceLeDiff, Nat.reduceLT, Nat.reduceBEq, Nat.reduceBNe, reduceCtorEq, Int.reduceBEq, Int.reduceBNe, Int.reduceLT, Int.reduceLE, Int.reduceEq, Int.reduceToNat, Int.reduceAdd, Int.reduceSub, Int.reduceNeg, hne], by simp +contextual only [vq, vc, ve, vv, vn, vl, ↓reduceIte, Nat.reduceEqDiff, Nat.reduceAdd, Nat.reduceMul, Nat.reduceSub, Nat.reduceLeDiff, Nat.reduceLT, Nat.reduceBEq, Nat.reduceBNe, reduceCtorEq, Int.reduceBEq, Int.reduceBNe, Int.reduceLT, Int.reduceLE, Int.reduceEq, Int.reduceToNat, Int.reduceAdd, Int.reduceSub, Int.reduceNeg]; rfl, rfl⟩ fun J hJ n st hI => ?_
    obtain ⟨i, A, rfl, rfl, hi, A0, A1, A12, A13, hall⟩ := hI
    by_cases hlt : i < t.length
    · have his : i < s.length := by omega
      have hq : (((up s[i]).toNat : Int) != ((up t[i]).toNat : Int)) = !(up s[i] == up t[i]) := by simp only [bne, u8_eq]
      simp +contextual only [vq, vc, ve, vv, vn, vl, ↓reduceIte, Nat.reduceEqDiff, Nat.reduceAdd, Nat.reduceMul, Nat.reduceSub, Nat.reduceLeDiff, Nat.reduceLT, Nat.reduceBEq, Nat.reduceBNe, reduceCtorEq, Int.reduceBEq, Int.reduceBNe, Int.reduceLT, Int.reduceLE, Int.reduceEq, Int.reduceToNat, Int.reduceAdd, Int.reduceSub, Int.reduceNeg, A0, A1, A12, A13, hlt, get_byte hlt, get_byte his, callR_val (c_octet_upper _ _), hq]
      refine br2_mk (fun hp => ?_) (fun hp => ?_)
      · have hp : ¬ up s[i] = up t[i] := by simpa using hp
        have e : sameU s t = false := by
          unfold sameU
          rw [beq_eq_false_iff_ne]
          intro h
          apply hp
          have : (upS s)[i]? = (upS t)[i]? := by rw [h]
          simpa [upS, his, hlt] using this
        simp +contextual only [vq, vc, ve, vv, vn, vl, ↓reduceIte, Nat.reduceEqDiff, Nat.reduceAdd, Nat.reduceMul, Nat.reduceSub, Nat.reduceLeDiff, Nat.reduceLT, Nat.reduceBEq, Nat.reduceBNe, reduceCtorEq, Int.reduceBEq, Int.reduceBNe, Int.reduceLT, Int.reduceLE, Int.reduceEq, Int.reduceToNat, Int.reduceAdd, Int.reduceSub, Int.reduceNeg, e, hl]
      · have hp : up s[i] = up t[i] := by simpa using hp
        simp +contextual only [vq, vc, ve, vv, vn, vl, ↓reduceIte, Nat.reduceEqDiff, Nat.reduceAdd, Nat.reduceMul, Nat.reduceSub, Nat.reduceLeDiff, Nat.reduceLT, Nat.reduceBEq, Nat.reduceBNe, reduceCtorEq, Int.reduceBEq, Int.reduceBNe, Int.reduceLT, Int.reduceLE, Int.reduceEq, Int.reduceToNat, Int.reduceAdd, Int.reduceSub, Int.reduceNeg, A13, wsucc hlt (by omega)]
        refine again2 hJ (t.length - (i + 1)) (by omega) ⟨i + 1, _, rfl, rfl, by omega, by simp +contextual only [vq, vc, ve, vv, vn, vl, ↓reduceIte, Nat.reduceEqDiff, Nat.reduceAdd, Nat.reduceMul, Nat.reduceSub, Nat.reduceLeDiff, Nat.reduceLT, Nat.reduceBEq, Nat.reduceBNe, reduceCtorEq, Int.reduceBEq, Int.reduceBNe, Int.reduceLT, Int.reduceLE, Int.reduceEq, Int.reduceToNat, Int.reduceAdd, Int.reduceSub, Int.reduceNeg, A0], by simp +contextual only [vq, vc, ve, vv, vn, vl, ↓reduceIte, Nat.reduceEqDiff, Nat.reduceAdd, Nat.reduceMul, Nat.reduceSub, Nat.reduceLeDiff, Nat.reduceLT, Nat.reduceBEq, Nat.reduceBNe, reduceCtorEq, Int.reduceBEq, Int.reduceBNe, Int.reduceLT, Int.reduceLE, Int.reduceEq, Int.reduceToNat, Int.reduceAdd, Int.reduceSub, Int.reduceNeg, A1], by simp +contextual only [vq, vc, ve, vv, vn, vl, ↓reduceIte, Nat.reduceEqDiff, Nat.reduceAdd, Nat.reduceMul, Nat.reduceSub, Nat.reduceLeDiff, Nat.reduceLT, Nat.reduceBEq, Nat.reduceBNe, reduceCtorEq, Int.reduceBEq, Int.reduceBNe, Int.reduceLT, Int.reduceLE, Int.reduceEq, Int.reduceToNat, Int.reduceAdd, Int.reduceSub, Int.reduceNeg, A12], by simp +contextual only [vq, vc, ve, vv, vn, vl, ↓reduceIte, Nat.reduceEqDiff, Nat.reduceAdd, Nat.reduceMul, Nat.reduceSub, Nat.reduceLeDiff, Nat.reduceLT, Nat.reduceBEq, Nat.reduceBNe, reduceCtorEq, Int.reduceBEq, Int.reduceBNe, Int.reduceLT, Int.reduceLE, Int.reduceEq, Int.reduceToNat, Int.reduceAdd, Int.reduceSub, Int.reduceNeg], ?_⟩
        rw [List.take_succ_eq_append_getElem hlt, List.take_succ_eq_append_getElem his]
        simp only [upS, List.map_append, List.map_cons, List.map_nil] at hall ⊢
        rw [hall, hp]
    · have he : i = t.length := by omega
      subst he
      rw [List.take_length, ← hne, List.take_length] at hall
      have e : sameU s t = true := by simp [sameU, hall]
      simp +contextual only [vq, vc, ve, vv, vn, vl, ↓reduceIte, Nat.reduceEqDiff, Nat.reduceAdd, Nat.reduceMul, Nat.reduceSub, Nat.reduceLeDiff, Nat.reduceLT, Nat.reduceBEq, Nat.reduceBNe, reduceCtorEq, Int.reduceBEq, Int.reduceBNe, Int.reduceLT, Int.reduceLE, Int.reduceEq, Int.reduceToNat, Int.reduceAdd, Int.reduceSub, Int.reduceNeg, A12, A13, e, hl]
  · have e : sameU s t = false := by
      unfold sameU
      rw [beq_eq_false_iff_ne]
      intro h
      apply hne
      have := congrArg List.length h
      simpa [upS] using this
    have k1 : (s.length != t.length) = true := by simpa using hne
    simp +contextual only [vq, vc, ve, vv, vn, vl, ↓reduceIte, Nat.reduceEqDiff, Nat.reduceAdd, Nat.reduceMul, Nat.reduceSub, Nat.reduceLeDiff, Nat.reduceLT, Nat.reduceBEq, Nat.reduceBNe, reduceCtorEq, Int.reduceBEq, Int.reduceBNe, Int.reduceLT, Int.reduceLE, Int.reduceEq, Int.reduceToNat, Int.reduceAdd, Int.reduceSub, Int.reduceNeg, k1, e, hl]
end Go.Proofs.YtmjoaiccbghijaaDoor.paramRcpts

namespace Go.Proofs.YtmjoaiccbghijaaDoor.paramRcpts
open Go.Ev hiding Comes
variable [GG]

theorem c_slices_IndexFunc_string_string (m : Mem) (v : EV) (l : List (List UInt8)) (f : FuncId) (cap : List EV) (p : List UInt8 → Bool) (hv : StrL m v l) (hN : l.length ≤ 1000000000000)
    (hp : ∀ (M : Mem) (x : List UInt8), Grown m M → x ∈ l → Go.Ev.Comes T G f ([.str x] ++ cap) M none ⟨.val (.bool (p x)), M, none⟩) :
    Go.Ev.Comes T G f_slices_IndexFunc_string_string [v, .func f cap] m none ⟨.val (.int .i64 (fiI p l)), m, none⟩ := by
  refine comes2 T_slices_IndexFunc_string_string rfl fun M hg hlen hlow => ?_
  have hl : m.bl.length ≤ M.low := by omega
  have hv := hv.grown hg
  obtain ⟨a0, c0, e0, sv⟩ := hv.slice
  simp only [F_slices_IndexFunc_string_string]
  simp +contextual only [vq, vc, ve, vv, vn, vl, ↓reduceIte, Nat.reduceEqDiff, Nat.reduceAdd, Nat.reduceMul, Nat.reduceSub, Nat.reduceLeDiff, Nat.reduceLT, Nat.reduceBEq, Nat.reduceBNe, reduceCtorEq, Int.reduceBEq, Int.reduceBNe, Int.reduceLT, Int.reduceLE, Int.reduceEq, Int.reduceToNat, Int.reduceAdd, Int.reduceSub, Int.reduceNeg, sv]
  refine loop2 (fun n st => ∃ i A, st = ⟨A, M, [], none⟩ ∧ n = l.length - i ∧ i ≤ l.length ∧ A 0 = v ∧ A 1 = .func f cap ∧ A 7 = .int .i64 l.length ∧ A 8 = .int .i64 (i : Nat) ∧ ∀ x ∈ l.take i, p x = false) l.length ⟨0, _, rfl, by omega, by omega, by simp +contextual only [vq, vc, ve, vv, vn, vl, ↓reduceIte, Nat.reduceEqDiff, Nat.reduceAdd, Nat.reduceMul, Nat.reduceSub, Nat.reduceLeDiff, Nat.reduceLT, Nat.reduceBEq, Nat.reduceBNe, reduceCtorEq, Int.reduceBEq, Int.reduceBNe, Int.reduceLT, Int.reduceLE, Int.reduceEq, Int.reduceToNat, Int.reduceAdd, Int.reduceSub, Int.reduceNeg, sv], by simp +contextual only [vq, vc, ve, vv, vn, vl, ↓reduceIte, Nat.reduceEqDiff, Nat.reduceAdd, Nat.reduceMul, Nat.reduceSub, Nat.reduceLeDiff, Nat.reduceLT, Nat.reduceBEq, Nat.reduceBNe, reduceCtorEq, Int.reduceBEq, Int.reduceBNe, Int.reduceLT, Int.reduceLE, Int.reduceEq, Int.reduceToNat, Int.reduceAdd, Int.reduceSub, Int.reduceNeg], by simp +contextual only [vq, vc, ve, vv, vn, vl, ↓reduceIte, Nat.reduceEqDiff, Nat.reduceAdd, Nat.reduceMul, Nat.reduceSub, Nat.reduceLeDiff, Nat.reduceLT, Nat.reduceBEq, Nat.reduceBNe, reduceCtorEq, Int.reduceBEq, Int.reduceBNe, Int.reduceLT, Int.reduceLE, Int.reduceEq, Int.reduceToNat, Int.reduceAdd, Int.reduceSub, Int.reduceNeg], by simp +contextual only [vq, vc, ve, vv, vn, vl, ↓reduceIte, Nat.reduceEqDiff, Nat.reduceAdd, Nat.reduceMul, Nat.reduceSub, Nat.reduceLeDiff, Nat.reduceLT, Nat.reduceBEq, Nat.reduceBNe, reduceCtorEq, Int.reduceBEq, Int.reduceBNe, Int.reduceLT, Int.reduceLE, Int.reduceEq, Int.reduceToNat, Int.reduceAdd, Int.reduceSub, Int.reduceNeg]; rfl, by simp⟩ fun J hJ n st hI => ?_
  obtain ⟨i, A, rfl, rfl, hi, A0, A1, A7, A8, hall⟩ := hI
  by_cases hlt : i < l.length
  · obtain ⟨a, c, e, hc, hget, ho⟩ := hv.at hlt
    rw [e] at A0
    simp +contextual only [vq, vc, ve, vv, vn, vl, ↓reduceIte, Nat.reduceEqDiff, Nat.reduceAdd, Nat.reduceMul, Nat.reduceSub, Nat.reduceLeDiff, Nat.reduceLT, Nat.reduceBEq, Nat.reduceBNe, reduceCtorEq, Int.reduceBEq, Int.reduceBNe, Int.reduceLT, Int.reduceLE, Int.reduceEq, Int.reduceToNat, Int.reduceAdd, Int.reduceSub, Int.reduceNeg, A0, A1, A7, A8, hlt, hget, ho, callR_cap (hp M l[i] hg (List.getElem_mem hlt))]
    refine br2_mk (fun hq => ?_) (fun hq => ?_)
    · have e2 := fiI_at hlt hq hall
      simp +contextual only [vq, vc, ve, vv, vn, vl, ↓reduceIte, Nat.reduceEqDiff, Nat.reduceAdd, Nat.reduceMul, Nat.reduceSub, Nat.reduceLeDiff, Nat.reduceLT, Nat.reduceBEq, Nat.reduceBNe, reduceCtorEq, Int.reduceBEq, Int.reduceBNe, Int.reduceLT, Int.reduceLE, Int.reduceEq, Int.reduceToNat, Int.reduceAdd, Int.reduceSub, Int.reduceNeg, e2, hl]
    · simp +contextual only [vq, vc, ve, vv, vn, vl, ↓reduceIte, Nat.reduceEqDiff, Nat.reduceAdd, Nat.reduceMul, Nat.reduceSub, Nat.reduceLeDiff, Nat.reduceLT, Nat.reduceBEq, Nat.reduceBNe, reduceCtorEq, Int.reduceBEq, Int.reduceBNe, Int.reduceLT, Int.reduceLE, Int.reduceEq, Int.reduceToNat, Int.reduceAdd, Int.reduceSub, Int.reduceNeg, A8, wsucc hlt (by omega)]
      exact again2 hJ (l.length - (i + 1)) (by omega) ⟨i + 1, _, rfl, rfl, by omega, by simp +contextual only [vq, vc, ve, vv, vn, vl, ↓reduceIte, Nat.reduceEqDiff, Nat.reduceAdd, Nat.reduceMul, Nat.reduceSub, Nat.reduceLeDiff, Nat.reduceLT, Nat.reduceBEq, Nat.reduceBNe, reduceCtorEq, Int.reduceBEq, Int.reduceBNe, Int.reduceLT, Int.reduceLE, Int.reduceEq, Int.reduceToNat, Int.reduceAdd, Int.reduceSub, Int.reduceNeg, A0, e], by simp +contextual only [vq, vc, ve, vv, vn, vl, ↓reduceIte, Nat.reduceEqDiff, Nat.reduceAdd, Nat.reduceMul, Nat.reduceSub, Nat.reduceLeDiff, Nat.reduceLT, Nat.reduceBEq, Nat.reduceBNe, reduceCtorEq, Int.reduceBEq, Int.reduceBNe, Int.reduceLT, Int.reduceLE, Int.reduceEq, Int.reduceToNat, Int.reduceAdd, Int.reduceSub, Int.reduceNeg, A1], by simp +contextual only [vq, vc, ve, vv, vn, vl, ↓reduceIte, Nat.reduceEqDiff, Nat.reduceAdd, Nat.reduceMul, Nat.reduceSub, Nat.reduceLeDiff, Nat.reduceLT, Nat.reduceBEq, Nat.reduceBNe, reduceCtorEq, Int.reduceBEq, Int.reduceBNe, Int.reduceLT, Int.reduceLE, Int.reduceEq, Int.reduceToNat, Int.reduceAdd, Int.reduceSub, Int.reduceNeg, A7], by simp +contextual only [vq, vc, ve, vv, vn, vl, ↓reduceIte, Nat.reduceEqDiff, Nat.reduceAdd, Nat.reduceMul, Nat.reduceSub, Nat.reduceLeDiff, Nat.reduceLT, Nat.reduceBEq, Nat.reduceBNe, reduceCtorEq, Int.reduceBEq, Int.reduceBNe, Int.reduceLT, Int.reduceLE, Int.reduceEq, Int.reduceToNat, Int.reduceAdd, Int.reduceSub, Int.reduceNeg], no_next hlt hall hq⟩
  · have he : i = l.length := by omega
    subst he
    rw [List.take_length] at hall
    have e2 := fiI_no hall
    simp +contextual only [vq, vc, ve, vv, vn, vl, ↓reduceIte, Nat.reduceEqDiff, Nat.reduceAdd, Nat.reduceMul, Nat.reduceSub, Nat.reduceLeDiff, Nat.reduceLT, Nat.reduceBEq, Nat.reduceBNe, reduceCtorEq, Int.reduceBEq, Int.reduceBNe, Int.reduceLT, Int.reduceLE, Int.reduceEq, Int.reduceToNat, Int.reduceAdd, Int.reduceSub, Int.reduceNeg, A7, A8, e2, hl]
theorem c_param_place_1 (m : Mem) (b : Nat) (w x : List UInt8) (hb : RowIs m b [.str w]) (hN : x.length ≤ 1000000000000) : Go.Ev.Comes T G f_param_place_1 [.str x, .ptr (some ⟨.mem b 0, 0⟩)] m none ⟨.val (.bool (sameU x w)), m, none⟩ := by
  refine comes2 T_param_place_1 rfl fun M hg hlen hlow => ?_
  have hl : m.bl.length ≤ M.low := by omega
  have R := hb.grown hg
  simp only [F_param_place_1]
  simp +contextual only [vq, vc, ve, vv, vn, vl, ↓reduceIte, Nat.reduceEqDiff, Nat.reduceAdd, Nat.reduceMul, Nat.reduceSub, Nat.reduceLeDiff, Nat.reduceLT, Nat.reduceBEq, Nat.reduceBNe, reduceCtorEq, Int.reduceBEq, Int.reduceBNe, Int.reduceLT, Int.reduceLE, Int.reduceEq, Int.reduceToNat, Int.reduceAdd, Int.reduceSub, Int.reduceNeg, R.get (G := G), callR_val (c_octet_Same _ _ _ hN), hl]
theorem c_param_place (m : Mem) (v : EV) (w : List UInt8) (l : List (List UInt8)) (hv : StrL m v l) (hN : l.length ≤ 1000000000) (hx : ∀ x ∈ l, x.length ≤ 1000000000) : Go.Ev.Comes T G f_param_place [.str w, v] m none ⟨.val (.int .i64 (plcI w l)), m, none⟩ := by
  refine comes2 T_param_place rfl fun M hg hlen hlow => ?_
  have hl : m.bl.length ≤ M.low := by omega
  simp only [F_param_place]
  simp +contextual only [vq, vc, ve, vv, vn, vl, ↓reduceIte, Nat.reduceEqDiff, Nat.reduceAdd, Nat.reduceMul, Nat.reduceSub, Nat.reduceLeDiff, Nat.reduceLT, Nat.reduceBEq, Nat.reduceBNe, reduceCtorEq, Int.reduceBEq, Int.reduceBNe, Int.reduceLT, Int.reduceLE, Int.reduceEq, Int.reduceToNat, Int.reduceAdd, Int.reduceSub, Int.reduceNeg]
  refine new_mk fun M1 e1 => ?_
  have g1 : Grown M M1 := by rw [e1]; exact Grown.rfl'.push
  have R1 : RowIs M1 M.bl.length [.str w] := by rw [e1]; exact row_push _ _
  have l1 : m.bl.length ≤ M1.low := by rw [e1]; exact hl
  have hc := c_slices_IndexFunc_string_string M1 v l f_param_place_1 [.ptr (some ⟨.mem M.bl.length 0, 0⟩)] (fun n => sameU n w) ((hv.grown hg).grown g1) (by omega) (fun K x hK hxl => c_param_place_1 K M.bl.length w x (R1.grown hK) (by have := hx x hxl; omega))
  rw [← plcI_fi] at hc
  obtain ⟨a0, c0, e0, sv⟩ := hv.slice
  rw [sv] at hc ⊢
  simp +contextual only [vq, vc, ve, vv, vn, vl, ↓reduceIte, Nat.reduceEqDiff, Nat.reduceAdd, Nat.reduceMul, Nat.reduceSub, Nat.reduceLeDiff, Nat.reduceLT, Nat.reduceBEq, Nat.reduceBNe, reduceCtorEq, Int.reduceBEq, Int.reduceBNe, Int.reduceLT, Int.reduceLE, Int.reduceEq, Int.reduceToNat, Int.reduceAdd, Int.reduceSub, Int.reduceNeg, callR_val hc, l1]
end Go.Proofs.YtmjoaiccbghijaaDoor.paramRcpts
