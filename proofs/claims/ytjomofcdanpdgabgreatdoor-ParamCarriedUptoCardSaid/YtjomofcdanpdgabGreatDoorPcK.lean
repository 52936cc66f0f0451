/- A part of the proof of the statement that this claim hands in: what single functions come to. There are no conditions. -/
import Derived.Test.YtjomofcdanpdgabGreatDoorPcJ
set_option linter.unusedSectionVars false
set_option linter.unusedVariables false
set_option linter.unusedSimpArgs false
namespace Go.Proofs.YtjomofcdanpdgabGreatDoor.paramCarried
open Go.Ev hiding Comes

def hexU : List UInt8 := [48, 49, 50, 51, 52, 53, 54, 55, 56, 57, 65, 66, 67, 68, 69, 70]
def dig (k : Nat) : UInt8 := hexU.getD k 0
/-- Two digits of a byte. -/
def hexB (b : UInt8) : List UInt8 := [dig (b.toNat / 16), dig (b.toNat % 16)]
theorem hexU_get {k : Nat} (h : k < 16) : hexU[k]? = some (dig k) := by
  rw [List.getElem?_eq_getElem (show k < hexU.length from h)]
  simp [dig, List.getD, List.getElem?_eq_getElem (show k < hexU.length from h)]

theorem nat256 {P : Nat → Prop} (h : ∀ n : Fin 256, P n.val) (b : UInt8) : P b.toNat := h ⟨b.toNat, b.toNat_lt⟩
theorem sh4 (b : UInt8) : shiftE .shr .u8 (b.toNat : Int) 4 = some (.int .u8 ((b.toNat / 16 : Nat) : Int)) := by
  have h : (b.toNat : Int).fdiv (2 ^ min (4 : Int).toNat IntKind.u8.bits) = ((b.toNat / 16 : Nat) : Int) := nat256 (P := fun n => (n : Int).fdiv (2 ^ min (4 : Int).toNat IntKind.u8.bits) = ((n / 16 : Nat) : Int)) (show ∀ n : Fin 256, ((n.val : Nat) : Int).fdiv (2 ^ min (4 : Int).toNat IntKind.u8.bits) = ((n.val / 16 : Nat) : Int) by decide +kernel) b
  unfold shiftE
  rw [if_neg (by decide)]
  simp only [h]
theorem and15 (b : UInt8) : bitsE .and .u8 (b.toNat : Int) 15 = ((b.toNat % 16 : Nat) : Int) := nat256 (P := fun n => bitsE .and .u8 (n : Int) 15 = ((n % 16 : Nat) : Int)) (show ∀ n : Fin 256, bitsE .and .u8 ((n.val : Nat) : Int) 15 = ((n.val % 16 : Nat) : Int) by decide +kernel) b
theorem quo16 (b : UInt8) : IntKind.u8.wrap ((b.toNat : Int).tdiv 16) = ((b.toNat / 16 : Nat) : Int) := nat256 (P := fun n => IntKind.u8.wrap ((n : Int).tdiv 16) = ((n / 16 : Nat) : Int)) (show ∀ n : Fin 256, IntKind.u8.wrap (((n.val : Nat) : Int).tdiv 16) = ((n.val / 16 : Nat) : Int) by decide +kernel) b
theorem rem16 (b : UInt8) : (b.toNat : Int).tmod 16 = ((b.toNat % 16 : Nat) : Int) := nat256 (P := fun n => (n : Int).tmod 16 = ((n % 16 : Nat) : Int)) (show ∀ n : Fin 256, ((n.val : Nat) : Int).tmod 16 = ((n.val % 16 : Nat) : Int) by decide +kernel) b

theorem wpOps_tostr2 {m : Mem} {a : Ad} {n cap e : Nat} {s : List UInt8} {x : Opd} {dst : Option Nat} {os : List EOper} {Q : Ex → St → Prop} {A : Fr} {d : List (FuncId × List EV)} {p : Option (Option EV)}
    (hx : opd A x = .slice (some a) n cap e) (hg : m.getN G a n = some (bytesE s)) (h : Go.Ev.wpOps T G os Q ⟨setO A dst (.str s), m, d, p⟩) : Go.Ev.wpOps T G (⟨dst, .toStr x, none⟩ :: os) Q ⟨A, m, d, p⟩ := by
  refine wpOps_step rfl ?_
  simp only [stepE, evVal, hx, hg, Option.bind_some, strE_bytes, Option.map_some]
  cases dst <;> exact h

theorem c15 (m : Mem) (a : Ad) (cap e : Nat) (b : UInt8) (hg0 : m.getN G a 1 = some [byteE b]) (ho : oldAd m.bl.length a = true) :
    Go.Ev.Comes T G 15 [.slice (some a) 1 cap e] m none ⟨.val (.str (hexB b)), m, none⟩ := by
  refine comes_ofM T15 rfl fun M hg hlen hlow => ?_
  refine wpC_seq (wpC_reg ?_)
  repeat (first
    | (refine wpOps_plain rfl ?_
       simp only [stepE, evVal, opd, upd, setO, argsE, List.getD, binE, binInt, binStr, unE, wantedE, w0, w1, w2, Nat.reduceEqDiff, ↓reduceIte, Nat.reduceAdd, reduceCtorEq, eq_self, decide_true, decide_false, Bool.false_eq_true, Int.reduceBEq, Int.reduceBNe, Int.reduceLT, Int.reduceLE, Int.reduceGE, Int.reduceGT, Int.reduceEq])
    | (apply wpOps_on
       · simp only [wantedE, upd, setO, w0, w1, ↓reduceIte, Nat.reduceEqDiff, reduceCtorEq, Bool.false_eq_true, Int.reduceBEq, eq_self, decide_true, decide_false])
    | (apply wpOps_off
       · simp only [wantedE, upd, setO, w0, w1, ↓reduceIte, Nat.reduceEqDiff, reduceCtorEq, Bool.false_eq_true, Int.reduceBEq, eq_self, decide_true, decide_false]
       try dsimp only)
    | (apply wpOps_if
       · rfl
       · simp only [stepE, evVal, opd, upd, setO, argsE, List.getD, binE, binInt, binStr, unE, wantedE, w0, w1, w2, Nat.reduceEqDiff, ↓reduceIte, Nat.reduceAdd, reduceCtorEq, eq_self, decide_true, decide_false, Bool.false_eq_true, Int.reduceBEq, Int.reduceBNe, Int.reduceLT, Int.reduceLE, Int.reduceGE, Int.reduceGT, Int.reduceEq]; exact rfl
       · intro hb; simp only [stepE, evVal, opd, upd, setO, argsE, List.getD, binE, binInt, binStr, unE, wantedE, w0, w1, w2, Nat.reduceEqDiff, ↓reduceIte, Nat.reduceAdd, reduceCtorEq, eq_self, decide_true, decide_false, Bool.false_eq_true, Int.reduceBEq, Int.reduceBNe, Int.reduceLT, Int.reduceLE, Int.reduceGE, Int.reduceGT, Int.reduceEq, hb]; exact rfl))
  refine wpOps_nil (wpC_seq (wpC_reg ?_))
  have hw2 : IntKind.i64.wrap (2 * ((1 : Nat) : Int)) = ((2 : Nat) : Int) := rfl
  repeat (first
    | (refine wpOps_plain rfl ?_
       simp only [stepE, evVal, opd, upd, setO, argsE, List.getD, binE, binInt, binStr, unE, wantedE, w0, w1, w2, Nat.reduceEqDiff, ↓reduceIte, Nat.reduceAdd, reduceCtorEq, eq_self, decide_true, decide_false, Bool.false_eq_true, Int.reduceBEq, Int.reduceBNe, Int.reduceLT, Int.reduceLE, Int.reduceGE, Int.reduceGT, Int.reduceEq, hw2])
    | (apply wpOps_on
       · simp only [wantedE, upd, setO, w0, w1, ↓reduceIte, Nat.reduceEqDiff, reduceCtorEq, Bool.false_eq_true, Int.reduceBEq, eq_self, decide_true, decide_false])
    | (apply wpOps_off
       · simp only [wantedE, upd, setO, w0, w1, ↓reduceIte, Nat.reduceEqDiff, reduceCtorEq, Bool.false_eq_true, Int.reduceBEq, eq_self, decide_true, decide_false]
       try dsimp only)
    | (apply wpOps_if
       · rfl
       · simp only [stepE, evVal, opd, upd, setO, argsE, List.getD, binE, binInt, binStr, unE, wantedE, w0, w1, w2, Nat.reduceEqDiff, ↓reduceIte, Nat.reduceAdd, reduceCtorEq, eq_self, decide_true, decide_false, Bool.false_eq_true, Int.reduceBEq, Int.reduceBNe, Int.reduceLT, Int.reduceLE, Int.reduceGE, Int.reduceGT, Int.reduceEq]; exact rfl
       · intro hb; simp only [stepE, evVal, opd, upd, setO, argsE, List.getD, binE, binInt, binStr, unE, wantedE, w0, w1, w2, Nat.reduceEqDiff, ↓reduceIte, Nat.reduceAdd, reduceCtorEq, eq_self, decide_true, decide_false, Bool.false_eq_true, Int.reduceBEq, Int.reduceBNe, Int.reduceLT, Int.reduceLE, Int.reduceGE, Int.reduceGT, Int.reduceEq, hb, hw2]; exact rfl))
  refine wpOps_mkSlice (n := 2) rfl (by simp only [stepE, evVal, opd, upd, setO, argsE, List.getD, binE, binInt, binStr, unE, wantedE, w0, w1, w2, Nat.reduceEqDiff, ↓reduceIte, Nat.reduceAdd, reduceCtorEq, eq_self, decide_true, decide_false, Bool.false_eq_true, Int.reduceBEq, Int.reduceBNe, Int.reduceLT, Int.reduceLE, Int.reduceGE, Int.reduceGT, Int.reduceEq]) (by decide) fun M1 e1 => ?_
  have g1 : Grown m M1 := by subst e1; exact hg.push
  have f1 : M1.low = m.bl.length := by subst e1; exact hlow
  have B1 : Buf M1 M.bl.length 1 2 [] := by subst e1; exact buf_mk rfl (by omega)
  repeat (first
    | (refine wpOps_plain rfl ?_
       simp only [stepE, evVal, opd, upd, setO, argsE, List.getD, binE, binInt, binStr, unE, wantedE, w0, w1, w2, Nat.reduceEqDiff, ↓reduceIte, Nat.reduceAdd, reduceCtorEq, eq_self, decide_true, decide_false, Bool.false_eq_true, Int.reduceBEq, Int.reduceBNe, Int.reduceLT, Int.reduceLE, Int.reduceGE, Int.reduceGT, Int.reduceEq])
    | (apply wpOps_on
       · simp only [wantedE, upd, setO, w0, w1, ↓reduceIte, Nat.reduceEqDiff, reduceCtorEq, Bool.false_eq_true, Int.reduceBEq, eq_self, decide_true, decide_false])
    | (apply wpOps_off
       · simp only [wantedE, upd, setO, w0, w1, ↓reduceIte, Nat.reduceEqDiff, reduceCtorEq, Bool.false_eq_true, Int.reduceBEq, eq_self, decide_true, decide_false]
       try dsimp only)
    | (apply wpOps_if
       · rfl
       · simp only [stepE, evVal, opd, upd, setO, argsE, List.getD, binE, binInt, binStr, unE, wantedE, w0, w1, w2, Nat.reduceEqDiff, ↓reduceIte, Nat.reduceAdd, reduceCtorEq, eq_self, decide_true, decide_false, Bool.false_eq_true, Int.reduceBEq, Int.reduceBNe, Int.reduceLT, Int.reduceLE, Int.reduceGE, Int.reduceGT, Int.reduceEq]; exact rfl
       · intro hb; simp only [stepE, evVal, opd, upd, setO, argsE, List.getD, binE, binInt, binStr, unE, wantedE, w0, w1, w2, Nat.reduceEqDiff, ↓reduceIte, Nat.reduceAdd, reduceCtorEq, eq_self, decide_true, decide_false, Bool.false_eq_true, Int.reduceBEq, Int.reduceBNe, Int.reduceLT, Int.reduceLE, Int.reduceGE, Int.reduceGT, Int.reduceEq, hb]; exact rfl))
  refine wpOps_nil (wpC_seq (wpC_seq (wpC_reg ?_)))
  repeat (first
    | (refine wpOps_plain rfl ?_
       simp only [stepE, evVal, opd, upd, setO, argsE, List.getD, binE, binInt, binStr, unE, wantedE, w0, w1, w2, Nat.reduceEqDiff, ↓reduceIte, Nat.reduceAdd, reduceCtorEq, eq_self, decide_true, decide_false, Bool.false_eq_true, Int.reduceBEq, Int.reduceBNe, Int.reduceLT, Int.reduceLE, Int.reduceGE, Int.reduceGT, Int.reduceEq])
    | (apply wpOps_on
       · simp only [wantedE, upd, setO, w0, w1, ↓reduceIte, Nat.reduceEqDiff, reduceCtorEq, Bool.false_eq_true, Int.reduceBEq, eq_self, decide_true, decide_false])
    | (apply wpOps_off
       · simp only [wantedE, upd, setO, w0, w1, ↓reduceIte, Nat.reduceEqDiff, reduceCtorEq, Bool.false_eq_true, Int.reduceBEq, eq_self, decide_true, decide_false]
       try dsimp only)
    | (apply wpOps_if
       · rfl
       · simp only [stepE, evVal, opd, upd, setO, argsE, List.getD, binE, binInt, binStr, unE, wantedE, w0, w1, w2, Nat.reduceEqDiff, ↓reduceIte, Nat.reduceAdd, reduceCtorEq, eq_self, decide_true, decide_false, Bool.false_eq_true, Int.reduceBEq, Int.reduceBNe, Int.reduceLT, Int.reduceLE, Int.reduceGE, Int.reduceGT, Int.reduceEq]; exact rfl
       · intro hb; simp only [stepE, evVal, opd, upd, setO, argsE, List.getD, binE, binInt, binStr, unE, wantedE, w0, w1, w2, Nat.reduceEqDiff, ↓reduceIte, Nat.reduceAdd, reduceCtorEq, eq_self, decide_true, decide_false, Bool.false_eq_true, Int.reduceBEq, Int.reduceBNe, Int.reduceLT, Int.reduceLE, Int.reduceGE, Int.reduceGT, Int.reduceEq, hb]; exact rfl))
  refine wpOps_nil (wpC_block (wpC_loop (fun n st => ∃ i A N, st = ⟨A, N, [], none⟩ ∧ Grown m N ∧ m.bl.length ≤ N.low ∧ n = 1 - i ∧ i ≤ 1 ∧ A 3 = .slice (some ⟨.mem M.bl.length 0, 0⟩) (2 * i) 2 1 ∧ A 10 = .slice (some a) 1 cap e ∧ A 11 = .int .i64 ((1 : Nat) : Int) ∧ A 12 = .int .i64 i ∧ Buf N M.bl.length 1 2 (if i = 0 then [] else [[byteE (dig (b.toNat / 16))], [byteE (dig (b.toNat % 16))]])) (fun n st hI => ?_) 1 _ ?_))
  · obtain ⟨i, A, N, rfl, gN, lN, rfl, hi, A3, A10, A11, A12, BN⟩ := hI
    refine wpC_seq (wpC_reg ?_)
    repeat (first
      | (refine wpOps_plain rfl ?_
         simp only [stepE, evVal, opd, upd, setO, argsE, List.getD, binE, binInt, binStr, unE, wantedE, w0, w1, w2, Nat.reduceEqDiff, ↓reduceIte, Nat.reduceAdd, reduceCtorEq, eq_self, decide_true, decide_false, Bool.false_eq_true, Int.reduceBEq, Int.reduceBNe, Int.reduceLT, Int.reduceLE, Int.reduceGE, Int.reduceGT, Int.reduceEq, A12, A11])
      | (apply wpOps_on
         · simp only [wantedE, upd, setO, w0, w1, ↓reduceIte, Nat.reduceEqDiff, reduceCtorEq, Bool.false_eq_true, Int.reduceBEq, eq_self, decide_true, decide_false])
      | (apply wpOps_off
         · simp only [wantedE, upd, setO, w0, w1, ↓reduceIte, Nat.reduceEqDiff, reduceCtorEq, Bool.false_eq_true, Int.reduceBEq, eq_self, decide_true, decide_false]
         try dsimp only)
      | (apply wpOps_if
         · rfl
         · simp only [stepE, evVal, opd, upd, setO, argsE, List.getD, binE, binInt, binStr, unE, wantedE, w0, w1, w2, Nat.reduceEqDiff, ↓reduceIte, Nat.reduceAdd, reduceCtorEq, eq_self, decide_true, decide_false, Bool.false_eq_true, Int.reduceBEq, Int.reduceBNe, Int.reduceLT, Int.reduceLE, Int.reduceGE, Int.reduceGT, Int.reduceEq]; exact rfl
         · intro hb; simp only [stepE, evVal, opd, upd, setO, argsE, List.getD, binE, binInt, binStr, unE, wantedE, w0, w1, w2, Nat.reduceEqDiff, ↓reduceIte, Nat.reduceAdd, reduceCtorEq, eq_self, decide_true, decide_false, Bool.false_eq_true, Int.reduceBEq, Int.reduceBNe, Int.reduceLT, Int.reduceLE, Int.reduceGE, Int.reduceGT, Int.reduceEq, hb, A12, A11]; exact rfl))
    refine wpOps_nil (wpC_seq (wpC_cond (t := decide ((i : Int) < ((1 : Nat) : Int))) (by simp only [stepE, evVal, opd, upd, setO, argsE, List.getD, binE, binInt, binStr, unE, wantedE, w0, w1, w2, Nat.reduceEqDiff, ↓reduceIte, Nat.reduceAdd, reduceCtorEq, eq_self, decide_true, decide_false, Bool.false_eq_true, Int.reduceBEq, Int.reduceBNe, Int.reduceLT, Int.reduceLE, Int.reduceGE, Int.reduceGT, Int.reduceEq]) (fun hlt => ?_) (fun hge => ?_)))
    · have hi0 : i = 0 := by simp at hlt; omega
      subst hi0
      refine wpC_skip ?_
      simp only [thenE]
      have j0 : (0 : Int) ≤ ((0 : Nat) : Int) := by decide
      have j1 : ((0 : Nat) : Int) < ((1 : Nat) : Int) := by decide
      have gl := get_of_getN (getN_grown gN hg0)
      have gl' : N.get G a = some (byteE b) := gl
      refine wpC_seq (wpC_block (wpC_seq (wpC_reg ?_)))
      repeat (first
        | (refine wpOps_plain rfl ?_
           simp only [stepE, evVal, opd, upd, setO, argsE, List.getD, binE, binInt, binStr, unE, wantedE, w0, w1, w2, Nat.reduceEqDiff, ↓reduceIte, Nat.reduceAdd, reduceCtorEq, eq_self, decide_true, decide_false, Bool.false_eq_true, Int.reduceBEq, Int.reduceBNe, Int.reduceLT, Int.reduceLE, Int.reduceGE, Int.reduceGT, Int.reduceEq, A10, A12, j0, j1, Nat.zero_mul, Ad.plus_zero, gl'])
        | (apply wpOps_on
           · simp only [wantedE, upd, setO, w0, w1, ↓reduceIte, Nat.reduceEqDiff, reduceCtorEq, Bool.false_eq_true, Int.reduceBEq, eq_self, decide_true, decide_false])
        | (apply wpOps_off
           · simp only [wantedE, upd, setO, w0, w1, ↓reduceIte, Nat.reduceEqDiff, reduceCtorEq, Bool.false_eq_true, Int.reduceBEq, eq_self, decide_true, decide_false]
           try dsimp only)
        | (apply wpOps_if
           · rfl
           · simp only [stepE, evVal, opd, upd, setO, argsE, List.getD, binE, binInt, binStr, unE, wantedE, w0, w1, w2, Nat.reduceEqDiff, ↓reduceIte, Nat.reduceAdd, reduceCtorEq, eq_self, decide_true, decide_false, Bool.false_eq_true, Int.reduceBEq, Int.reduceBNe, Int.reduceLT, Int.reduceLE, Int.reduceGE, Int.reduceGT, Int.reduceEq]; exact rfl
           · intro hb; simp only [stepE, evVal, opd, upd, setO, argsE, List.getD, binE, binInt, binStr, unE, wantedE, w0, w1, w2, Nat.reduceEqDiff, ↓reduceIte, Nat.reduceAdd, reduceCtorEq, eq_self, decide_true, decide_false, Bool.false_eq_true, Int.reduceBEq, Int.reduceBNe, Int.reduceLT, Int.reduceLE, Int.reduceGE, Int.reduceGT, Int.reduceEq, hb, A10, A12, j0, j1, Nat.zero_mul, Ad.plus_zero, gl']; exact rfl))
      refine wpOps_nil (wpC_regD2 ?_)
      simp only [List.take_succ_cons, List.take_zero, List.drop_succ_cons, List.drop_zero]
      have k0 : (0 : Int) ≤ ((b.toNat / 16 : Nat) : Int) := by omega
      have k1 : (0 : Int) ≤ ((b.toNat % 16 : Nat) : Int) := by omega
      have hb := b.toNat_lt
      have x0 := hexU_get (k := b.toNat / 16) (by omega)
      have x1 := hexU_get (k := b.toNat % 16) (by omega)
      unfold hexU at x0 x1
      refine wpD_nil ⟨Nat.le_refl _, ?_⟩
      repeat (first
        | (refine wpD_pfloat rfl (by first | rfl | (simp only [floatOk, oldAd_plus, oldAd_mem, decide_eq_true_eq, opd, upd, setO, ↓reduceIte, Nat.reduceEqDiff, A3, byteE, sh4, and15, k0, k1, x0, x1]; done)) ?_
           simp only [stepE, evVal, opd, upd, setO, argsE, List.getD, binE, binInt, binStr, unE, wantedE, w0, w1, w2, Nat.reduceEqDiff, ↓reduceIte, Nat.reduceAdd, reduceCtorEq, eq_self, decide_true, decide_false, Bool.false_eq_true, Int.reduceBEq, Int.reduceBNe, Int.reduceLT, Int.reduceLE, Int.reduceGE, Int.reduceGT, Int.reduceEq, A3, byteE, sh4, and15, k0, k1, x0, x1])
        | (refine wpD_plain rfl ?_
           simp only [stepE, evVal, opd, upd, setO, argsE, List.getD, binE, binInt, binStr, unE, wantedE, w0, w1, w2, Nat.reduceEqDiff, ↓reduceIte, Nat.reduceAdd, reduceCtorEq, eq_self, decide_true, decide_false, Bool.false_eq_true, Int.reduceBEq, Int.reduceBNe, Int.reduceLT, Int.reduceLE, Int.reduceGE, Int.reduceGT, Int.reduceEq, A3, byteE, sh4, and15, k0, k1, x0, x1])
        | (apply wpD_on
           · simp only [wantedE, upd, setO, w0, w1, ↓reduceIte, Nat.reduceEqDiff, reduceCtorEq, Bool.false_eq_true, Int.reduceBEq, eq_self, decide_true, decide_false])
        | (apply wpD_off
           · simp only [wantedE, upd, setO, w0, w1, ↓reduceIte, Nat.reduceEqDiff, reduceCtorEq, Bool.false_eq_true, Int.reduceBEq, eq_self, decide_true, decide_false]
           try dsimp only)
        | (apply wpD_iffloat
           · simp only [stepE, evVal, opd, upd, setO, argsE, List.getD, binE, binInt, binStr, unE, wantedE, w0, w1, w2, Nat.reduceEqDiff, ↓reduceIte, Nat.reduceAdd, reduceCtorEq, eq_self, decide_true, decide_false, Bool.false_eq_true, Int.reduceBEq, Int.reduceBNe, Int.reduceLT, Int.reduceLE, Int.reduceGE, Int.reduceGT, Int.reduceEq]; exact rfl
           · intro hb; first | rfl | (simp only [floatOk, oldAd_plus, oldAd_mem, decide_eq_true_eq, opd, upd, setO, ↓reduceIte, Nat.reduceEqDiff, hb, A3, byteE, sh4, and15, k0, k1, x0, x1]; done)
           · intro hb; simp only [stepE, evVal, opd, upd, setO, argsE, List.getD, binE, binInt, binStr, unE, wantedE, w0, w1, w2, Nat.reduceEqDiff, ↓reduceIte, Nat.reduceAdd, reduceCtorEq, eq_self, decide_true, decide_false, Bool.false_eq_true, Int.reduceBEq, Int.reduceBNe, Int.reduceLT, Int.reduceLE, Int.reduceGE, Int.reduceGT, Int.reduceEq, hb, A3, byteE, sh4, and15, k0, k1, x0, x1]; exact rfl)
        | (apply wpD_ifstep
           · rfl
           · simp only [stepE, evVal, opd, upd, setO, argsE, List.getD, binE, binInt, binStr, unE, wantedE, w0, w1, w2, Nat.reduceEqDiff, ↓reduceIte, Nat.reduceAdd, reduceCtorEq, eq_self, decide_true, decide_false, Bool.false_eq_true, Int.reduceBEq, Int.reduceBNe, Int.reduceLT, Int.reduceLE, Int.reduceGE, Int.reduceGT, Int.reduceEq]; exact rfl
           · intro hb; simp only [stepE, evVal, opd, upd, setO, argsE, List.getD, binE, binInt, binStr, unE, wantedE, w0, w1, w2, Nat.reduceEqDiff, ↓reduceIte, Nat.reduceAdd, reduceCtorEq, eq_self, decide_true, decide_false, Bool.false_eq_true, Int.reduceBEq, Int.reduceBNe, Int.reduceLT, Int.reduceLE, Int.reduceGE, Int.reduceGT, Int.reduceEq, hb, A3, byteE, sh4, and15, k0, k1, x0, x1]; exact rfl))
      apply wpD_mklit (cs := [byteE (dig (b.toNat / 16)), byteE (dig (b.toNat % 16))])
      · rfl
      intro N1 e2
      have gN1 : Grown N N1 := by subst e2; exact ⟨[_], rfl⟩
      have l1 : N1.low = N.bl.length := by subst e2; rfl
      have gl1 := gN1.le
      have hge := gN.le
      obtain ⟨N2, p2, B2, t2, w2⟩ := buf_append (G := G) (bytes := 1) (tag := 6597069766657) (nr := [[byteE (dig (b.toNat / 16))], [byteE (dig (b.toNat % 16))]]) (BN.grown gN1) (by
        intro r hr
        simp at hr
        rcases hr with rfl | rfl <;> rfl) (by simp) (by omega)
      simp only [if_true, List.length_nil, List.flatten_cons, List.flatten_nil, List.cons_append, List.nil_append, List.length_cons, Nat.zero_add] at p2
      refine wpD_append (by simp only [stepE, evVal, opd, upd, setO, argsE, List.getD, binE, binInt, binStr, unE, wantedE, w0, w1, w2, Nat.reduceEqDiff, ↓reduceIte, Nat.reduceAdd, reduceCtorEq, eq_self, decide_true, decide_false, Bool.false_eq_true, Int.reduceBEq, Int.reduceBNe, Int.reduceLT, Int.reduceLE, Int.reduceGE, Int.reduceGT, Int.reduceEq]; exact src_lit (N := ⟨N.bl, N.bl.length⟩) e2 rfl) (by simp only [stepE, evVal, opd, upd, setO, argsE, List.getD, binE, binInt, binStr, unE, wantedE, w0, w1, w2, Nat.reduceEqDiff, ↓reduceIte, Nat.reduceAdd, reduceCtorEq, eq_self, decide_true, decide_false, Bool.false_eq_true, Int.reduceBEq, Int.reduceBNe, Int.reduceLT, Int.reduceLE, Int.reduceGE, Int.reduceGT, Int.reduceEq]; exact p2) ?_
      repeat (first
        | (refine wpD_pfloat rfl (by first | rfl | (simp only [floatOk, oldAd_plus, oldAd_mem, decide_eq_true_eq, opd, upd, setO, ↓reduceIte, Nat.reduceEqDiff]; done)) ?_
           simp only [stepE, evVal, opd, upd, setO, argsE, List.getD, binE, binInt, binStr, unE, wantedE, w0, w1, w2, Nat.reduceEqDiff, ↓reduceIte, Nat.reduceAdd, reduceCtorEq, eq_self, decide_true, decide_false, Bool.false_eq_true, Int.reduceBEq, Int.reduceBNe, Int.reduceLT, Int.reduceLE, Int.reduceGE, Int.reduceGT, Int.reduceEq])
        | (refine wpD_plain rfl ?_
           simp only [stepE, evVal, opd, upd, setO, argsE, List.getD, binE, binInt, binStr, unE, wantedE, w0, w1, w2, Nat.reduceEqDiff, ↓reduceIte, Nat.reduceAdd, reduceCtorEq, eq_self, decide_true, decide_false, Bool.false_eq_true, Int.reduceBEq, Int.reduceBNe, Int.reduceLT, Int.reduceLE, Int.reduceGE, Int.reduceGT, Int.reduceEq])
        | (apply wpD_on
           · simp only [wantedE, upd, setO, w0, w1, ↓reduceIte, Nat.reduceEqDiff, reduceCtorEq, Bool.false_eq_true, Int.reduceBEq, eq_self, decide_true, decide_false])
        | (apply wpD_off
           · simp only [wantedE, upd, setO, w0, w1, ↓reduceIte, Nat.reduceEqDiff, reduceCtorEq, Bool.false_eq_true, Int.reduceBEq, eq_self, decide_true, decide_false]
           try dsimp only)
        | (apply wpD_iffloat
           · simp only [stepE, evVal, opd, upd, setO, argsE, List.getD, binE, binInt, binStr, unE, wantedE, w0, w1, w2, Nat.reduceEqDiff, ↓reduceIte, Nat.reduceAdd, reduceCtorEq, eq_self, decide_true, decide_false, Bool.false_eq_true, Int.reduceBEq, Int.reduceBNe, Int.reduceLT, Int.reduceLE, Int.reduceGE, Int.reduceGT, Int.reduceEq]; exact rfl
           · intro hb; first | rfl | (simp only [floatOk, oldAd_plus, oldAd_mem, decide_eq_true_eq, opd, upd, setO, ↓reduceIte, Nat.reduceEqDiff, hb]; done)
           · intro hb; simp only [stepE, evVal, opd, upd, setO, argsE, List.getD, binE, binInt, binStr, unE, wantedE, w0, w1, w2, Nat.reduceEqDiff, ↓reduceIte, Nat.reduceAdd, reduceCtorEq, eq_self, decide_true, decide_false, Bool.false_eq_true, Int.reduceBEq, Int.reduceBNe, Int.reduceLT, Int.reduceLE, Int.reduceGE, Int.reduceGT, Int.reduceEq, hb]; exact rfl)
        | (apply wpD_ifstep
           · rfl
           · simp only [stepE, evVal, opd, upd, setO, argsE, List.getD, binE, binInt, binStr, unE, wantedE, w0, w1, w2, Nat.reduceEqDiff, ↓reduceIte, Nat.reduceAdd, reduceCtorEq, eq_self, decide_true, decide_false, Bool.false_eq_true, Int.reduceBEq, Int.reduceBNe, Int.reduceLT, Int.reduceLE, Int.reduceGE, Int.reduceGT, Int.reduceEq]; exact rfl
           · intro hb; simp only [stepE, evVal, opd, upd, setO, argsE, List.getD, binE, binInt, binStr, unE, wantedE, w0, w1, w2, Nat.reduceEqDiff, ↓reduceIte, Nat.reduceAdd, reduceCtorEq, eq_self, decide_true, decide_false, Bool.false_eq_true, Int.reduceBEq, Int.reduceBNe, Int.reduceLT, Int.reduceLE, Int.reduceGE, Int.reduceGT, Int.reduceEq, hb]; exact rfl))
      refine wpD_nil ?_
      simp only [thenE, againE, blockE]
      refine wpC_reg ?_
      repeat (first
        | (refine wpOps_plain rfl ?_
           simp only [stepE, evVal, opd, upd, setO, argsE, List.getD, binE, binInt, binStr, unE, wantedE, w0, w1, w2, Nat.reduceEqDiff, ↓reduceIte, Nat.reduceAdd, reduceCtorEq, eq_self, decide_true, decide_false, Bool.false_eq_true, Int.reduceBEq, Int.reduceBNe, Int.reduceLT, Int.reduceLE, Int.reduceGE, Int.reduceGT, Int.reduceEq, A12])
        | (apply wpOps_on
           · simp only [wantedE, upd, setO, w0, w1, ↓reduceIte, Nat.reduceEqDiff, reduceCtorEq, Bool.false_eq_true, Int.reduceBEq, eq_self, decide_true, decide_false])
        | (apply wpOps_off
           · simp only [wantedE, upd, setO, w0, w1, ↓reduceIte, Nat.reduceEqDiff, reduceCtorEq, Bool.false_eq_true, Int.reduceBEq, eq_self, decide_true, decide_false]
           try dsimp only)
        | (apply wpOps_if
           · rfl
           · simp only [stepE, evVal, opd, upd, setO, argsE, List.getD, binE, binInt, binStr, unE, wantedE, w0, w1, w2, Nat.reduceEqDiff, ↓reduceIte, Nat.reduceAdd, reduceCtorEq, eq_self, decide_true, decide_false, Bool.false_eq_true, Int.reduceBEq, Int.reduceBNe, Int.reduceLT, Int.reduceLE, Int.reduceGE, Int.reduceGT, Int.reduceEq]; exact rfl
           · intro hb; simp only [stepE, evVal, opd, upd, setO, argsE, List.getD, binE, binInt, binStr, unE, wantedE, w0, w1, w2, Nat.reduceEqDiff, ↓reduceIte, Nat.reduceAdd, reduceCtorEq, eq_self, decide_true, decide_false, Bool.false_eq_true, Int.reduceBEq, Int.reduceBNe, Int.reduceLT, Int.reduceLE, Int.reduceGE, Int.reduceGT, Int.reduceEq, hb, A12]; exact rfl))
      refine wpOps_nil ?_
      have hw : IntKind.i64.wrap (((0 : Nat) : Int) + 1) = ((1 : Nat) : Int) := rfl
      have b2 := t2.1
      refine ⟨0, by omega, 1, _, ⟨N2.bl, lowD N N2⟩, rfl, grown_but (gN.trans gN1) t2 (by omega), ?_, rfl, by omega, by simp [upd], by simp [upd, A10], by simp [upd, A11], by simp only [upd, if_true, hw], B2⟩
      simp only [lowD]
      split
      · exact lN
      · omega
    · have hie : i = 1 := by simp at hge; omega
      subst hie
      refine wpC_exit ?_
      simp only [thenE, againE, blockE, ↓reduceIte]
      refine wpC_seq (wpC_reg ?_)
      repeat (first
        | (refine wpOps_plain rfl ?_
           simp only [stepE, evVal, opd, upd, setO, argsE, List.getD, binE, binInt, binStr, unE, wantedE, w0, w1, w2, Nat.reduceEqDiff, ↓reduceIte, Nat.reduceAdd, reduceCtorEq, eq_self, decide_true, decide_false, Bool.false_eq_true, Int.reduceBEq, Int.reduceBNe, Int.reduceLT, Int.reduceLE, Int.reduceGE, Int.reduceGT, Int.reduceEq, A3])
        | (apply wpOps_on
           · simp only [wantedE, upd, setO, w0, w1, ↓reduceIte, Nat.reduceEqDiff, reduceCtorEq, Bool.false_eq_true, Int.reduceBEq, eq_self, decide_true, decide_false])
        | (apply wpOps_off
           · simp only [wantedE, upd, setO, w0, w1, ↓reduceIte, Nat.reduceEqDiff, reduceCtorEq, Bool.false_eq_true, Int.reduceBEq, eq_self, decide_true, decide_false]
           try dsimp only)
        | (apply wpOps_if
           · rfl
           · simp only [stepE, evVal, opd, upd, setO, argsE, List.getD, binE, binInt, binStr, unE, wantedE, w0, w1, w2, Nat.reduceEqDiff, ↓reduceIte, Nat.reduceAdd, reduceCtorEq, eq_self, decide_true, decide_false, Bool.false_eq_true, Int.reduceBEq, Int.reduceBNe, Int.reduceLT, Int.reduceLE, Int.reduceGE, Int.reduceGT, Int.reduceEq]; exact rfl
           · intro hb; simp only [stepE, evVal, opd, upd, setO, argsE, List.getD, binE, binInt, binStr, unE, wantedE, w0, w1, w2, Nat.reduceEqDiff, ↓reduceIte, Nat.reduceAdd, reduceCtorEq, eq_self, decide_true, decide_false, Bool.false_eq_true, Int.reduceBEq, Int.reduceBNe, Int.reduceLT, Int.reduceLE, Int.reduceGE, Int.reduceGT, Int.reduceEq, hb, A3]; exact rfl))
      have hg2 : N.getN G ⟨.mem M.bl.length 0, 0⟩ 2 = some (bytesE (hexB b)) := by
        have := whole_rows (G := G) (m := N) (a := ⟨.mem M.bl.length 0, 0⟩) (esz := 1) (by omega) [[byteE (dig (b.toNat / 16))], [byteE (dig (b.toNat % 16))]] (by simp) fun i r hi => by
          have := buf_get (G := G) BN (by omega) hi
          simpa [Ad.plus] using this
        exact this
      refine wpOps_tostr2 (by simp only [stepE, evVal, opd, upd, setO, argsE, List.getD, binE, binInt, binStr, unE, wantedE, w0, w1, w2, Nat.reduceEqDiff, ↓reduceIte, Nat.reduceAdd, reduceCtorEq, eq_self, decide_true, decide_false, Bool.false_eq_true, Int.reduceBEq, Int.reduceBNe, Int.reduceLT, Int.reduceLE, Int.reduceGE, Int.reduceGT, Int.reduceEq]; exact rfl) hg2 ?_
      repeat (first
        | (refine wpOps_plain rfl ?_
           simp only [stepE, evVal, opd, upd, setO, argsE, List.getD, binE, binInt, binStr, unE, wantedE, w0, w1, w2, Nat.reduceEqDiff, ↓reduceIte, Nat.reduceAdd, reduceCtorEq, eq_self, decide_true, decide_false, Bool.false_eq_true, Int.reduceBEq, Int.reduceBNe, Int.reduceLT, Int.reduceLE, Int.reduceGE, Int.reduceGT, Int.reduceEq])
        | (apply wpOps_on
           · simp only [wantedE, upd, setO, w0, w1, ↓reduceIte, Nat.reduceEqDiff, reduceCtorEq, Bool.false_eq_true, Int.reduceBEq, eq_self, decide_true, decide_false])
        | (apply wpOps_off
           · simp only [wantedE, upd, setO, w0, w1, ↓reduceIte, Nat.reduceEqDiff, reduceCtorEq, Bool.false_eq_true, Int.reduceBEq, eq_self, decide_true, decide_false]
           try dsimp only)
        | (apply wpOps_if
           · rfl
           · simp only [stepE, evVal, opd, upd, setO, argsE, List.getD, binE, binInt, binStr, unE, wantedE, w0, w1, w2, Nat.reduceEqDiff, ↓reduceIte, Nat.reduceAdd, reduceCtorEq, eq_self, decide_true, decide_false, Bool.false_eq_true, Int.reduceBEq, Int.reduceBNe, Int.reduceLT, Int.reduceLE, Int.reduceGE, Int.reduceGT, Int.reduceEq]; exact rfl
           · intro hb; simp only [stepE, evVal, opd, upd, setO, argsE, List.getD, binE, binInt, binStr, unE, wantedE, w0, w1, w2, Nat.reduceEqDiff, ↓reduceIte, Nat.reduceAdd, reduceCtorEq, eq_self, decide_true, decide_false, Bool.false_eq_true, Int.reduceBEq, Int.reduceBNe, Int.reduceLT, Int.reduceLE, Int.reduceGE, Int.reduceGT, Int.reduceEq, hb]; exact rfl))
      refine wpOps_nil (wpC_ret (post_ret ?_ (by omega) rfl))
      simp only [F15, resultsE, resE, upd, ↓reduceIte]
  · refine ⟨0, _, M1, rfl, g1, by omega, by omega, by omega, ?_, ?_, ?_, ?_, B1⟩ <;> simp [upd, argsE]
end Go.Proofs.YtjomofcdanpdgabGreatDoor.paramCarried
