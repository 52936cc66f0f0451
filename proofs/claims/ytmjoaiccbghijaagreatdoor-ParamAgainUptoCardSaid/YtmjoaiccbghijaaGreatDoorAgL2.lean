/- A part of the proof of the statement that this claim hands in: what single functions come to. There are no conditions. -/
import Derived.Test.YtmjoaiccbghijaaGreatDoorAgL1
import Derived.Test.YtmjoaiccbghijaaGreatDoorXEv33
set_option linter.unusedVariables false
set_option linter.unusedSimpArgs false
set_option linter.unusedSectionVars false
namespace Go.Proofs.YtmjoaiccbghijaaGreatDoor.paramAgain
open Go.Ev hiding Comes
variable [GG]

theorem wi {z : Int} (h : -2000000000000 ≤ z ∧ z ≤ 2000000000000) : IntKind.i64.wrap z = z := wrap64 (by omega) (by omega)
theorem w32 {z : Int} (h0 : 0 ≤ z) (h1 : z ≤ 1114111) : IntKind.i32.wrap z = z := by
  unfold IntKind.wrap
  simp [IntKind.bits, IntKind.signed]
  omega
theorem c_r05_made (m : Mem) (l : List UInt8) (a : Ad) (cap : Nat) (h1 : 1 ≤ l.length) (h4 : l.length ≤ 4) (hcap : l.length ≤ cap) (hg0 : m.getN G a l.length = some (bytesE l)) (ho : oldAd m.bl.length a = true) :
    Go.Ev.Comes T G f_r05_made [.slice (some a) l.length cap 1] m none ⟨.val (.tuple [.int .i32 (IntKind.i32.wrap (madeX l)), .bool (madeOk l)]), m, none⟩ := by
  refine comes2 T_r05_made rfl fun M hg hlen hlow => ?_
  have hgM := getN_grown hg hg0
  have oM := oldAd_le ho hg.le
  have hl0 : m.bl.length ≤ M.low := by omega
  have at_ : ∀ (i : Nat) (hi : i < l.length), M.get G (a.plus i) = some (byteE l[i]) := fun i hi => by
    have := get_part (a := a) (off := 0) (k := i) (v := byteE l[i]) (by rw [Ad.plus_zero]; exact hgM) (by omega) (sub_one (by simp [bytesE, hi]))
    rwa [Nat.zero_add] at this
  have d0 := at_ 0 (by omega)
  have hl := lead_le l.length
  have hb := l[0].toNat_lt
  have x0 : IntKind.i64.wrap ((l[0].toNat : Int)) = (l[0].toNat : Int) := wi (by omega)
  have x1 : IntKind.i64.wrap ((l[0].toNat : Int) - leadZ l.length) = madeK l 0 := by
    rw [wi (by omega)]
    match l, h1 with
    | b :: r, _ => rfl
  rw [Ad.plus_zero] at d0
  have p0 : 0 < l.length := by omega
  have h1' : (1 : Int) ≤ (l.length : Int) := by omega
  simp only [F_r05_made]
  simp +contextual only [vq, vc, ve, vv, vn, vl, ↓reduceIte, Nat.reduceEqDiff, Nat.reduceAdd, Nat.reduceMul, Nat.reduceSub, Nat.reduceLeDiff, Nat.reduceLT, Nat.reduceBEq, Nat.reduceBNe, reduceCtorEq, Int.reduceBEq, Int.reduceBNe, Int.reduceLT, Int.reduceLE, Int.reduceEq, Int.reduceToNat, Int.reduceAdd, Int.reduceSub, Int.reduceNeg, p0, d0, oM, x0, x1, callR_val (c_r05_lead _ _ (show l.length < 5 by omega)), h1', hcap]
  refine loop2 (fun n st => ∃ i A, st = ⟨A, M, [], none⟩ ∧ n = l.length - 1 - i ∧ i ≤ l.length - 1 ∧ A 0 = .slice (some a) l.length cap 1 ∧ A 4 = .int .i64 (madeK l i) ∧ A 16 = .slice (some (a.plus 1)) (l.length - 1) (cap - 1) 1 ∧ A 17 = .int .i64 (l.length - 1 : Nat) ∧ A 18 = .int .i64 (i : Nat)) (l.length - 1) ⟨0, _, rfl, by omega, by omega, by simp +contextual only [vq, vc, ve, vv, vn, vl, ↓reduceIte, Nat.reduceEqDiff, Nat.reduceAdd, Nat.reduceMul, Nat.reduceSub, Nat.reduceLeDiff, Nat.reduceLT, Nat.reduceBEq, Nat.reduceBNe, reduceCtorEq, Int.reduceBEq, Int.reduceBNe, Int.reduceLT, Int.reduceLE, Int.reduceEq, Int.reduceToNat, Int.reduceAdd, Int.reduceSub, Int.reduceNeg], by simp +contextual only [vq, vc, ve, vv, vn, vl, ↓reduceIte, Nat.reduceEqDiff, Nat.reduceAdd, Nat.reduceMul, Nat.reduceSub, Nat.reduceLeDiff, Nat.reduceLT, Nat.reduceBEq, Nat.reduceBNe, reduceCtorEq, Int.reduceBEq, Int.reduceBNe, Int.reduceLT, Int.reduceLE, Int.reduceEq, Int.reduceToNat, Int.reduceAdd, Int.reduceSub, Int.reduceNeg], by simp +contextual only [vq, vc, ve, vv, vn, vl, ↓reduceIte, Nat.reduceEqDiff, Nat.reduceAdd, Nat.reduceMul, Nat.reduceSub, Nat.reduceLeDiff, Nat.reduceLT, Nat.reduceBEq, Nat.reduceBNe, reduceCtorEq, Int.reduceBEq, Int.reduceBNe, Int.reduceLT, Int.reduceLE, Int.reduceEq, Int.reduceToNat, Int.reduceAdd, Int.reduceSub, Int.reduceNeg], by simp +contextual only [vq, vc, ve, vv, vn, vl, ↓reduceIte, Nat.reduceEqDiff, Nat.reduceAdd, Nat.reduceMul, Nat.reduceSub, Nat.reduceLeDiff, Nat.reduceLT, Nat.reduceBEq, Nat.reduceBNe, reduceCtorEq, Int.reduceBEq, Int.reduceBNe, Int.reduceLT, Int.reduceLE, Int.reduceEq, Int.reduceToNat, Int.reduceAdd, Int.reduceSub, Int.reduceNeg], by simp +contextual only [vq, vc, ve, vv, vn, vl, ↓reduceIte, Nat.reduceEqDiff, Nat.reduceAdd, Nat.reduceMul, Nat.reduceSub, Nat.reduceLeDiff, Nat.reduceLT, Nat.reduceBEq, Nat.reduceBNe, reduceCtorEq, Int.reduceBEq, Int.reduceBNe, Int.reduceLT, Int.reduceLE, Int.reduceEq, Int.reduceToNat, Int.reduceAdd, Int.reduceSub, Int.reduceNeg]; rfl⟩ fun J hJ n st hI => ?_
  obtain ⟨i, A, rfl, rfl, hi, A0, A4, A16, A17, A18⟩ := hI
  have hms := madeK_small h4 i
  simp +contextual only [vq, vc, ve, vv, vn, vl, ↓reduceIte, Nat.reduceEqDiff, Nat.reduceAdd, Nat.reduceMul, Nat.reduceSub, Nat.reduceLeDiff, Nat.reduceLT, Nat.reduceBEq, Nat.reduceBNe, reduceCtorEq, Int.reduceBEq, Int.reduceBNe, Int.reduceLT, Int.reduceLE, Int.reduceEq, Int.reduceToNat, Int.reduceAdd, Int.reduceSub, Int.reduceNeg, A17, A18]
  refine br2_dec (fun hlt => ?_) (fun hge => ?_)
  · have d1 := at_ (i + 1) (by omega)
    have hc := (l[i + 1]'(by omega)).toNat_lt
    have q1 : IntKind.i64.wrap (64 * madeK l i) = 64 * madeK l i := wi (by omega)
    have q2 : IntKind.i64.wrap (((l[i + 1]'(by omega)).toNat : Int)) = ((l[i + 1]'(by omega)).toNat : Int) := wi (by omega)
    have q3 : IntKind.i64.wrap (64 * madeK l i + ((l[i + 1]'(by omega)).toNat : Int)) = 64 * madeK l i + ((l[i + 1]'(by omega)).toNat : Int) := wi (by omega)
    have q4 : IntKind.i64.wrap (64 * madeK l i + ((l[i + 1]'(by omega)).toNat : Int) - 128) = madeK l (i + 1) := by
      rw [madeK_next (by omega)]
      exact wi (by omega)
    have pl : 1 + i = i + 1 := by omega
    simp +contextual only [vq, vc, ve, vv, vn, vl, ↓reduceIte, Nat.reduceEqDiff, Nat.reduceAdd, Nat.reduceMul, Nat.reduceSub, Nat.reduceLeDiff, Nat.reduceLT, Nat.reduceBEq, Nat.reduceBNe, reduceCtorEq, Int.reduceBEq, Int.reduceBNe, Int.reduceLT, Int.reduceLE, Int.reduceEq, Int.reduceToNat, Int.reduceAdd, Int.reduceSub, Int.reduceNeg, A4, A16, A18, hlt, pl, d1, q1, q2, q3, q4, wsucc hlt (by omega)]
    exact again2 hJ (l.length - 1 - (i + 1)) (by omega) ⟨i + 1, _, rfl, rfl, by omega, by simp +contextual only [vq, vc, ve, vv, vn, vl, ↓reduceIte, Nat.reduceEqDiff, Nat.reduceAdd, Nat.reduceMul, Nat.reduceSub, Nat.reduceLeDiff, Nat.reduceLT, Nat.reduceBEq, Nat.reduceBNe, reduceCtorEq, Int.reduceBEq, Int.reduceBNe, Int.reduceLT, Int.reduceLE, Int.reduceEq, Int.reduceToNat, Int.reduceAdd, Int.reduceSub, Int.reduceNeg, A0], by simp +contextual only [vq, vc, ve, vv, vn, vl, ↓reduceIte, Nat.reduceEqDiff, Nat.reduceAdd, Nat.reduceMul, Nat.reduceSub, Nat.reduceLeDiff, Nat.reduceLT, Nat.reduceBEq, Nat.reduceBNe, reduceCtorEq, Int.reduceBEq, Int.reduceBNe, Int.reduceLT, Int.reduceLE, Int.reduceEq, Int.reduceToNat, Int.reduceAdd, Int.reduceSub, Int.reduceNeg], by simp +contextual only [vq, vc, ve, vv, vn, vl, ↓reduceIte, Nat.reduceEqDiff, Nat.reduceAdd, Nat.reduceMul, Nat.reduceSub, Nat.reduceLeDiff, Nat.reduceLT, Nat.reduceBEq, Nat.reduceBNe, reduceCtorEq, Int.reduceBEq, Int.reduceBNe, Int.reduceLT, Int.reduceLE, Int.reduceEq, Int.reduceToNat, Int.reduceAdd, Int.reduceSub, Int.reduceNeg, A16], by simp +contextual only [vq, vc, ve, vv, vn, vl, ↓reduceIte, Nat.reduceEqDiff, Nat.reduceAdd, Nat.reduceMul, Nat.reduceSub, Nat.reduceLeDiff, Nat.reduceLT, Nat.reduceBEq, Nat.reduceBNe, reduceCtorEq, Int.reduceBEq, Int.reduceBNe, Int.reduceLT, Int.reduceLE, Int.reduceEq, Int.reduceToNat, Int.reduceAdd, Int.reduceSub, Int.reduceNeg, A17], by simp +contextual only [vq, vc, ve, vv, vn, vl, ↓reduceIte, Nat.reduceEqDiff, Nat.reduceAdd, Nat.reduceMul, Nat.reduceSub, Nat.reduceLeDiff, Nat.reduceLT, Nat.reduceBEq, Nat.reduceBNe, reduceCtorEq, Int.reduceBEq, Int.reduceBNe, Int.reduceLT, Int.reduceLE, Int.reduceEq, Int.reduceToNat, Int.reduceAdd, Int.reduceSub, Int.reduceNeg]⟩
  · have hie : i = l.length - 1 := by omega
    subst hie
    rw [madeK_end] at A4 hms
    cases hR : isR (madeX l) with
    | true =>
      obtain ⟨⟨r0, r1⟩, _⟩ := (isR_iff _).1 hR
      obtain ⟨N2, hcw, g2, l2, R2⟩ := c_r05_Write ⟨M.bl, M.bl.length⟩ (madeX l) r0 r1
      have lw : (bytesE (wr (madeX l))).length = (wr (madeX l)).length := by simp [bytesE]
      have k1 : N2.getN G ⟨.mem M.bl.length 0, 0⟩ (wr (madeX l)).length = some (bytesE (wr (madeX l))) := getN_row R2 (sub_all lw)
      have k2 : N2.getN G a l.length = some (bytesE l) := getN_grown (m := ⟨M.bl, M.bl.length⟩) g2 hgM
      have hm : madeOk l = (wr (madeX l) == l) := by simp [madeOk, hR]
      have l2' : M.bl.length ≤ N2.low := by
        have := l2
        simp only [Nat.min_self] at this
        exact this
      simp +contextual only [vq, vc, ve, vv, vn, vl, ↓reduceIte, Nat.reduceEqDiff, Nat.reduceAdd, Nat.reduceMul, Nat.reduceSub, Nat.reduceLeDiff, Nat.reduceLT, Nat.reduceBEq, Nat.reduceBNe, reduceCtorEq, Int.reduceBEq, Int.reduceBNe, Int.reduceLT, Int.reduceLE, Int.reduceEq, Int.reduceToNat, Int.reduceAdd, Int.reduceSub, Int.reduceNeg, A4, A0, callR_val (c_r05_Is _ _), hR, w32 r0 r1, callR_val hcw, k1, k2, oM]
      rw [cutD_new l2']
      simp +contextual only [vq, vc, ve, vv, vn, vl, ↓reduceIte, Nat.reduceEqDiff, Nat.reduceAdd, Nat.reduceMul, Nat.reduceSub, Nat.reduceLeDiff, Nat.reduceLT, Nat.reduceBEq, Nat.reduceBNe, reduceCtorEq, Int.reduceBEq, Int.reduceBNe, Int.reduceLT, Int.reduceLE, Int.reduceEq, Int.reduceToNat, Int.reduceAdd, Int.reduceSub, Int.reduceNeg]
      rw [endD_new l2']
      simp +contextual only [vq, vc, ve, vv, vn, vl, ↓reduceIte, Nat.reduceEqDiff, Nat.reduceAdd, Nat.reduceMul, Nat.reduceSub, Nat.reduceLeDiff, Nat.reduceLT, Nat.reduceBEq, Nat.reduceBNe, reduceCtorEq, Int.reduceBEq, Int.reduceBNe, Int.reduceLT, Int.reduceLE, Int.reduceEq, Int.reduceToNat, Int.reduceAdd, Int.reduceSub, Int.reduceNeg, hm, hl0]
    | false =>
      have hm : madeOk l = false := by simp [madeOk, hR]
      simp +contextual only [vq, vc, ve, vv, vn, vl, ↓reduceIte, Nat.reduceEqDiff, Nat.reduceAdd, Nat.reduceMul, Nat.reduceSub, Nat.reduceLeDiff, Nat.reduceLT, Nat.reduceBEq, Nat.reduceBNe, reduceCtorEq, Int.reduceBEq, Int.reduceBNe, Int.reduceLT, Int.reduceLE, Int.reduceEq, Int.reduceToNat, Int.reduceAdd, Int.reduceSub, Int.reduceNeg, A4, A0, callR_val (c_r05_Is _ _), hR, hm, hl0]
theorem wf_le : ∀ l : List UInt8, wf l ≤ 4 ∧ wf l ≤ l.length := by
  intro l
  unfold wf
  split
  · simp
  · rename_i b r
    repeat' split
    all_goals simp
    all_goals omega

/-- How many bytes the rune at a place has. -/
theorem c_r05_One (m : Mem) (s : List UInt8) (a : Ad) (cap k : Nat) (hk : k ≤ s.length) (hN : s.length ≤ 1000000000000) (hcap : s.length ≤ cap) (hg0 : m.getN G a s.length = some (bytesE s)) (ho : oldAd m.bl.length a = true) :
    ∃ x : Int, Go.Ev.Comes T G f_r05_One [.slice (some a) s.length cap 1, .int .i64 k] m none ⟨.val (.tuple [.int .i32 x, .int .i64 (wf (s.drop k) : Nat)]), m, none⟩ := by
  suffices H : ∃ r, Go.Ev.Comes T G f_r05_One [.slice (some a) s.length cap 1, .int .i64 k] m none r ∧ ∃ x : Int, r = ⟨.val (.tuple [.int .i32 x, .int .i64 (wf (s.drop k) : Nat)]), m, none⟩ by
    obtain ⟨_, hc, x, rfl⟩ := H
    exact ⟨x, hc⟩
  refine comes2P T_r05_One rfl fun M hg hlen hlow => ?_
  have hgM := getN_grown hg hg0
  have oM := oldAd_le ho hg.le
  have hwf := wf_le (s.drop k)
  have hl0 : m.bl.length ≤ M.low := by omega
  rw [List.length_drop] at hwf
  simp only [F_r05_One]
  simp +contextual only [vq, vc, ve, vv, vn, vl, ↓reduceIte, Nat.reduceEqDiff, Nat.reduceAdd, Nat.reduceMul, Nat.reduceSub, Nat.reduceLeDiff, Nat.reduceLT, Nat.reduceBEq, Nat.reduceBNe, reduceCtorEq, Int.reduceBEq, Int.reduceBNe, Int.reduceLT, Int.reduceLE, Int.reduceEq, Int.reduceToNat, Int.reduceAdd, Int.reduceSub, Int.reduceNeg]
  refine loop2 (fun q st => ∃ n A, st = ⟨A, M, [], none⟩ ∧ q = 5 - n ∧ 1 ≤ n ∧ n ≤ 5 ∧ A 0 = .slice (some a) s.length cap 1 ∧ A 1 = .int .i64 k ∧ A 6 = .int .i64 (n : Nat) ∧ (∀ j, 1 ≤ j → j < n → wf (s.drop k) ≠ j)) 4 ⟨1, _, rfl, rfl, by omega, by omega, by simp +contextual only [vq, vc, ve, vv, vn, vl, ↓reduceIte, Nat.reduceEqDiff, Nat.reduceAdd, Nat.reduceMul, Nat.reduceSub, Nat.reduceLeDiff, Nat.reduceLT, Nat.reduceBEq, Nat.reduceBNe, reduceCtorEq, Int.reduceBEq, Int.reduceBNe, Int.reduceLT, Int.reduceLE, Int.reduceEq, Int.reduceToNat, Int.reduceAdd, Int.reduceSub, Int.reduceNeg], by simp +contextual only [vq, vc, ve, vv, vn, vl, ↓reduceIte, Nat.reduceEqDiff, Nat.reduceAdd, Nat.reduceMul, Nat.reduceSub, Nat.reduceLeDiff, Nat.reduceLT, Nat.reduceBEq, Nat.reduceBNe, reduceCtorEq, Int.reduceBEq, Int.reduceBNe, Int.reduceLT, Int.reduceLE, Int.reduceEq, Int.reduceToNat, Int.reduceAdd, Int.reduceSub, Int.reduceNeg], by simp +contextual only [vq, vc, ve, vv, vn, vl, ↓reduceIte, Nat.reduceEqDiff, Nat.reduceAdd, Nat.reduceMul, Nat.reduceSub, Nat.reduceLeDiff, Nat.reduceLT, Nat.reduceBEq, Nat.reduceBNe, reduceCtorEq, Int.reduceBEq, Int.reduceBNe, Int.reduceLT, Int.reduceLE, Int.reduceEq, Int.reduceToNat, Int.reduceAdd, Int.reduceSub, Int.reduceNeg]; rfl, fun j h1 h2 => by omega⟩ fun J hJ q st hI => ?_
  obtain ⟨n, A, rfl, rfl, hn1, hn5, A0, A1, A6, hno⟩ := hI
  have hw : IntKind.i64.wrap ((k : Int) + (n : Int)) = ((k + n : Nat) : Int) := wrap_of (by omega) (by omega)
  have e4 : ((n : Int) ≤ 4) = (n ≤ 4) := propext ⟨fun h => by omega, fun h => by omega⟩
  by_cases hin : n ≤ 4 ∧ k + n ≤ s.length
  · obtain ⟨hn4, hkn⟩ := hin
    have hll : ((s.drop k).take n).length = n := by simp; omega
    have hgl : M.getN G (a.plus k) ((s.drop k).take n).length = some (bytesE ((s.drop k).take n)) := by
      have := getN_part (a := a) (off := 0) (k := k) (j := n) (ds := bytesE ((s.drop k).take n)) (by rw [Ad.plus_zero]; exact hgM) (by omega) ⟨by simp [bytesE]; omega, by simp [bytesE, List.map_take, List.map_drop]⟩
      rw [Nat.zero_add] at this
      rw [hll]
      exact this
    have hc := c_r05_made M ((s.drop k).take n) (a.plus k) (cap - k) (by omega) (by omega) (by omega) hgl oM
    rw [hll, made_wf (s.drop k) n hn1 hn4 (by rw [List.length_drop]; omega)] at hc
    have j2 : k + n ≤ cap := by omega
    have j3 : k + n - k = n := by omega
    have j4 : k ≤ k + n := by omega
    simp +contextual only [vq, vc, ve, vv, vn, vl, ↓reduceIte, Nat.reduceEqDiff, Nat.reduceAdd, Nat.reduceMul, Nat.reduceSub, Nat.reduceLeDiff, Nat.reduceLT, Nat.reduceBEq, Nat.reduceBNe, reduceCtorEq, Int.reduceBEq, Int.reduceBNe, Int.reduceLT, Int.reduceLE, Int.reduceEq, Int.reduceToNat, Int.reduceAdd, Int.reduceSub, Int.reduceNeg, A0, A1, A6, hw, e4, hn4, hkn, j2, j3, j4, callR_val hc]
    refine br2_dec (fun hy => ?_) (fun hno' => ?_)
    · simp +contextual only [vq, vc, ve, vv, vn, vl, ↓reduceIte, Nat.reduceEqDiff, Nat.reduceAdd, Nat.reduceMul, Nat.reduceSub, Nat.reduceLeDiff, Nat.reduceLT, Nat.reduceBEq, Nat.reduceBNe, reduceCtorEq, Int.reduceBEq, Int.reduceBNe, Int.reduceLT, Int.reduceLE, Int.reduceEq, Int.reduceToNat, Int.reduceAdd, Int.reduceSub, Int.reduceNeg, A6]
      exact postX_same (v := .tuple [.int .i32 (IntKind.i32.wrap (madeX ((s.drop k).take n))), .int .i64 (n : Nat)]) (by simp +contextual only [vq, vc, ve, vv, vn, vl, ↓reduceIte, Nat.reduceEqDiff, Nat.reduceAdd, Nat.reduceMul, Nat.reduceSub, Nat.reduceLeDiff, Nat.reduceLT, Nat.reduceBEq, Nat.reduceBNe, reduceCtorEq, Int.reduceBEq, Int.reduceBNe, Int.reduceLT, Int.reduceLE, Int.reduceEq, Int.reduceToNat, Int.reduceAdd, Int.reduceSub, Int.reduceNeg]) hl0 rfl ⟨_, by rw [hy]⟩
    · simp +contextual only [vq, vc, ve, vv, vn, vl, ↓reduceIte, Nat.reduceEqDiff, Nat.reduceAdd, Nat.reduceMul, Nat.reduceSub, Nat.reduceLeDiff, Nat.reduceLT, Nat.reduceBEq, Nat.reduceBNe, reduceCtorEq, Int.reduceBEq, Int.reduceBNe, Int.reduceLT, Int.reduceLE, Int.reduceEq, Int.reduceToNat, Int.reduceAdd, Int.reduceSub, Int.reduceNeg, A6, wsucc (n := 5) (show n < 5 by omega) (by omega)]
      exact again2 hJ (5 - (n + 1)) (by omega) ⟨n + 1, _, rfl, rfl, by omega, by omega, by simp +contextual only [vq, vc, ve, vv, vn, vl, ↓reduceIte, Nat.reduceEqDiff, Nat.reduceAdd, Nat.reduceMul, Nat.reduceSub, Nat.reduceLeDiff, Nat.reduceLT, Nat.reduceBEq, Nat.reduceBNe, reduceCtorEq, Int.reduceBEq, Int.reduceBNe, Int.reduceLT, Int.reduceLE, Int.reduceEq, Int.reduceToNat, Int.reduceAdd, Int.reduceSub, Int.reduceNeg, A0], by simp +contextual only [vq, vc, ve, vv, vn, vl, ↓reduceIte, Nat.reduceEqDiff, Nat.reduceAdd, Nat.reduceMul, Nat.reduceSub, Nat.reduceLeDiff, Nat.reduceLT, Nat.reduceBEq, Nat.reduceBNe, reduceCtorEq, Int.reduceBEq, Int.reduceBNe, Int.reduceLT, Int.reduceLE, Int.reduceEq, Int.reduceToNat, Int.reduceAdd, Int.reduceSub, Int.reduceNeg, A1], by simp +contextual only [vq, vc, ve, vv, vn, vl, ↓reduceIte, Nat.reduceEqDiff, Nat.reduceAdd, Nat.reduceMul, Nat.reduceSub, Nat.reduceLeDiff, Nat.reduceLT, Nat.reduceBEq, Nat.reduceBNe, reduceCtorEq, Int.reduceBEq, Int.reduceBNe, Int.reduceLT, Int.reduceLE, Int.reduceEq, Int.reduceToNat, Int.reduceAdd, Int.reduceSub, Int.reduceNeg], fun j h1 h2 => by
        by_cases hj : j = n
        · rw [hj]; exact hno'
        · exact hno j h1 (by omega)⟩
  · have h0 : wf (s.drop k) = 0 := by
      by_cases hz : wf (s.drop k) = 0
      · exact hz
      · have := hno (wf (s.drop k)) (by omega)
        omega
    have k1 : (decide (n ≤ 4) && decide (k + n ≤ s.length)) = false := by
      simp only [Bool.and_eq_false_iff, decide_eq_false_iff_not]
      omega
    simp +contextual only [vq, vc, ve, vv, vn, vl, ↓reduceIte, Nat.reduceEqDiff, Nat.reduceAdd, Nat.reduceMul, Nat.reduceSub, Nat.reduceLeDiff, Nat.reduceLT, Nat.reduceBEq, Nat.reduceBNe, reduceCtorEq, Int.reduceBEq, Int.reduceBNe, Int.reduceLT, Int.reduceLE, Int.reduceEq, Int.reduceToNat, Int.reduceAdd, Int.reduceSub, Int.reduceNeg, A0, A1, A6, hw, e4, k1]
    exact postX_same (v := .tuple [.int .i32 0, .int .i64 ((0 : Nat) : Int)]) (by simp +contextual only [vq, vc, ve, vv, vn, vl, ↓reduceIte, Nat.reduceEqDiff, Nat.reduceAdd, Nat.reduceMul, Nat.reduceSub, Nat.reduceLeDiff, Nat.reduceLT, Nat.reduceBEq, Nat.reduceBNe, reduceCtorEq, Int.reduceBEq, Int.reduceBNe, Int.reduceLT, Int.reduceLE, Int.reduceEq, Int.reduceToNat, Int.reduceAdd, Int.reduceSub, Int.reduceNeg]; rfl) hl0 rfl ⟨0, by rw [h0]⟩

theorem good_fuel {f g : Nat} {l : List UInt8} (hf : l.length ≤ f) (hg : l.length ≤ g) : good f l = good g l := by
  have h1 := pb_good f l 0 0 0 0 hf
  have h2 := pb_good g l 0 0 0 0 hg
  omega
theorem good_none {f : Nat} {l : List UInt8} (h : wf l = 0) : good f l = 0 := by
  cases f with
  | zero => rfl
  | succ f => simp only [good, h]
theorem good_next {f : Nat} {l : List UInt8} (h : wf l ≠ 0) : good (f + 1) l = wf l + good f (l.drop (wf l)) := by
  simp only [good]
  split
  · rename_i h0
    exact absurd h0 h
  · rename_i n hn
    rw [hn]
/-- Where the first wrong UTF-8 begins, by the reference. -/
theorem c_r05_Bad (m : Mem) (s : List UInt8) (a : Ad) (cap : Nat) (hN : s.length ≤ 1000000000000) (hcap : s.length ≤ cap) (hg0 : m.getN G a s.length = some (bytesE s)) (ho : oldAd m.bl.length a = true) :
    Go.Ev.Comes T G f_r05_Bad [.slice (some a) s.length cap 1] m none ⟨.val (.int .i64 (good s.length s : Nat)), m, none⟩ := by
  refine comes2 T_r05_Bad rfl fun M hg hlen hlow => ?_
  have hgM := getN_grown hg hg0
  have oM := oldAd_le ho hg.le
  have hl0 : m.bl.length ≤ M.low := by omega
  simp only [F_r05_Bad]
  simp +contextual only [vq, vc, ve, vv, vn, vl, ↓reduceIte, Nat.reduceEqDiff, Nat.reduceAdd, Nat.reduceMul, Nat.reduceSub, Nat.reduceLeDiff, Nat.reduceLT, Nat.reduceBEq, Nat.reduceBNe, reduceCtorEq, Int.reduceBEq, Int.reduceBNe, Int.reduceLT, Int.reduceLE, Int.reduceEq, Int.reduceToNat, Int.reduceAdd, Int.reduceSub, Int.reduceNeg]
  refine loop2 (fun q st => ∃ k A, st = ⟨A, M, [], none⟩ ∧ q = s.length - k ∧ k ≤ s.length ∧ A 0 = .slice (some a) s.length cap 1 ∧ A 3 = .int .i64 (k : Nat) ∧ k + good s.length (s.drop k) = good s.length s) s.length ⟨0, _, rfl, by omega, by omega, by simp +contextual only [vq, vc, ve, vv, vn, vl, ↓reduceIte, Nat.reduceEqDiff, Nat.reduceAdd, Nat.reduceMul, Nat.reduceSub, Nat.reduceLeDiff, Nat.reduceLT, Nat.reduceBEq, Nat.reduceBNe, reduceCtorEq, Int.reduceBEq, Int.reduceBNe, Int.reduceLT, Int.reduceLE, Int.reduceEq, Int.reduceToNat, Int.reduceAdd, Int.reduceSub, Int.reduceNeg], by simp +contextual only [vq, vc, ve, vv, vn, vl, ↓reduceIte, Nat.reduceEqDiff, Nat.reduceAdd, Nat.reduceMul, Nat.reduceSub, Nat.reduceLeDiff, Nat.reduceLT, Nat.reduceBEq, Nat.reduceBNe, reduceCtorEq, Int.reduceBEq, Int.reduceBNe, Int.reduceLT, Int.reduceLE, Int.reduceEq, Int.reduceToNat, Int.reduceAdd, Int.reduceSub, Int.reduceNeg]; rfl, by simp⟩ fun J hJ q st hI => ?_
  obtain ⟨k, A, rfl, rfl, hk, A0, A3, hR⟩ := hI
  have hwf := wf_le (s.drop k)
  rw [List.length_drop] at hwf
  obtain ⟨x, hc⟩ := c_r05_One M s a cap k hk hN hcap hgM oM
  simp +contextual only [vq, vc, ve, vv, vn, vl, ↓reduceIte, Nat.reduceEqDiff, Nat.reduceAdd, Nat.reduceMul, Nat.reduceSub, Nat.reduceLeDiff, Nat.reduceLT, Nat.reduceBEq, Nat.reduceBNe, reduceCtorEq, Int.reduceBEq, Int.reduceBNe, Int.reduceLT, Int.reduceLE, Int.reduceEq, Int.reduceToNat, Int.reduceAdd, Int.reduceSub, Int.reduceNeg, A0, A3, callR_val hc]
  refine br2_mk (fun h0 => ?_) (fun h0 => ?_)
  · have h0 : wf (s.drop k) = 0 := by simpa using h0
    rw [good_none h0, Nat.add_zero] at hR
    simp +contextual only [vq, vc, ve, vv, vn, vl, ↓reduceIte, Nat.reduceEqDiff, Nat.reduceAdd, Nat.reduceMul, Nat.reduceSub, Nat.reduceLeDiff, Nat.reduceLT, Nat.reduceBEq, Nat.reduceBNe, reduceCtorEq, Int.reduceBEq, Int.reduceBNe, Int.reduceLT, Int.reduceLE, Int.reduceEq, Int.reduceToNat, Int.reduceAdd, Int.reduceSub, Int.reduceNeg, A3, hl0, hR]
  · have h0 : wf (s.drop k) ≠ 0 := by simpa using h0
    simp +contextual only [vq, vc, ve, vv, vn, vl, ↓reduceIte, Nat.reduceEqDiff, Nat.reduceAdd, Nat.reduceMul, Nat.reduceSub, Nat.reduceLeDiff, Nat.reduceLT, Nat.reduceBEq, Nat.reduceBNe, reduceCtorEq, Int.reduceBEq, Int.reduceBNe, Int.reduceLT, Int.reduceLE, Int.reduceEq, Int.reduceToNat, Int.reduceAdd, Int.reduceSub, Int.reduceNeg, A3, wrap_of (show (k : Int) + (wf (s.drop k) : Int) = ((k + wf (s.drop k) : Nat) : Int) by omega) (by omega)]
    refine again2 hJ (s.length - (k + wf (s.drop k))) (by omega) ⟨k + wf (s.drop k), _, rfl, rfl, by omega, by simp +contextual only [vq, vc, ve, vv, vn, vl, ↓reduceIte, Nat.reduceEqDiff, Nat.reduceAdd, Nat.reduceMul, Nat.reduceSub, Nat.reduceLeDiff, Nat.reduceLT, Nat.reduceBEq, Nat.reduceBNe, reduceCtorEq, Int.reduceBEq, Int.reduceBNe, Int.reduceLT, Int.reduceLE, Int.reduceEq, Int.reduceToNat, Int.reduceAdd, Int.reduceSub, Int.reduceNeg, A0], by simp +contextual only [vq, vc, ve, vv, vn, vl, ↓reduceIte, Nat.reduceEqDiff, Nat.reduceAdd, Nat.reduceMul, Nat.reduceSub, Nat.reduceLeDiff, Nat.reduceLT, Nat.reduceBEq, Nat.reduceBNe, reduceCtorEq, Int.reduceBEq, Int.reduceBNe, Int.reduceLT, Int.reduceLE, Int.reduceEq, Int.reduceToNat, Int.reduceAdd, Int.reduceSub, Int.reduceNeg], ?_⟩
    rw [← hR]
    obtain ⟨f, hf⟩ : ∃ f, s.length = f + 1 := ⟨s.length - 1, by omega⟩
    have e1 : good s.length (s.drop k) = wf (s.drop k) + good f ((s.drop k).drop (wf (s.drop k))) := by rw [hf]; exact good_next h0
    rw [e1, List.drop_drop]
    have e2 : good s.length (s.drop (k + wf (s.drop k))) = good f (s.drop (k + wf (s.drop k))) := good_fuel (by rw [List.length_drop]; omega) (by rw [List.length_drop]; omega)
    omega
end Go.Proofs.YtmjoaiccbghijaaGreatDoor.paramAgain

namespace Go.Proofs.YtmjoaiccbghijaaGreatDoor.paramAgain
open Go.Ev hiding Comes
variable [GG]

/-- A value's byte that may stand. -/
def okB (w : Bool) (b : UInt8) : Bool := isF 14 b.toNat && w || isF 8 b.toNat
/-- Where a value is wrong; -1: nowhere. -/
def badV (w : Bool) (s : List UInt8) : Int :=
  if s = [] then 0 else if (s.takeWhile (okB w)).length < s.length then (s.takeWhile (okB w)).length
  else if good s.length s < s.length then good s.length s else -1
theorem badV_at {w : Bool} {s : List UInt8} {i : Nat} (hi : i < s.length) (hall : ∀ x ∈ s.take i, okB w x = true) (hb : okB w s[i] = false) : badV w s = i := by
  have e := tw_at hall (List.getElem?_eq_getElem hi) hb
  have h0 : s ≠ [] := by rintro rfl; simp at hi
  rw [badV, if_neg h0, if_pos (by omega), e]
theorem badV_on {w : Bool} {s : List UInt8} (h0 : s ≠ []) (hall : ∀ x ∈ s, okB w x = true) : badV w s = if good s.length s < s.length then (good s.length s : Int) else -1 := by
  rw [badV, if_neg h0, if_neg (by rw [tw_end hall]; omega)]

theorem c_param_badValue (m : Mem) (s : List UInt8) (w : Bool) (hN : s.length ≤ 1000000000000) : Go.Ev.Comes T G f_param_badValue [.str s, .bool w] m none ⟨.val (.int .i64 (badV w s)), m, none⟩ := by
  refine comes2 T_param_badValue rfl fun M hg hlen hlow => ?_
  have hl : m.bl.length ≤ M.low := by omega
  simp only [F_param_badValue]
  simp +contextual only [vq, vc, ve, vv, vn, vl, ↓reduceIte, Nat.reduceEqDiff, Nat.reduceAdd, Nat.reduceMul, Nat.reduceSub, Nat.reduceLeDiff, Nat.reduceLT, Nat.reduceBEq, Nat.reduceBNe, reduceCtorEq, Int.reduceBEq, Int.reduceBNe, Int.reduceLT, Int.reduceLE, Int.reduceEq, Int.reduceToNat, Int.reduceAdd, Int.reduceSub, Int.reduceNeg]
  refine br2_mk (fun h => ?_) (fun h => ?_)
  · have h0 : s = [] := by simpa using h
    have hv : badV w s = 0 := if_pos h0
    simp +contextual only [vq, vc, ve, vv, vn, vl, ↓reduceIte, Nat.reduceEqDiff, Nat.reduceAdd, Nat.reduceMul, Nat.reduceSub, Nat.reduceLeDiff, Nat.reduceLT, Nat.reduceBEq, Nat.reduceBNe, reduceCtorEq, Int.reduceBEq, Int.reduceBNe, Int.reduceLT, Int.reduceLE, Int.reduceEq, Int.reduceToNat, Int.reduceAdd, Int.reduceSub, Int.reduceNeg, hv, hl]
  have h0 : s ≠ [] := by simpa using h
  simp +contextual only [vq, vc, ve, vv, vn, vl, ↓reduceIte, Nat.reduceEqDiff, Nat.reduceAdd, Nat.reduceMul, Nat.reduceSub, Nat.reduceLeDiff, Nat.reduceLT, Nat.reduceBEq, Nat.reduceBNe, reduceCtorEq, Int.reduceBEq, Int.reduceBNe, Int.reduceLT, Int.reduceLE, Int.reduceEq, Int.reduceToNat, Int.reduceAdd, Int.reduceSub, Int.reduceNeg]
  refine loop2 (fun n st => ∃ i A, st = ⟨A, M, [], none⟩ ∧ n = s.length - i ∧ i ≤ s.length ∧ A 0 = .str s ∧ A 1 = .bool w ∧ A 10 = .int .i64 s.length ∧ A 11 = .int .i64 i ∧ ∀ x ∈ s.take i, okB w x = true) s.length ⟨0, _, rfl, by omega, by omega, by simp +contextual only [vq, vc, ve, vv, vn, vl, ↓reduceIte, Nat.reduceEqDiff, Nat.reduceAdd, Nat.reduceMul, Nat.reduceSub, Nat.reduceLeDiff, Nat.reduceLT, Nat.reduceBEq, Nat.reduceBNe, reduceCtorEq, Int.reduceBEq, Int.reduceBNe, Int.reduceLT, Int.reduceLE, Int.reduceEq, Int.reduceToNat, Int.reduceAdd, Int.reduceSub, Int.reduceNeg], by simp +contextual only [vq, vc, ve, vv, vn, vl, ↓reduceIte, Nat.reduceEqDiff, Nat.reduceAdd, Nat.reduceMul, Nat.reduceSub, Nat.reduceLeDiff, Nat.reduceLT, Nat.reduceBEq, Nat.reduceBNe, reduceCtorEq, Int.reduceBEq, Int.reduceBNe, Int.reduceLT, Int.reduceLE, Int.reduceEq, Int.reduceToNat, Int.reduceAdd, Int.reduceSub, Int.reduceNeg], by simp +contextual only [vq, vc, ve, vv, vn, vl, ↓reduceIte, Nat.reduceEqDiff, Nat.reduceAdd, Nat.reduceMul, Nat.reduceSub, Nat.reduceLeDiff, Nat.reduceLT, Nat.reduceBEq, Nat.reduceBNe, reduceCtorEq, Int.reduceBEq, Int.reduceBNe, Int.reduceLT, Int.reduceLE, Int.reduceEq, Int.reduceToNat, Int.reduceAdd, Int.reduceSub, Int.reduceNeg], by simp +contextual only [vq, vc, ve, vv, vn, vl, ↓reduceIte, Nat.reduceEqDiff, Nat.reduceAdd, Nat.reduceMul, Nat.reduceSub, Nat.reduceLeDiff, Nat.reduceLT, Nat.reduceBEq, Nat.reduceBNe, reduceCtorEq, Int.reduceBEq, Int.reduceBNe, Int.reduceLT, Int.reduceLE, Int.reduceEq, Int.reduceToNat, Int.reduceAdd, Int.reduceSub, Int.reduceNeg]; rfl, by simp⟩ fun J hJ n st hI => ?_
  obtain ⟨i, A, rfl, rfl, hi, A0, A1, A10, A11, hall⟩ := hI
  simp +contextual only [vq, vc, ve, vv, vn, vl, ↓reduceIte, Nat.reduceEqDiff, Nat.reduceAdd, Nat.reduceMul, Nat.reduceSub, Nat.reduceLeDiff, Nat.reduceLT, Nat.reduceBEq, Nat.reduceBNe, reduceCtorEq, Int.reduceBEq, Int.reduceBNe, Int.reduceLT, Int.reduceLE, Int.reduceEq, Int.reduceToNat, Int.reduceAdd, Int.reduceSub, Int.reduceNeg, A10, A11]
  refine br2_dec (fun hlt => ?_) (fun hge => ?_)
  · have hb : s[i]? = some s[i] := List.getElem?_eq_getElem hlt
    have hw : IntKind.i64.wrap ((i : Int) + 1) = ((i + 1 : Nat) : Int) := wrap_of (by omega) (by omega)
    simp +contextual only [vq, vc, ve, vv, vn, vl, ↓reduceIte, Nat.reduceEqDiff, Nat.reduceAdd, Nat.reduceMul, Nat.reduceSub, Nat.reduceLeDiff, Nat.reduceLT, Nat.reduceBEq, Nat.reduceBNe, reduceCtorEq, Int.reduceBEq, Int.reduceBNe, Int.reduceLT, Int.reduceLE, Int.reduceEq, Int.reduceToNat, Int.reduceAdd, Int.reduceSub, Int.reduceNeg, A0, A1, A11, hb, callR_val (c_octet_Is _ _ _)]
    refine br2_mk (fun hk => ?_) (fun hk => ?_)
    · simp +contextual only [vq, vc, ve, vv, vn, vl, ↓reduceIte, Nat.reduceEqDiff, Nat.reduceAdd, Nat.reduceMul, Nat.reduceSub, Nat.reduceLeDiff, Nat.reduceLT, Nat.reduceBEq, Nat.reduceBNe, reduceCtorEq, Int.reduceBEq, Int.reduceBNe, Int.reduceLT, Int.reduceLE, Int.reduceEq, Int.reduceToNat, Int.reduceAdd, Int.reduceSub, Int.reduceNeg, A11, hw]
      exact again2 hJ (s.length - (i + 1)) (by omega) ⟨i + 1, _, rfl, rfl, by omega, by simp +contextual only [vq, vc, ve, vv, vn, vl, ↓reduceIte, Nat.reduceEqDiff, Nat.reduceAdd, Nat.reduceMul, Nat.reduceSub, Nat.reduceLeDiff, Nat.reduceLT, Nat.reduceBEq, Nat.reduceBNe, reduceCtorEq, Int.reduceBEq, Int.reduceBNe, Int.reduceLT, Int.reduceLE, Int.reduceEq, Int.reduceToNat, Int.reduceAdd, Int.reduceSub, Int.reduceNeg, A0], by simp +contextual only [vq, vc, ve, vv, vn, vl, ↓reduceIte, Nat.reduceEqDiff, Nat.reduceAdd, Nat.reduceMul, Nat.reduceSub, Nat.reduceLeDiff, Nat.reduceLT, Nat.reduceBEq, Nat.reduceBNe, reduceCtorEq, Int.reduceBEq, Int.reduceBNe, Int.reduceLT, Int.reduceLE, Int.reduceEq, Int.reduceToNat, Int.reduceAdd, Int.reduceSub, Int.reduceNeg, A1], by simp +contextual only [vq, vc, ve, vv, vn, vl, ↓reduceIte, Nat.reduceEqDiff, Nat.reduceAdd, Nat.reduceMul, Nat.reduceSub, Nat.reduceLeDiff, Nat.reduceLT, Nat.reduceBEq, Nat.reduceBNe, reduceCtorEq, Int.reduceBEq, Int.reduceBNe, Int.reduceLT, Int.reduceLE, Int.reduceEq, Int.reduceToNat, Int.reduceAdd, Int.reduceSub, Int.reduceNeg, A10], by simp +contextual only [vq, vc, ve, vv, vn, vl, ↓reduceIte, Nat.reduceEqDiff, Nat.reduceAdd, Nat.reduceMul, Nat.reduceSub, Nat.reduceLeDiff, Nat.reduceLT, Nat.reduceBEq, Nat.reduceBNe, reduceCtorEq, Int.reduceBEq, Int.reduceBNe, Int.reduceLT, Int.reduceLE, Int.reduceEq, Int.reduceToNat, Int.reduceAdd, Int.reduceSub, Int.reduceNeg], take_next hlt hall hk⟩
    · simp +contextual only [vq, vc, ve, vv, vn, vl, ↓reduceIte, Nat.reduceEqDiff, Nat.reduceAdd, Nat.reduceMul, Nat.reduceSub, Nat.reduceLeDiff, Nat.reduceLT, Nat.reduceBEq, Nat.reduceBNe, reduceCtorEq, Int.reduceBEq, Int.reduceBNe, Int.reduceLT, Int.reduceLE, Int.reduceEq, Int.reduceToNat, Int.reduceAdd, Int.reduceSub, Int.reduceNeg, A11, hl, badV_at hlt hall hk]
  · have he : i = s.length := by omega
    subst he
    rw [List.take_length] at hall
    simp +contextual only [vq, vc, ve, vv, vn, vl, ↓reduceIte, Nat.reduceEqDiff, Nat.reduceAdd, Nat.reduceMul, Nat.reduceSub, Nat.reduceLeDiff, Nat.reduceLT, Nat.reduceBEq, Nat.reduceBNe, reduceCtorEq, Int.reduceBEq, Int.reduceBNe, Int.reduceLT, Int.reduceLE, Int.reduceEq, Int.reduceToNat, Int.reduceAdd, Int.reduceSub, Int.reduceNeg, A0, callR_val (c_runes_Bad_string _ _ hN)]
    refine br2_dec (fun hk => ?_) (fun hk => ?_)
    · simp +contextual only [vq, vc, ve, vv, vn, vl, ↓reduceIte, Nat.reduceEqDiff, Nat.reduceAdd, Nat.reduceMul, Nat.reduceSub, Nat.reduceLeDiff, Nat.reduceLT, Nat.reduceBEq, Nat.reduceBNe, reduceCtorEq, Int.reduceBEq, Int.reduceBNe, Int.reduceLT, Int.reduceLE, Int.reduceEq, Int.reduceToNat, Int.reduceAdd, Int.reduceSub, Int.reduceNeg, hl, badV_on h0 hall, hk]
    · simp +contextual only [vq, vc, ve, vv, vn, vl, ↓reduceIte, Nat.reduceEqDiff, Nat.reduceAdd, Nat.reduceMul, Nat.reduceSub, Nat.reduceLeDiff, Nat.reduceLT, Nat.reduceBEq, Nat.reduceBNe, reduceCtorEq, Int.reduceBEq, Int.reduceBNe, Int.reduceLT, Int.reduceLE, Int.reduceEq, Int.reduceToNat, Int.reduceAdd, Int.reduceSub, Int.reduceNeg, hl, badV_on h0 hall, hk]

theorem okR (w : Bool) (b : UInt8) : ((decide ((b.toNat : Int) < 128) && !isF 8 b.toNat) || (decide (128 ≤ (b.toNat : Int)) && !w)) = !okB w b := by
  have h : ∀ (w : Bool) (n : Fin 256), ((decide ((n.val : Int) < 128) && !isF 8 n.val) || (decide (128 ≤ (n.val : Int)) && !w)) = !(isF 14 n.val && w || isF 8 n.val) := by decide +kernel
  exact h w ⟨b.toNat, b.toNat_lt⟩

theorem c_r10_value (m : Mem) (s : List UInt8) (w : Bool) (hN : s.length ≤ 1000000000000) : Go.Ev.Comes T G f_r10_value [.str s, .bool w] m none ⟨.val (.int .i64 (badV w s)), m, none⟩ := by
  have c8 := fun m b => c_r01_Is m 8 b (by omega)
  refine comes2 T_r10_value rfl fun M hg hlen hlow => ?_
  have hl : m.bl.length ≤ M.low := by omega
  simp only [F_r10_value]
  simp +contextual only [vq, vc, ve, vv, vn, vl, ↓reduceIte, Nat.reduceEqDiff, Nat.reduceAdd, Nat.reduceMul, Nat.reduceSub, Nat.reduceLeDiff, Nat.reduceLT, Nat.reduceBEq, Nat.reduceBNe, reduceCtorEq, Int.reduceBEq, Int.reduceBNe, Int.reduceLT, Int.reduceLE, Int.reduceEq, Int.reduceToNat, Int.reduceAdd, Int.reduceSub, Int.reduceNeg]
  refine br2_mk (fun h => ?_) (fun h => ?_)
  · have h0 : s = [] := by simpa using h
    have hv : badV w s = 0 := if_pos h0
    simp +contextual only [vq, vc, ve, vv, vn, vl, ↓reduceIte, Nat.reduceEqDiff, Nat.reduceAdd, Nat.reduceMul, Nat.reduceSub, Nat.reduceLeDiff, Nat.reduceLT, Nat.reduceBEq, Nat.reduceBNe, reduceCtorEq, Int.reduceBEq, Int.reduceBNe, Int.reduceLT, Int.reduceLE, Int.reduceEq, Int.reduceToNat, Int.reduceAdd, Int.reduceSub, Int.reduceNeg, hv, hl]
  have h0 : s ≠ [] := by simpa using h
  simp +contextual only [vq, vc, ve, vv, vn, vl, ↓reduceIte, Nat.reduceEqDiff, Nat.reduceAdd, Nat.reduceMul, Nat.reduceSub, Nat.reduceLeDiff, Nat.reduceLT, Nat.reduceBEq, Nat.reduceBNe, reduceCtorEq, Int.reduceBEq, Int.reduceBNe, Int.reduceLT, Int.reduceLE, Int.reduceEq, Int.reduceToNat, Int.reduceAdd, Int.reduceSub, Int.reduceNeg]
  refine loop2 (fun n st => ∃ i A, st = ⟨A, M, [], none⟩ ∧ n = s.length - i ∧ i ≤ s.length ∧ A 0 = .str s ∧ A 1 = .bool w ∧ A 5 = .int .i64 i ∧ ∀ x ∈ s.take i, okB w x = true) s.length ⟨0, _, rfl, by omega, by omega, by simp +contextual only [vq, vc, ve, vv, vn, vl, ↓reduceIte, Nat.reduceEqDiff, Nat.reduceAdd, Nat.reduceMul, Nat.reduceSub, Nat.reduceLeDiff, Nat.reduceLT, Nat.reduceBEq, Nat.reduceBNe, reduceCtorEq, Int.reduceBEq, Int.reduceBNe, Int.reduceLT, Int.reduceLE, Int.reduceEq, Int.reduceToNat, Int.reduceAdd, Int.reduceSub, Int.reduceNeg], by simp +contextual only [vq, vc, ve, vv, vn, vl, ↓reduceIte, Nat.reduceEqDiff, Nat.reduceAdd, Nat.reduceMul, Nat.reduceSub, Nat.reduceLeDiff, Nat.reduceLT, Nat.reduceBEq, Nat.reduceBNe, reduceCtorEq, Int.reduceBEq, Int.reduceBNe, Int.reduceLT, Int.reduceLE, Int.reduceEq, Int.reduceToNat, Int.reduceAdd, Int.reduceSub, Int.reduceNeg], by simp +contextual only [vq, vc, ve, vv, vn, vl, ↓reduceIte, Nat.reduceEqDiff, Nat.reduceAdd, Nat.reduceMul, Nat.reduceSub, Nat.reduceLeDiff, Nat.reduceLT, Nat.reduceBEq, Nat.reduceBNe, reduceCtorEq, Int.reduceBEq, Int.reduceBNe, Int.reduceLT, Int.reduceLE, Int.reduceEq, Int.reduceToNat, Int.reduceAdd, Int.reduceSub, Int.reduceNeg]; rfl, by simp⟩ fun J hJ n st hI => ?_
  obtain ⟨i, A, rfl, rfl, hi, A0, A1, A5, hall⟩ := hI
  simp +contextual only [vq, vc, ve, vv, vn, vl, ↓reduceIte, Nat.reduceEqDiff, Nat.reduceAdd, Nat.reduceMul, Nat.reduceSub, Nat.reduceLeDiff, Nat.reduceLT, Nat.reduceBEq, Nat.reduceBNe, reduceCtorEq, Int.reduceBEq, Int.reduceBNe, Int.reduceLT, Int.reduceLE, Int.reduceEq, Int.reduceToNat, Int.reduceAdd, Int.reduceSub, Int.reduceNeg, A0, A5]
  refine br2_dec (fun hlt => ?_) (fun hge => ?_)
  · have hb : s[i]? = some s[i] := List.getElem?_eq_getElem hlt
    have hw : IntKind.i64.wrap ((i : Int) + 1) = ((i + 1 : Nat) : Int) := wrap_of (by omega) (by omega)
    simp +contextual only [vq, vc, ve, vv, vn, vl, ↓reduceIte, Nat.reduceEqDiff, Nat.reduceAdd, Nat.reduceMul, Nat.reduceSub, Nat.reduceLeDiff, Nat.reduceLT, Nat.reduceBEq, Nat.reduceBNe, reduceCtorEq, Int.reduceBEq, Int.reduceBNe, Int.reduceLT, Int.reduceLE, Int.reduceEq, Int.reduceToNat, Int.reduceAdd, Int.reduceSub, Int.reduceNeg, A0, A1, A5, hb, callR_val (c8 _ _), okR]
    refine br2_mk (fun hk => ?_) (fun hk => ?_)
    · have hk : okB w s[i] = false := by simpa using hk
      simp +contextual only [vq, vc, ve, vv, vn, vl, ↓reduceIte, Nat.reduceEqDiff, Nat.reduceAdd, Nat.reduceMul, Nat.reduceSub, Nat.reduceLeDiff, Nat.reduceLT, Nat.reduceBEq, Nat.reduceBNe, reduceCtorEq, Int.reduceBEq, Int.reduceBNe, Int.reduceLT, Int.reduceLE, Int.reduceEq, Int.reduceToNat, Int.reduceAdd, Int.reduceSub, Int.reduceNeg, A5, hl, badV_at hlt hall hk]
    · have hk : okB w s[i] = true := by simpa using hk
      simp +contextual only [vq, vc, ve, vv, vn, vl, ↓reduceIte, Nat.reduceEqDiff, Nat.reduceAdd, Nat.reduceMul, Nat.reduceSub, Nat.reduceLeDiff, Nat.reduceLT, Nat.reduceBEq, Nat.reduceBNe, reduceCtorEq, Int.reduceBEq, Int.reduceBNe, Int.reduceLT, Int.reduceLE, Int.reduceEq, Int.reduceToNat, Int.reduceAdd, Int.reduceSub, Int.reduceNeg, A5, hw]
      exact again2 hJ (s.length - (i + 1)) (by omega) ⟨i + 1, _, rfl, rfl, by omega, by simp +contextual only [vq, vc, ve, vv, vn, vl, ↓reduceIte, Nat.reduceEqDiff, Nat.reduceAdd, Nat.reduceMul, Nat.reduceSub, Nat.reduceLeDiff, Nat.reduceLT, Nat.reduceBEq, Nat.reduceBNe, reduceCtorEq, Int.reduceBEq, Int.reduceBNe, Int.reduceLT, Int.reduceLE, Int.reduceEq, Int.reduceToNat, Int.reduceAdd, Int.reduceSub, Int.reduceNeg, A0], by simp +contextual only [vq, vc, ve, vv, vn, vl, ↓reduceIte, Nat.reduceEqDiff, Nat.reduceAdd, Nat.reduceMul, Nat.reduceSub, Nat.reduceLeDiff, Nat.reduceLT, Nat.reduceBEq, Nat.reduceBNe, reduceCtorEq, Int.reduceBEq, Int.reduceBNe, Int.reduceLT, Int.reduceLE, Int.reduceEq, Int.reduceToNat, Int.reduceAdd, Int.reduceSub, Int.reduceNeg, A1], by simp +contextual only [vq, vc, ve, vv, vn, vl, ↓reduceIte, Nat.reduceEqDiff, Nat.reduceAdd, Nat.reduceMul, Nat.reduceSub, Nat.reduceLeDiff, Nat.reduceLT, Nat.reduceBEq, Nat.reduceBNe, reduceCtorEq, Int.reduceBEq, Int.reduceBNe, Int.reduceLT, Int.reduceLE, Int.reduceEq, Int.reduceToNat, Int.reduceAdd, Int.reduceSub, Int.reduceNeg], take_next hlt hall hk⟩
  · have he : i = s.length := by omega
    subst he
    rw [List.take_length] at hall
    simp +contextual only [vq, vc, ve, vv, vn, vl, ↓reduceIte, Nat.reduceEqDiff, Nat.reduceAdd, Nat.reduceMul, Nat.reduceSub, Nat.reduceLeDiff, Nat.reduceLT, Nat.reduceBEq, Nat.reduceBNe, reduceCtorEq, Int.reduceBEq, Int.reduceBNe, Int.reduceLT, Int.reduceLE, Int.reduceEq, Int.reduceToNat, Int.reduceAdd, Int.reduceSub, Int.reduceNeg, A0]
    refine new_mk fun M2 e2 => ?_
    have g2 : M2.getN G ⟨.mem M.bl.length 0, 0⟩ s.length = some (bytesE s) := by rw [e2]; exact getN_row (row_push _ _) (sub_all bytes_len)
    have hl2 : m.bl.length ≤ M2.low := by rw [e2]; exact hl
    have ho : oldAd M2.bl.length ⟨.mem M.bl.length 0, 0⟩ = true := by rw [e2]; simp [oldAd, Mem.push]
    simp +contextual only [vq, vc, ve, vv, vn, vl, ↓reduceIte, Nat.reduceEqDiff, Nat.reduceAdd, Nat.reduceMul, Nat.reduceSub, Nat.reduceLeDiff, Nat.reduceLT, Nat.reduceBEq, Nat.reduceBNe, reduceCtorEq, Int.reduceBEq, Int.reduceBNe, Int.reduceLT, Int.reduceLE, Int.reduceEq, Int.reduceToNat, Int.reduceAdd, Int.reduceSub, Int.reduceNeg, callR_val (c_r05_Bad M2 s _ _ hN (Nat.le_refl _) g2 ho), A0]
    refine br2_dec (fun hk => ?_) (fun hk => ?_)
    · simp +contextual only [vq, vc, ve, vv, vn, vl, ↓reduceIte, Nat.reduceEqDiff, Nat.reduceAdd, Nat.reduceMul, Nat.reduceSub, Nat.reduceLeDiff, Nat.reduceLT, Nat.reduceBEq, Nat.reduceBNe, reduceCtorEq, Int.reduceBEq, Int.reduceBNe, Int.reduceLT, Int.reduceLE, Int.reduceEq, Int.reduceToNat, Int.reduceAdd, Int.reduceSub, Int.reduceNeg, hl2, badV_on h0 hall, hk]
    · simp +contextual only [vq, vc, ve, vv, vn, vl, ↓reduceIte, Nat.reduceEqDiff, Nat.reduceAdd, Nat.reduceMul, Nat.reduceSub, Nat.reduceLeDiff, Nat.reduceLT, Nat.reduceBEq, Nat.reduceBNe, reduceCtorEq, Int.reduceBEq, Int.reduceBNe, Int.reduceLT, Int.reduceLE, Int.reduceEq, Int.reduceToNat, Int.reduceAdd, Int.reduceSub, Int.reduceNeg, hl2, badV_on h0 hall, hk]
end Go.Proofs.YtmjoaiccbghijaaGreatDoor.paramAgain

namespace Go.Proofs.YtmjoaiccbghijaaGreatDoor.paramAgain
open Go.Ev hiding Comes
variable [GG]

/-- A parameter. -/
structure Par where
  name : List UInt8
  value : List UInt8
  has : Bool
  deriving DecidableEq
def parE (p : Par) : List EV := [.str p.name, .str p.value, .bool p.has]
theorem par_len {l : List Par} : ∀ r ∈ l.map parE, r.length = 3 := by
  intro r hr
  obtain ⟨p, _, rfl⟩ := List.mem_map.1 hr
  rfl
def Pars (G : Globs) (m : Mem) (v : EV) (l : List Par) : Prop := RowsAt G m 3 v (l.map parE)
theorem Pars.at {m : Mem} {v : EV} {l : List Par} (h : Pars G m v l) {i : Nat} (hi : i < l.length) : ∃ a cap, v = .slice (some a) l.length cap 3 ∧ l.length ≤ cap ∧ m.getN G (a.plus (i * 3)) 3 = some (parE l[i]) ∧ oldAd m.bl.length a = true := by
  obtain ⟨a, cap, h1, h2, h3, h4⟩ := RowsAt.at h (i := i) (by simpa using hi)
  simp only [List.length_map, List.getElem_map] at h1 h2 h3
  exact ⟨a, cap, h1, h2, h3, h4⟩
theorem Pars.slice {m : Mem} {v : EV} {l : List Par} (h : Pars G m v l) : ∃ a c e, v = .slice a l.length c e := by
  obtain ⟨a, c, e, h⟩ := RowsAt.slice h
  rw [List.length_map] at h
  exact ⟨a, c, e, h⟩
theorem Pars.grown {m M : Mem} (hg : Grown m M) {v : EV} {l : List Par} (h : Pars G m v l) : Pars G M v l := RowsAt.grown hg h
theorem par_eq (p q : Par) : eqCells [3, 3, 1] (parE p) (parE q) = some (decide (p = q)) := by
  have : decide (p = q) = ((p.name == q.name) && ((p.value == q.value) && ((p.has == q.has) && true))) := by
    rw [Bool.eq_iff_iff]
    cases p; cases q
    simp [Par.mk.injEq]
  rw [this]
  rfl

def tilde : Par := ⟨[126], [], false⟩
def LentP (m : Mem) (n0 n1 : Nat) (v : EV) (l : List Par) : Prop := LentRows G m n0 n1 3 v (l.map parE) (parE tilde)
theorem LentP.pars {m : Mem} {n0 n1 : Nat} {v : EV} {l : List Par} (h : LentP m n0 n1 v l) (hn : n1 ≤ m.bl.length) : Pars G m v l := lent_rowsAt h hn par_len
end Go.Proofs.YtmjoaiccbghijaaGreatDoor.paramAgain

namespace Go.Proofs.YtmjoaiccbghijaaGreatDoor.paramAgain
open Go.Ev hiding Comes
variable [GG]

/-- What Parse tells of a text from a place on, behind the parameters that were read. -/
def parseS (w : Bool) (s : List UInt8) : Nat → Nat → List Par → List Par × Int × Int
  | 0, _, acc => (acc, 0, 0)
  | f + 1, i, acc =>
    if i < s.length then
      if s[i]? ≠ some 32 then ([], 100, i)
      else if acc.length = 16 then ([], 4, i)
      else if kwd (s.drop (i + 1)) = 0 then ([], 100, (i + 1 : Nat))
      else if s[i + 1 + kwd (s.drop (i + 1))]? = some 61 then
        if 0 ≤ badV w ((s.drop (i + 1 + kwd (s.drop (i + 1)) + 1)).take (til (s.drop (i + 1 + kwd (s.drop (i + 1)) + 1)))) then ([], 101, ((i + 1 + kwd (s.drop (i + 1)) + 1 : Nat) : Int) + badV w ((s.drop (i + 1 + kwd (s.drop (i + 1)) + 1)).take (til (s.drop (i + 1 + kwd (s.drop (i + 1)) + 1)))))
        else parseS w s f (i + 1 + kwd (s.drop (i + 1)) + 1 + til (s.drop (i + 1 + kwd (s.drop (i + 1)) + 1))) (acc ++ [⟨upS ((s.drop (i + 1)).take (kwd (s.drop (i + 1)))), (s.drop (i + 1 + kwd (s.drop (i + 1)) + 1)).take (til (s.drop (i + 1 + kwd (s.drop (i + 1)) + 1))), true⟩])
      else if i + 1 + kwd (s.drop (i + 1)) < s.length ∧ s[i + 1 + kwd (s.drop (i + 1))]? ≠ some 32 then ([], 100, (i + 1 + kwd (s.drop (i + 1)) : Nat))
      else parseS w s f (i + 1 + kwd (s.drop (i + 1))) (acc ++ [⟨upS ((s.drop (i + 1)).take (kwd (s.drop (i + 1)))), [], false⟩])
    else (acc, 0, 0)
theorem parseS_at {w : Bool} {s : List UInt8} {f i n : Nat} {acc : List Par} (hi : i < s.length) (h32 : s[i] = 32) (h16 : acc.length ≠ 16) (hn : kwd (s.drop (i + 1)) = n) (h0 : n ≠ 0) :
    parseS w s (f + 1) i acc = if s[i + 1 + n]? = some 61 then
        if 0 ≤ badV w ((s.drop (i + 1 + n + 1)).take (til (s.drop (i + 1 + n + 1)))) then ([], 101, ((i + 1 + n + 1 : Nat) : Int) + badV w ((s.drop (i + 1 + n + 1)).take (til (s.drop (i + 1 + n + 1)))))
        else parseS w s f (i + 1 + n + 1 + til (s.drop (i + 1 + n + 1))) (acc ++ [⟨upS ((s.drop (i + 1)).take n), (s.drop (i + 1 + n + 1)).take (til (s.drop (i + 1 + n + 1))), true⟩])
      else if i + 1 + n < s.length ∧ s[i + 1 + n]? ≠ some 32 then ([], 100, (i + 1 + n : Nat))
      else parseS w s f (i + 1 + n) (acc ++ [⟨upS ((s.drop (i + 1)).take n), [], false⟩]) := by
  subst hn
  rw [parseS, if_pos hi, if_neg (by rw [List.getElem?_eq_getElem hi, h32]; simp), if_neg h16, if_neg h0]
theorem badV_le (w : Bool) (s : List UInt8) : badV w s ≤ s.length := by
  unfold badV
  split
  · omega
  · split
    · omega
    · split
      · omega
      · omega
/-- What a Parse leaves. -/
def ParseR (m : Mem) (w : Bool) (s : List UInt8) (r : CR) : Prop := ∃ v m' k, r = ⟨.val (.tuple [v, .agg [.int .i64 (parseS w s (s.length + 1) 0 []).2.1, .int .i64 (parseS w s (s.length + 1) 0 []).2.2]]), m', none⟩ ∧ Grown m m' ∧ min m.low m.bl.length ≤ m'.low ∧ Priv k 3 0 m' v (((parseS w s (s.length + 1) 0 []).1.map parE).flatten) (parseS w s (s.length + 1) 0 []).1.length ∧ ∀ j, k = some j → m.bl.length ≤ j
theorem c_param_Parse_1 (m : Mem) (a b : Int) : Go.Ev.Comes T G f_param_Parse_1 [.int .i64 a, .int .i64 b] m none ⟨.val (.tuple [.slice none 0 0 0, .agg [.int .i64 a, .int .i64 b]]), m, none⟩ := by
  refine comes2 T_param_Parse_1 rfl fun M hg hlen hlow => ?_
  have hl0 : m.bl.length ≤ M.low := by omega
  simp only [F_param_Parse_1]
  simp +contextual only [vq, vc, ve, vv, vn, vl, ↓reduceIte, Nat.reduceEqDiff, Nat.reduceAdd, Nat.reduceMul, Nat.reduceSub, Nat.reduceLeDiff, Nat.reduceLT, Nat.reduceBEq, Nat.reduceBNe, reduceCtorEq, Int.reduceBEq, Int.reduceBNe, Int.reduceLT, Int.reduceLE, Int.reduceEq, Int.reduceToNat, Int.reduceAdd, Int.reduceSub, Int.reduceNeg]
  refine new_mk fun M1 e1 => ?_
  have R : RowIs M1 M.bl.length [.int .i64 0, .int .i64 0] := by rw [e1]; exact row_push _ _
  obtain ⟨M2, w1, w2, w3, w4⟩ := putN_row (off := 0) (vs := [.int .i64 a, .int .i64 b]) R (by simp)
  have w2 : RowIs M2 M.bl.length [.int .i64 a, .int .i64 b] := w2
  have l1 : M1.low = M.low := by rw [e1]; rfl
  have l2 : m.bl.length ≤ M2.low := by omega
  simp +contextual only [vq, vc, ve, vv, vn, vl, ↓reduceIte, Nat.reduceEqDiff, Nat.reduceAdd, Nat.reduceMul, Nat.reduceSub, Nat.reduceLeDiff, Nat.reduceLT, Nat.reduceBEq, Nat.reduceBNe, reduceCtorEq, Int.reduceBEq, Int.reduceBNe, Int.reduceLT, Int.reduceLE, Int.reduceEq, Int.reduceToNat, Int.reduceAdd, Int.reduceSub, Int.reduceNeg, w1, w2.getN (G := G), l2]
end Go.Proofs.YtmjoaiccbghijaaGreatDoor.paramAgain

namespace Go.Proofs.YtmjoaiccbghijaaGreatDoor.paramAgain
open Go.Ev hiding Comes
variable [GG]

theorem c_param_Parse (m : Mem) (s : List UInt8) (w : Bool) (hs : s.length ≤ 100000000) : ∃ r, Go.Ev.Comes T G f_param_Parse [.str s, .bool w] m none r ∧ ParseR m w s r := by
  refine comes2P T_param_Parse rfl fun M hg hlen hlow => ?_
  have hl0 : m.bl.length ≤ M.low := by omega
  simp only [F_param_Parse]
  simp +contextual only [vq, vc, ve, vv, vn, vl, ↓reduceIte, Nat.reduceEqDiff, Nat.reduceAdd, Nat.reduceMul, Nat.reduceSub, Nat.reduceLeDiff, Nat.reduceLT, Nat.reduceBEq, Nat.reduceBNe, reduceCtorEq, Int.reduceBEq, Int.reduceBNe, Int.reduceLT, Int.reduceLE, Int.reduceEq, Int.reduceToNat, Int.reduceAdd, Int.reduceSub, Int.reduceNeg]
  refine new_mk fun M1 e1 => ?_
  have R1 : RowIs M1 M.bl.length [.int .i64 0, .int .i64 0] := by rw [e1]; exact row_push _ _
  have g1 : Grown M M1 := by rw [e1]; exact Grown.rfl'.push
  have l1 : m.bl.length ≤ M1.low := by rw [e1]; exact hl0
  have b1 : M1.bl.length = M.bl.length + 1 := by rw [e1]; simp [Mem.push]
  simp +contextual only [vq, vc, ve, vv, vn, vl, ↓reduceIte, Nat.reduceEqDiff, Nat.reduceAdd, Nat.reduceMul, Nat.reduceSub, Nat.reduceLeDiff, Nat.reduceLT, Nat.reduceBEq, Nat.reduceBNe, reduceCtorEq, Int.reduceBEq, Int.reduceBNe, Int.reduceLT, Int.reduceLE, Int.reduceEq, Int.reduceToNat, Int.reduceAdd, Int.reduceSub, Int.reduceNeg]
  refine loop2 (fun q st => ∃ (f i : Nat) (acc : List Par) (k : Option Nat) (v : EV) (A : Fr) (N : Mem), st = ⟨A, N, [], none⟩ ∧ q = s.length - i ∧ s.length - i < f ∧ i ≤ s.length ∧ acc.length ≤ 16 ∧ parseS w s f i acc = parseS w s (s.length + 1) 0 [] ∧ A 0 = .str s ∧ A 1 = .bool w ∧ A 5 = .ptr (some ⟨.mem M.bl.length 0, 0⟩) ∧ A 6 = v ∧ A 7 = .int .i64 (i : Nat) ∧ Priv k 3 0 N v ((acc.map parE).flatten) acc.length ∧ (∀ j, k = some j → M1.bl.length ≤ j) ∧ Grown M1 N ∧ m.bl.length ≤ N.low) s.length ⟨s.length + 1, 0, [], none, _, _, M1, rfl, rfl, by omega, by omega, by simp, rfl, by simp +contextual only [vq, vc, ve, vv, vn, vl, ↓reduceIte, Nat.reduceEqDiff, Nat.reduceAdd, Nat.reduceMul, Nat.reduceSub, Nat.reduceLeDiff, Nat.reduceLT, Nat.reduceBEq, Nat.reduceBNe, reduceCtorEq, Int.reduceBEq, Int.reduceBNe, Int.reduceLT, Int.reduceLE, Int.reduceEq, Int.reduceToNat, Int.reduceAdd, Int.reduceSub, Int.reduceNeg], by simp +contextual only [vq, vc, ve, vv, vn, vl, ↓reduceIte, Nat.reduceEqDiff, Nat.reduceAdd, Nat.reduceMul, Nat.reduceSub, Nat.reduceLeDiff, Nat.reduceLT, Nat.reduceBEq, Nat.reduceBNe, reduceCtorEq, Int.reduceBEq, Int.reduceBNe, Int.reduceLT, Int.reduceLE, Int.reduceEq, Int.reduceToNat, Int.reduceAdd, Int.reduceSub, Int.reduceNeg], by simp +contextual only [vq, vc, ve, vv, vn, vl, ↓reduceIte, Nat.reduceEqDiff, Nat.reduceAdd, Nat.reduceMul, Nat.reduceSub, Nat.reduceLeDiff, Nat.reduceLT, Nat.reduceBEq, Nat.reduceBNe, reduceCtorEq, Int.reduceBEq, Int.reduceBNe, Int.reduceLT, Int.reduceLE, Int.reduceEq, Int.reduceToNat, Int.reduceAdd, Int.reduceSub, Int.reduceNeg], by simp +contextual only [vq, vc, ve, vv, vn, vl, ↓reduceIte, Nat.reduceEqDiff, Nat.reduceAdd, Nat.reduceMul, Nat.reduceSub, Nat.reduceLeDiff, Nat.reduceLT, Nat.reduceBEq, Nat.reduceBNe, reduceCtorEq, Int.reduceBEq, Int.reduceBNe, Int.reduceLT, Int.reduceLE, Int.reduceEq, Int.reduceToNat, Int.reduceAdd, Int.reduceSub, Int.reduceNeg], by simp +contextual only [vq, vc, ve, vv, vn, vl, ↓reduceIte, Nat.reduceEqDiff, Nat.reduceAdd, Nat.reduceMul, Nat.reduceSub, Nat.reduceLeDiff, Nat.reduceLT, Nat.reduceBEq, Nat.reduceBNe, reduceCtorEq, Int.reduceBEq, Int.reduceBNe, Int.reduceLT, Int.reduceLE, Int.reduceEq, Int.reduceToNat, Int.reduceAdd, Int.reduceSub, Int.reduceNeg]; rfl, Priv.nil, (fun _ h => by cases h), Grown.rfl', l1⟩ fun J hJ q st hI => ?_
  obtain ⟨f, i, acc, k, v, A, N, rfl, rfl, hf, hi, hac, hp, A0, A1, A5, A6, A7, hv, hk, hgN, hlN⟩ := hI
  obtain ⟨f, rfl⟩ : ∃ g, f = g + 1 := ⟨f - 1, by omega⟩
  obtain ⟨sa, sc, se, sv⟩ := hv.slice
  have lv : lnbE v = some (.int .i64 acc.length) := by rw [sv]; rfl
  have hle := hgN.le
  -- an end with an error
  have err : ∀ (K : Mem) (c a : Int), Grown M1 K → m.bl.length ≤ K.low → parseS w s (s.length + 1) 0 [] = ([], c, a) → ∃ K', K.putN ⟨.mem M.bl.length 0, 0⟩ [.int .i64 c, .int .i64 a] = some K' ∧ RowIs K' M.bl.length [.int .i64 c, .int .i64 a] ∧ ∀ (B : Fr), B 4 = .slice none 0 0 0 → B 5 = .ptr (some ⟨.mem M.bl.length 0, 0⟩) → postX G [.tmp 4, .cell 5 (some 2)] m (ParseR m w s) .ret ⟨B, K', [], none⟩ := fun K c a gK lK hpe => by
    obtain ⟨K', w1, w2, w3, w4⟩ := putN_row (off := 0) (vs := [.int .i64 c, .int .i64 a]) (R1.grown gK) (by simp)
    have w2 : RowIs K' M.bl.length [.int .i64 c, .int .i64 a] := w2
    refine ⟨K', w1, w2, fun B B4 B5 => ?_⟩
    have lw : m.bl.length ≤ K'.low := by omega
    exact postX_same (v := .tuple [.slice none 0 0 0, .agg [.int .i64 c, .int .i64 a]]) (by simp +contextual only [vq, vc, ve, vv, vn, vl, ↓reduceIte, Nat.reduceEqDiff, Nat.reduceAdd, Nat.reduceMul, Nat.reduceSub, Nat.reduceLeDiff, Nat.reduceLT, Nat.reduceBEq, Nat.reduceBNe, reduceCtorEq, Int.reduceBEq, Int.reduceBNe, Int.reduceLT, Int.reduceLE, Int.reduceEq, Int.reduceToNat, Int.reduceAdd, Int.reduceSub, Int.reduceNeg, w2.getN (G := G), B4, B5]) lw rfl (by
      unfold ParseR
      rw [hpe]
      exact ⟨_, m, none, rfl, Grown.rfl', by omega, Priv.nil, fun _ h => by cases h⟩)
  by_cases hlt : i < s.length
  · have u32 : ((s[i].toNat : Int) != 32) = (s[i] != 32) := by
      have := u8_eq s[i] 32
      simp only [bne]
      exact congrArg (! ·) this
    cases h32 : (s[i] != 32) with
    | true =>
      rw [h32] at u32
      have hpe : parseS w s (s.length + 1) 0 [] = ([], 100, (i : Int)) := by
        rw [← hp, parseS, if_pos hlt, if_pos (by rw [List.getElem?_eq_getElem hlt]; intro h; rw [Option.some.inj h] at h32; simp at h32)]
      obtain ⟨K', w1, w2, hend⟩ := err N 100 i hgN hlN hpe
      simp +contextual only [vq, vc, ve, vv, vn, vl, ↓reduceIte, Nat.reduceEqDiff, Nat.reduceAdd, Nat.reduceMul, Nat.reduceSub, Nat.reduceLeDiff, Nat.reduceLT, Nat.reduceBEq, Nat.reduceBNe, reduceCtorEq, Int.reduceBEq, Int.reduceBNe, Int.reduceLT, Int.reduceLE, Int.reduceEq, Int.reduceToNat, Int.reduceAdd, Int.reduceSub, Int.reduceNeg, A0, A7, hlt, get_byte hlt, u32, callR_val (c_param_Parse_1 N 100 i), A5, w1]
      exact hend _ (by simp +contextual only [vq, vc, ve, vv, vn, vl, ↓reduceIte, Nat.reduceEqDiff, Nat.reduceAdd, Nat.reduceMul, Nat.reduceSub, Nat.reduceLeDiff, Nat.reduceLT, Nat.reduceBEq, Nat.reduceBNe, reduceCtorEq, Int.reduceBEq, Int.reduceBNe, Int.reduceLT, Int.reduceLE, Int.reduceEq, Int.reduceToNat, Int.reduceAdd, Int.reduceSub, Int.reduceNeg]) (by simp +contextual only [vq, vc, ve, vv, vn, vl, ↓reduceIte, Nat.reduceEqDiff, Nat.reduceAdd, Nat.reduceMul, Nat.reduceSub, Nat.reduceLeDiff, Nat.reduceLT, Nat.reduceBEq, Nat.reduceBNe, reduceCtorEq, Int.reduceBEq, Int.reduceBNe, Int.reduceLT, Int.reduceLE, Int.reduceEq, Int.reduceToNat, Int.reduceAdd, Int.reduceSub, Int.reduceNeg, A5])
    | false =>
      rw [h32] at u32
      have hsp : s[i] = 32 := by simpa using h32
      by_cases h16 : acc.length = 16
      · have hpe : parseS w s (s.length + 1) 0 [] = ([], 4, (i : Int)) := by
          rw [← hp, parseS, if_pos hlt, if_neg (by rw [List.getElem?_eq_getElem hlt, hsp]; simp), if_pos h16]
        obtain ⟨K', w1, w2, hend⟩ := err N 4 i hgN hlN hpe
        have k16 : ((acc.length : Int) == 16) = true := beq_iff_eq.2 (by omega)
        simp +contextual only [vq, vc, ve, vv, vn, vl, ↓reduceIte, Nat.reduceEqDiff, Nat.reduceAdd, Nat.reduceMul, Nat.reduceSub, Nat.reduceLeDiff, Nat.reduceLT, Nat.reduceBEq, Nat.reduceBNe, reduceCtorEq, Int.reduceBEq, Int.reduceBNe, Int.reduceLT, Int.reduceLE, Int.reduceEq, Int.reduceToNat, Int.reduceAdd, Int.reduceSub, Int.reduceNeg, A0, A6, A7, hlt, get_byte hlt, u32, lv, k16, callR_val (c_param_Parse_1 N 4 i), A5, w1]
        exact hend _ (by simp +contextual only [vq, vc, ve, vv, vn, vl, ↓reduceIte, Nat.reduceEqDiff, Nat.reduceAdd, Nat.reduceMul, Nat.reduceSub, Nat.reduceLeDiff, Nat.reduceLT, Nat.reduceBEq, Nat.reduceBNe, reduceCtorEq, Int.reduceBEq, Int.reduceBNe, Int.reduceLT, Int.reduceLE, Int.reduceEq, Int.reduceToNat, Int.reduceAdd, Int.reduceSub, Int.reduceNeg]) (by simp +contextual only [vq, vc, ve, vv, vn, vl, ↓reduceIte, Nat.reduceEqDiff, Nat.reduceAdd, Nat.reduceMul, Nat.reduceSub, Nat.reduceLeDiff, Nat.reduceLT, Nat.reduceBEq, Nat.reduceBNe, reduceCtorEq, Int.reduceBEq, Int.reduceBNe, Int.reduceLT, Int.reduceLE, Int.reduceEq, Int.reduceToNat, Int.reduceAdd, Int.reduceSub, Int.reduceNeg, A5])
      · have k16 : ((acc.length : Int) == 16) = false := beq_eq_false_iff_ne.2 (by omega)
        have hi1 : i + 1 ≤ s.length := by omega
        have hkl := kwd_le (s.drop (i + 1))
        rw [List.length_drop] at hkl
        have hcK := c_param_keyword N (s.drop (i + 1)) (by simp; omega)
        by_cases hn0 : kwd (s.drop (i + 1)) = 0
        · have hpe : parseS w s (s.length + 1) 0 [] = ([], 100, ((i + 1 : Nat) : Int)) := by
            rw [← hp, parseS, if_pos hlt, if_neg (by rw [List.getElem?_eq_getElem hlt, hsp]; simp), if_neg h16, if_pos hn0]
          rw [hn0] at hcK
          obtain ⟨K', w1, w2, hend⟩ := err N 100 (i + 1 : Nat) hgN hlN hpe
          simp +contextual only [vq, vc, ve, vv, vn, vl, ↓reduceIte, Nat.reduceEqDiff, Nat.reduceAdd, Nat.reduceMul, Nat.reduceSub, Nat.reduceLeDiff, Nat.reduceLT, Nat.reduceBEq, Nat.reduceBNe, reduceCtorEq, Int.reduceBEq, Int.reduceBNe, Int.reduceLT, Int.reduceLE, Int.reduceEq, Int.reduceToNat, Int.reduceAdd, Int.reduceSub, Int.reduceNeg, A0, A6, A7, hlt, get_byte hlt, u32, lv, k16, wsucc hlt (by omega), hi1, callR_val hcK, callR_val (c_param_Parse_1 N 100 (i + 1 : Nat)), A5, w1]
          exact hend _ (by simp +contextual only [vq, vc, ve, vv, vn, vl, ↓reduceIte, Nat.reduceEqDiff, Nat.reduceAdd, Nat.reduceMul, Nat.reduceSub, Nat.reduceLeDiff, Nat.reduceLT, Nat.reduceBEq, Nat.reduceBNe, reduceCtorEq, Int.reduceBEq, Int.reduceBNe, Int.reduceLT, Int.reduceLE, Int.reduceEq, Int.reduceToNat, Int.reduceAdd, Int.reduceSub, Int.reduceNeg]) (by simp +contextual only [vq, vc, ve, vv, vn, vl, ↓reduceIte, Nat.reduceEqDiff, Nat.reduceAdd, Nat.reduceMul, Nat.reduceSub, Nat.reduceLeDiff, Nat.reduceLT, Nat.reduceBEq, Nat.reduceBNe, reduceCtorEq, Int.reduceBEq, Int.reduceBNe, Int.reduceLT, Int.reduceLE, Int.reduceEq, Int.reduceToNat, Int.reduceAdd, Int.reduceSub, Int.reduceNeg, A5])
        · obtain ⟨n, hn⟩ : ∃ n, kwd (s.drop (i + 1)) = n := ⟨_, rfl⟩
          rw [hn] at hcK hn0 hkl
          have hstep := parseS_at (w := w) (f := f) hlt hsp h16 hn hn0
          rw [hp] at hstep
          have kn : ((n : Int) == 0) = false := beq_eq_false_iff_ne.2 (by omega)
          have wn : IntKind.i64.wrap (((i + 1 : Nat) : Int) + (n : Int)) = ((i + 1 + n : Nat) : Int) := wrap_of (by omega) (by omega)
          have hi2 : i + 1 + n ≤ s.length := by omega
          have hi12 : i + 1 ≤ i + 1 + n := by omega
          have hin : i + 1 + n - (i + 1) = n := by omega
          have hU := c_octet_Upper N ((s.drop (i + 1)).take n) (by simp; omega)
          simp +contextual only [vq, vc, ve, vv, vn, vl, ↓reduceIte, Nat.reduceEqDiff, Nat.reduceAdd, Nat.reduceMul, Nat.reduceSub, Nat.reduceLeDiff, Nat.reduceLT, Nat.reduceBEq, Nat.reduceBNe, reduceCtorEq, Int.reduceBEq, Int.reduceBNe, Int.reduceLT, Int.reduceLE, Int.reduceEq, Int.reduceToNat, Int.reduceAdd, Int.reduceSub, Int.reduceNeg, A0, A6, A7, hlt, get_byte hlt, u32, lv, k16, wsucc hlt (by omega), hi1, callR_val hcK, kn, wn, hi2, hi12, hin, callR_val hU]
          generalize hname : upS ((s.drop (i + 1)).take n) = name at hstep hU ⊢
          refine new_mk fun N1 n1 => ?_
          have gN1 : Grown N N1 := by rw [n1]; exact Grown.rfl'.push
          have bN1 : N1.bl.length = N.bl.length + 1 := by rw [n1]; simp [Mem.push]
          obtain ⟨N2, w1, r2, t2, z2⟩ := putN_row (off := 0) (vs := [.str name, .str [], .bool false]) (m := N1) (b := N.bl.length) (cs := [.str [], .str [], .bool false]) (by rw [n1]; exact row_push _ _) (by simp)
          have r2 : RowIs N2 N.bl.length [.str name, .str [], .bool false] := r2
          have lN1 : m.bl.length ≤ N1.low := by rw [n1]; exact hlN
          have lN2 : m.bl.length ≤ N2.low := by omega
          have but : ∀ K : Mem, But1 N.bl.length N1 K → Grown N K := fun K hb => grown_of (by have := hb.1; omega) fun j hj => by rw [hb.2 j (by omega), gN1.at hj]
          -- the parameter is put behind
          have put : ∀ (K : Mem) (p : Par) (i' : Nat), But1 N.bl.length N1 K → m.bl.length ≤ K.low → RowIs K N.bl.length (parE p) → i < i' → i' ≤ s.length → parseS w s f i' (acc ++ [p]) = parseS w s (s.length + 1) 0 [] → K.getN G ⟨.mem N.bl.length 0, 0⟩ 3 = some (parE p) ∧ ∀ K1, K1 = K.push (.cells (parE p) 0 true) → RowIs K1 K.bl.length (parE p) ∧ ∃ v' K2, appendE G K1 3 40 0 v (parE p) 1 = some (v', K2) ∧ ∀ B : Fr, B 0 = .str s → B 1 = .bool w → B 5 = .ptr (some ⟨.mem M.bl.length 0, 0⟩) → B 6 = v' → B 7 = .int .i64 (i' : Nat) → ∀ Q, againE J (s.length - i) Q .normal ⟨B, K2, [], none⟩ := fun K p i' hb lK rK hi1' hi' hpp => by
            have gK := but K hb
            have h3 : (parE p).length = 3 := rfl
            refine ⟨by rw [rK.getN, if_neg (by omega), if_pos (by omega), List.drop_zero, List.take_of_length_le (by omega)], fun K1 k1 => ⟨by rw [k1]; exact row_push _ _, ?_⟩⟩
            have gK1 : Grown K K1 := by rw [k1]; exact Grown.rfl'.push
            have lK1 : K1.low = K.low := by rw [k1]; rfl
            have hgle := (gK.trans gK1).le
            obtain ⟨v', K2, k', ha, hv2, hk2, hag, hl2, hw2⟩ := (hv.grown (gK.trans gK1)).app (G := G) (bytes := 40) (cnt := 1) (new := parE p) tagOk_0 (by omega) rfl (by omega)
            refine ⟨v', K2, ha, fun B B0 B1 B5 B6 B7 Q => again2 hJ (s.length - i') (by omega) ⟨f, i', acc ++ [p], k', v', B, K2, rfl, rfl, by omega, hi', by simp; omega, hpp, B0, B1, B5, B6, B7, by simpa using hv2, fun j hj => ?_, grown_of (by omega) fun j hj => ?_, hw2 _ (by omega) (by omega) fun j hj => by have := hk j hj; omega⟩⟩
            · rcases hk2 with h | ⟨_, h⟩
              · exact hk j (by rw [← h, hj])
              · rw [h] at hj; cases hj; omega
            · rw [hag j (by omega) fun h => by have := hk j h.symm; omega, (gK.trans gK1).at (by omega), hgN.at hj]
          by_cases heq : s[i + 1 + n]? = some 61
          · have hl2 : i + 1 + n < s.length := (List.getElem?_eq_some_iff.1 heq).1
            have hb61 : s[i + 1 + n] = 61 := by rw [List.getElem?_eq_getElem hl2] at heq; exact Option.some.inj heq
            have u61 : ((s[i + 1 + n].toNat : Int) == 61) = true := by rw [hb61]; rfl
            rw [if_pos heq] at hstep
            obtain ⟨N3, w3, r3, t3, z3⟩ := put1_row (off := 2) (v := .bool true) r2 (by simp)
            have r3 : RowIs N3 N.bl.length [.str name, .str [], .bool true] := r3
            have lN3 : m.bl.length ≤ N3.low := by omega
            generalize hval : (s.drop (i + 1 + n + 1)).take (til (s.drop (i + 1 + n + 1))) = val at hstep
            have hvl : val.length = til (s.drop (i + 1 + n + 1)) := by rw [← hval, List.length_take, Nat.min_eq_left (til_le _)]
            have htl := til_le (s.drop (i + 1 + n + 1))
            rw [List.length_drop] at htl
            obtain ⟨cr, cb, hcut⟩ := c_strings_Cut1 N3 (s.drop (i + 1 + n + 1)) (by simp; omega)
            rw [hval] at hcut
            obtain ⟨N4, w4, r4, t4, z4⟩ := put1_row (off := 1) (v := .str val) r3 (by simp)
            have r4 : RowIs N4 N.bl.length [.str name, .str val, .bool true] := r4
            have lN4 : m.bl.length ≤ N4.low := by omega
            have hbad := c_param_badValue N4 val w (by omega)
            have hbl := badV_le w val
            have hi3 : i + 1 + n + 1 ≤ s.length := by omega
            have b14 := (t2.trans t3).trans t4
            by_cases hbv : 0 ≤ badV w val
            · rw [if_pos hbv] at hstep
              obtain ⟨bv, hbve⟩ : ∃ bv : Nat, badV w val = bv := ⟨(badV w val).toNat, by omega⟩
              rw [hbve] at hstep hbad hbv hbl
              have wbv : IntKind.i64.wrap (((i + 1 + n + 1 : Nat) : Int) + (bv : Int)) = ((i + 1 + n + 1 : Nat) : Int) + (bv : Int) := wrap64 (by omega) (by omega)
              obtain ⟨K', q1, q2, hend⟩ := err N4 101 (((i + 1 + n + 1 : Nat) : Int) + (bv : Int)) (hgN.trans (but N4 b14)) lN4 hstep
              simp +contextual only [vq, vc, ve, vv, vn, vl, ↓reduceIte, Nat.reduceEqDiff, Nat.reduceAdd, Nat.reduceMul, Nat.reduceSub, Nat.reduceLeDiff, Nat.reduceLT, Nat.reduceBEq, Nat.reduceBNe, reduceCtorEq, Int.reduceBEq, Int.reduceBNe, Int.reduceLT, Int.reduceLE, Int.reduceEq, Int.reduceToNat, Int.reduceAdd, Int.reduceSub, Int.reduceNeg, w1, A0, A1, A7, wn, hl2, get_byte hl2, u61, wsucc hl2 (by omega), w3, hi3, callR_val hcut, w4, r4.get (G := G), callR_val hbad, wbv, callR_val (c_param_Parse_1 N4 101 (((i + 1 + n + 1 : Nat) : Int) + (bv : Int))), A5, q1]
              exact hend _ (by simp +contextual only [vq, vc, ve, vv, vn, vl, ↓reduceIte, Nat.reduceEqDiff, Nat.reduceAdd, Nat.reduceMul, Nat.reduceSub, Nat.reduceLeDiff, Nat.reduceLT, Nat.reduceBEq, Nat.reduceBNe, reduceCtorEq, Int.reduceBEq, Int.reduceBNe, Int.reduceLT, Int.reduceLE, Int.reduceEq, Int.reduceToNat, Int.reduceAdd, Int.reduceSub, Int.reduceNeg]) (by simp +contextual only [vq, vc, ve, vv, vn, vl, ↓reduceIte, Nat.reduceEqDiff, Nat.reduceAdd, Nat.reduceMul, Nat.reduceSub, Nat.reduceLeDiff, Nat.reduceLT, Nat.reduceBEq, Nat.reduceBNe, reduceCtorEq, Int.reduceBEq, Int.reduceBNe, Int.reduceLT, Int.reduceLE, Int.reduceEq, Int.reduceToNat, Int.reduceAdd, Int.reduceSub, Int.reduceNeg, A5])
            · rw [if_neg hbv, ← hvl] at hstep
              obtain ⟨hg3, hput⟩ := put N4 ⟨name, val, true⟩ (i + 1 + n + 1 + val.length) b14 lN4 r4 (by omega) (by omega) hstep.symm
              have hg3 : N4.getN G ⟨.mem N.bl.length 0, 0⟩ 3 = some [.str name, .str val, .bool true] := hg3
              have wv : IntKind.i64.wrap (((i + 1 + n + 1 : Nat) : Int) + (val.length : Int)) = ((i + 1 + n + 1 + val.length : Nat) : Int) := wrap_of (by omega) (by omega)
              simp +contextual only [vq, vc, ve, vv, vn, vl, ↓reduceIte, Nat.reduceEqDiff, Nat.reduceAdd, Nat.reduceMul, Nat.reduceSub, Nat.reduceLeDiff, Nat.reduceLT, Nat.reduceBEq, Nat.reduceBNe, reduceCtorEq, Int.reduceBEq, Int.reduceBNe, Int.reduceLT, Int.reduceLE, Int.reduceEq, Int.reduceToNat, Int.reduceAdd, Int.reduceSub, Int.reduceNeg, w1, A0, A1, A7, wn, hl2, get_byte hl2, u61, wsucc hl2 (by omega), w3, hi3, callR_val hcut, w4, r4.get (G := G), callR_val hbad, hbv, wv, hg3]
              refine new_mk fun K1 k1 => ?_
              obtain ⟨rK1, v', K2, hap, hfin⟩ := hput K1 k1
              have rK1 : RowIs K1 N4.bl.length [.str name, .str val, .bool true] := rK1
              have hap : appendE G K1 3 40 0 v [.str name, .str val, .bool true] 1 = some (v', K2) := hap
              simp +contextual only [vq, vc, ve, vv, vn, vl, ↓reduceIte, Nat.reduceEqDiff, Nat.reduceAdd, Nat.reduceMul, Nat.reduceSub, Nat.reduceLeDiff, Nat.reduceLT, Nat.reduceBEq, Nat.reduceBNe, reduceCtorEq, Int.reduceBEq, Int.reduceBNe, Int.reduceLT, Int.reduceLE, Int.reduceEq, Int.reduceToNat, Int.reduceAdd, Int.reduceSub, Int.reduceNeg, rK1.getN (G := G), A6, hap]
              exact hfin _ (by simp +contextual only [vq, vc, ve, vv, vn, vl, ↓reduceIte, Nat.reduceEqDiff, Nat.reduceAdd, Nat.reduceMul, Nat.reduceSub, Nat.reduceLeDiff, Nat.reduceLT, Nat.reduceBEq, Nat.reduceBNe, reduceCtorEq, Int.reduceBEq, Int.reduceBNe, Int.reduceLT, Int.reduceLE, Int.reduceEq, Int.reduceToNat, Int.reduceAdd, Int.reduceSub, Int.reduceNeg, A0]) (by simp +contextual only [vq, vc, ve, vv, vn, vl, ↓reduceIte, Nat.reduceEqDiff, Nat.reduceAdd, Nat.reduceMul, Nat.reduceSub, Nat.reduceLeDiff, Nat.reduceLT, Nat.reduceBEq, Nat.reduceBNe, reduceCtorEq, Int.reduceBEq, Int.reduceBNe, Int.reduceLT, Int.reduceLE, Int.reduceEq, Int.reduceToNat, Int.reduceAdd, Int.reduceSub, Int.reduceNeg, A1]) (by simp +contextual only [vq, vc, ve, vv, vn, vl, ↓reduceIte, Nat.reduceEqDiff, Nat.reduceAdd, Nat.reduceMul, Nat.reduceSub, Nat.reduceLeDiff, Nat.reduceLT, Nat.reduceBEq, Nat.reduceBNe, reduceCtorEq, Int.reduceBEq, Int.reduceBNe, Int.reduceLT, Int.reduceLE, Int.reduceEq, Int.reduceToNat, Int.reduceAdd, Int.reduceSub, Int.reduceNeg, A5]) (by simp +contextual only [vq, vc, ve, vv, vn, vl, ↓reduceIte, Nat.reduceEqDiff, Nat.reduceAdd, Nat.reduceMul, Nat.reduceSub, Nat.reduceLeDiff, Nat.reduceLT, Nat.reduceBEq, Nat.reduceBNe, reduceCtorEq, Int.reduceBEq, Int.reduceBNe, Int.reduceLT, Int.reduceLE, Int.reduceEq, Int.reduceToNat, Int.reduceAdd, Int.reduceSub, Int.reduceNeg]) (by simp +contextual only [vq, vc, ve, vv, vn, vl, ↓reduceIte, Nat.reduceEqDiff, Nat.reduceAdd, Nat.reduceMul, Nat.reduceSub, Nat.reduceLeDiff, Nat.reduceLT, Nat.reduceBEq, Nat.reduceBNe, reduceCtorEq, Int.reduceBEq, Int.reduceBNe, Int.reduceLT, Int.reduceLE, Int.reduceEq, Int.reduceToNat, Int.reduceAdd, Int.reduceSub, Int.reduceNeg]) _
          · rw [if_neg heq] at hstep
            by_cases hl2 : i + 1 + n < s.length
            · have hb61 : s[i + 1 + n] ≠ 61 := fun h => heq (by rw [List.getElem?_eq_getElem hl2, h])
              have u61 : ((s[i + 1 + n].toNat : Int) == 61) = false := by
                have := u8_eq s[i + 1 + n] 61
                rw [show ((61 : UInt8).toNat : Int) = 61 from rfl] at this
                rw [this]
                simpa using hb61
              have u322 : ((s[i + 1 + n].toNat : Int) != 32) = (s[i + 1 + n] != 32) := by
                have := u8_eq s[i + 1 + n] 32
                simp only [bne]
                exact congrArg (! ·) this
              cases h322 : (s[i + 1 + n] != 32) with
              | true =>
                rw [h322] at u322
                rw [if_pos ⟨hl2, by rw [List.getElem?_eq_getElem hl2]; intro h; rw [Option.some.inj h] at h322; simp at h322⟩] at hstep
                obtain ⟨K', q1, q2, hend⟩ := err N2 100 (i + 1 + n : Nat) (hgN.trans (but N2 t2)) lN2 hstep
                simp +contextual only [vq, vc, ve, vv, vn, vl, ↓reduceIte, Nat.reduceEqDiff, Nat.reduceAdd, Nat.reduceMul, Nat.reduceSub, Nat.reduceLeDiff, Nat.reduceLT, Nat.reduceBEq, Nat.reduceBNe, reduceCtorEq, Int.reduceBEq, Int.reduceBNe, Int.reduceLT, Int.reduceLE, Int.reduceEq, Int.reduceToNat, Int.reduceAdd, Int.reduceSub, Int.reduceNeg, w1, A0, A1, A7, wn, hl2, get_byte hl2, u61, u322, callR_val (c_param_Parse_1 N2 100 (i + 1 + n : Nat)), A5, q1]
                exact hend _ (by simp +contextual only [vq, vc, ve, vv, vn, vl, ↓reduceIte, Nat.reduceEqDiff, Nat.reduceAdd, Nat.reduceMul, Nat.reduceSub, Nat.reduceLeDiff, Nat.reduceLT, Nat.reduceBEq, Nat.reduceBNe, reduceCtorEq, Int.reduceBEq, Int.reduceBNe, Int.reduceLT, Int.reduceLE, Int.reduceEq, Int.reduceToNat, Int.reduceAdd, Int.reduceSub, Int.reduceNeg]) (by simp +contextual only [vq, vc, ve, vv, vn, vl, ↓reduceIte, Nat.reduceEqDiff, Nat.reduceAdd, Nat.reduceMul, Nat.reduceSub, Nat.reduceLeDiff, Nat.reduceLT, Nat.reduceBEq, Nat.reduceBNe, reduceCtorEq, Int.reduceBEq, Int.reduceBNe, Int.reduceLT, Int.reduceLE, Int.reduceEq, Int.reduceToNat, Int.reduceAdd, Int.reduceSub, Int.reduceNeg, A5])
              | false =>
                rw [h322] at u322
                rw [if_neg (fun h => h.2 (by rw [List.getElem?_eq_getElem hl2]; simpa using h322))] at hstep
                obtain ⟨hg3, hput⟩ := put N2 ⟨name, [], false⟩ (i + 1 + n) t2 lN2 r2 (by omega) (by omega) hstep.symm
                have hg3 : N2.getN G ⟨.mem N.bl.length 0, 0⟩ 3 = some [.str name, .str [], .bool false] := hg3
                simp +contextual only [vq, vc, ve, vv, vn, vl, ↓reduceIte, Nat.reduceEqDiff, Nat.reduceAdd, Nat.reduceMul, Nat.reduceSub, Nat.reduceLeDiff, Nat.reduceLT, Nat.reduceBEq, Nat.reduceBNe, reduceCtorEq, Int.reduceBEq, Int.reduceBNe, Int.reduceLT, Int.reduceLE, Int.reduceEq, Int.reduceToNat, Int.reduceAdd, Int.reduceSub, Int.reduceNeg, w1, A0, A1, A7, wn, hl2, get_byte hl2, u61, u322, hg3]
                refine new_mk fun K1 k1 => ?_
                obtain ⟨rK1, v', K2, hap, hfin⟩ := hput K1 k1
                have rK1 : RowIs K1 N2.bl.length [.str name, .str [], .bool false] := rK1
                have hap : appendE G K1 3 40 0 v [.str name, .str [], .bool false] 1 = some (v', K2) := hap
                simp +contextual only [vq, vc, ve, vv, vn, vl, ↓reduceIte, Nat.reduceEqDiff, Nat.reduceAdd, Nat.reduceMul, Nat.reduceSub, Nat.reduceLeDiff, Nat.reduceLT, Nat.reduceBEq, Nat.reduceBNe, reduceCtorEq, Int.reduceBEq, Int.reduceBNe, Int.reduceLT, Int.reduceLE, Int.reduceEq, Int.reduceToNat, Int.reduceAdd, Int.reduceSub, Int.reduceNeg, rK1.getN (G := G), A6, hap]
                exact hfin _ (by simp +contextual only [vq, vc, ve, vv, vn, vl, ↓reduceIte, Nat.reduceEqDiff, Nat.reduceAdd, Nat.reduceMul, Nat.reduceSub, Nat.reduceLeDiff, Nat.reduceLT, Nat.reduceBEq, Nat.reduceBNe, reduceCtorEq, Int.reduceBEq, Int.reduceBNe, Int.reduceLT, Int.reduceLE, Int.reduceEq, Int.reduceToNat, Int.reduceAdd, Int.reduceSub, Int.reduceNeg, A0]) (by simp +contextual only [vq, vc, ve, vv, vn, vl, ↓reduceIte, Nat.reduceEqDiff, Nat.reduceAdd, Nat.reduceMul, Nat.reduceSub, Nat.reduceLeDiff, Nat.reduceLT, Nat.reduceBEq, Nat.reduceBNe, reduceCtorEq, Int.reduceBEq, Int.reduceBNe, Int.reduceLT, Int.reduceLE, Int.reduceEq, Int.reduceToNat, Int.reduceAdd, Int.reduceSub, Int.reduceNeg, A1]) (by simp +contextual only [vq, vc, ve, vv, vn, vl, ↓reduceIte, Nat.reduceEqDiff, Nat.reduceAdd, Nat.reduceMul, Nat.reduceSub, Nat.reduceLeDiff, Nat.reduceLT, Nat.reduceBEq, Nat.reduceBNe, reduceCtorEq, Int.reduceBEq, Int.reduceBNe, Int.reduceLT, Int.reduceLE, Int.reduceEq, Int.reduceToNat, Int.reduceAdd, Int.reduceSub, Int.reduceNeg, A5]) (by simp +contextual only [vq, vc, ve, vv, vn, vl, ↓reduceIte, Nat.reduceEqDiff, Nat.reduceAdd, Nat.reduceMul, Nat.reduceSub, Nat.reduceLeDiff, Nat.reduceLT, Nat.reduceBEq, Nat.reduceBNe, reduceCtorEq, Int.reduceBEq, Int.reduceBNe, Int.reduceLT, Int.reduceLE, Int.reduceEq, Int.reduceToNat, Int.reduceAdd, Int.reduceSub, Int.reduceNeg]) (by simp +contextual only [vq, vc, ve, vv, vn, vl, ↓reduceIte, Nat.reduceEqDiff, Nat.reduceAdd, Nat.reduceMul, Nat.reduceSub, Nat.reduceLeDiff, Nat.reduceLT, Nat.reduceBEq, Nat.reduceBNe, reduceCtorEq, Int.reduceBEq, Int.reduceBNe, Int.reduceLT, Int.reduceLE, Int.reduceEq, Int.reduceToNat, Int.reduceAdd, Int.reduceSub, Int.reduceNeg]) _
            · rw [if_neg (fun h => hl2 h.1)] at hstep
              obtain ⟨hg3, hput⟩ := put N2 ⟨name, [], false⟩ (i + 1 + n) t2 lN2 r2 (by omega) (by omega) hstep.symm
              have hg3 : N2.getN G ⟨.mem N.bl.length 0, 0⟩ 3 = some [.str name, .str [], .bool false] := hg3
              simp +contextual only [vq, vc, ve, vv, vn, vl, ↓reduceIte, Nat.reduceEqDiff, Nat.reduceAdd, Nat.reduceMul, Nat.reduceSub, Nat.reduceLeDiff, Nat.reduceLT, Nat.reduceBEq, Nat.reduceBNe, reduceCtorEq, Int.reduceBEq, Int.reduceBNe, Int.reduceLT, Int.reduceLE, Int.reduceEq, Int.reduceToNat, Int.reduceAdd, Int.reduceSub, Int.reduceNeg, w1, A0, A1, A7, wn, hl2, hg3]
              refine new_mk fun K1 k1 => ?_
              obtain ⟨rK1, v', K2, hap, hfin⟩ := hput K1 k1
              have rK1 : RowIs K1 N2.bl.length [.str name, .str [], .bool false] := rK1
              have hap : appendE G K1 3 40 0 v [.str name, .str [], .bool false] 1 = some (v', K2) := hap
              simp +contextual only [vq, vc, ve, vv, vn, vl, ↓reduceIte, Nat.reduceEqDiff, Nat.reduceAdd, Nat.reduceMul, Nat.reduceSub, Nat.reduceLeDiff, Nat.reduceLT, Nat.reduceBEq, Nat.reduceBNe, reduceCtorEq, Int.reduceBEq, Int.reduceBNe, Int.reduceLT, Int.reduceLE, Int.reduceEq, Int.reduceToNat, Int.reduceAdd, Int.reduceSub, Int.reduceNeg, rK1.getN (G := G), A6, hap]
              exact hfin _ (by simp +contextual only [vq, vc, ve, vv, vn, vl, ↓reduceIte, Nat.reduceEqDiff, Nat.reduceAdd, Nat.reduceMul, Nat.reduceSub, Nat.reduceLeDiff, Nat.reduceLT, Nat.reduceBEq, Nat.reduceBNe, reduceCtorEq, Int.reduceBEq, Int.reduceBNe, Int.reduceLT, Int.reduceLE, Int.reduceEq, Int.reduceToNat, Int.reduceAdd, Int.reduceSub, Int.reduceNeg, A0]) (by simp +contextual only [vq, vc, ve, vv, vn, vl, ↓reduceIte, Nat.reduceEqDiff, Nat.reduceAdd, Nat.reduceMul, Nat.reduceSub, Nat.reduceLeDiff, Nat.reduceLT, Nat.reduceBEq, Nat.reduceBNe, reduceCtorEq, Int.reduceBEq, Int.reduceBNe, Int.reduceLT, Int.reduceLE, Int.reduceEq, Int.reduceToNat, Int.reduceAdd, Int.reduceSub, Int.reduceNeg, A1]) (by simp +contextual only [vq, vc, ve, vv, vn, vl, ↓reduceIte, Nat.reduceEqDiff, Nat.reduceAdd, Nat.reduceMul, Nat.reduceSub, Nat.reduceLeDiff, Nat.reduceLT, Nat.reduceBEq, Nat.reduceBNe, reduceCtorEq, Int.reduceBEq, Int.reduceBNe, Int.reduceLT, Int.reduceLE, Int.reduceEq, Int.reduceToNat, Int.reduceAdd, Int.reduceSub, Int.reduceNeg, A5]) (by simp +contextual only [vq, vc, ve, vv, vn, vl, ↓reduceIte, Nat.reduceEqDiff, Nat.reduceAdd, Nat.reduceMul, Nat.reduceSub, Nat.reduceLeDiff, Nat.reduceLT, Nat.reduceBEq, Nat.reduceBNe, reduceCtorEq, Int.reduceBEq, Int.reduceBNe, Int.reduceLT, Int.reduceLE, Int.reduceEq, Int.reduceToNat, Int.reduceAdd, Int.reduceSub, Int.reduceNeg]) (by simp +contextual only [vq, vc, ve, vv, vn, vl, ↓reduceIte, Nat.reduceEqDiff, Nat.reduceAdd, Nat.reduceMul, Nat.reduceSub, Nat.reduceLeDiff, Nat.reduceLT, Nat.reduceBEq, Nat.reduceBNe, reduceCtorEq, Int.reduceBEq, Int.reduceBNe, Int.reduceLT, Int.reduceLE, Int.reduceEq, Int.reduceToNat, Int.reduceAdd, Int.reduceSub, Int.reduceNeg]) _
  · have hpe : parseS w s (s.length + 1) 0 [] = (acc, 0, 0) := by rw [← hp, parseS, if_neg hlt]
    obtain ⟨K', w1, w2, w3, w4⟩ := putN_row (off := 0) (vs := [.int .i64 0, .int .i64 0]) (R1.grown hgN) (by simp)
    have w2 : RowIs K' M.bl.length [.int .i64 0, .int .i64 0] := w2
    have lw : m.bl.length ≤ K'.low := by omega
    have gK : Grown m K' := grown_of (by have := w3.1; omega) fun j hj => by rw [w3.2 j (by omega), ((hg.trans g1).trans hgN).at hj]
    have hvK := hv.keep (M := K') fun j hj => w3.2 j (by have := hk j hj; omega)
    simp +contextual only [vq, vc, ve, vv, vn, vl, ↓reduceIte, Nat.reduceEqDiff, Nat.reduceAdd, Nat.reduceMul, Nat.reduceSub, Nat.reduceLeDiff, Nat.reduceLT, Nat.reduceBEq, Nat.reduceBNe, reduceCtorEq, Int.reduceBEq, Int.reduceBNe, Int.reduceLT, Int.reduceLE, Int.reduceEq, Int.reduceToNat, Int.reduceAdd, Int.reduceSub, Int.reduceNeg, A0, A5, A6, A7, hlt, w1]
    rcases hv.row with ⟨rfl, hr0, ha0⟩ | ⟨j, g, hj, rfl, _⟩
    · exact postX_same (v := .tuple [.slice none 0 0 0, .agg [.int .i64 0, .int .i64 0]]) (by simp +contextual only [vq, vc, ve, vv, vn, vl, ↓reduceIte, Nat.reduceEqDiff, Nat.reduceAdd, Nat.reduceMul, Nat.reduceSub, Nat.reduceLeDiff, Nat.reduceLT, Nat.reduceBEq, Nat.reduceBNe, reduceCtorEq, Int.reduceBEq, Int.reduceBNe, Int.reduceLT, Int.reduceLE, Int.reduceEq, Int.reduceToNat, Int.reduceAdd, Int.reduceSub, Int.reduceNeg, w2.getN (G := G), A5]) lw rfl (by
        unfold ParseR
        rw [hpe]
        exact ⟨_, m, none, rfl, Grown.rfl', by omega, by simp only; rw [hr0, ha0]; exact Priv.nil, fun _ h => by cases h⟩)
    · have hjk := hk j hj
      exact postX_new (v := .tuple [.slice (some ⟨.mem j g, 0⟩) acc.length acc.length 3, .agg [.int .i64 0, .int .i64 0]]) (by simp +contextual only [vq, vc, ve, vv, vn, vl, ↓reduceIte, Nat.reduceEqDiff, Nat.reduceAdd, Nat.reduceMul, Nat.reduceSub, Nat.reduceLeDiff, Nat.reduceLT, Nat.reduceBEq, Nat.reduceBNe, reduceCtorEq, Int.reduceBEq, Int.reduceBNe, Int.reduceLT, Int.reduceLE, Int.reduceEq, Int.reduceToNat, Int.reduceAdd, Int.reduceSub, Int.reduceNeg, w2.getN (G := G), A5]) (by simp [noref, norefs]; omega) (by
        unfold ParseR
        rw [hpe]
        exact ⟨_, _, k, rfl, gK, by simp only; omega, hvK.keep fun _ _ => rfl, fun j hj => by have := hk j hj; omega⟩)
end Go.Proofs.YtmjoaiccbghijaaGreatDoor.paramAgain

namespace Go.Proofs.YtmjoaiccbghijaaGreatDoor.paramAgain
open Go.Ev hiding Comes
variable [GG]

theorem c_r10_till (m : Mem) (s : List UInt8) (i : Nat) (hi : i ≤ s.length) (hs : s.length ≤ 1000000000000) : Go.Ev.Comes T G f_r10_till [.str s, .int .i64 (i : Nat), .int .u8 32] m none ⟨.val (.int .i64 (i + til (s.drop i) : Nat)), m, none⟩ := by
  refine comes2 T_r10_till rfl fun M hg hlen hlow => ?_
  have hl : m.bl.length ≤ M.low := by omega
  simp only [F_r10_till]
  simp +contextual only [vq, vc, ve, vv, vn, vl, ↓reduceIte, Nat.reduceEqDiff, Nat.reduceAdd, Nat.reduceMul, Nat.reduceSub, Nat.reduceLeDiff, Nat.reduceLT, Nat.reduceBEq, Nat.reduceBNe, reduceCtorEq, Int.reduceBEq, Int.reduceBNe, Int.reduceLT, Int.reduceLE, Int.reduceEq, Int.reduceToNat, Int.reduceAdd, Int.reduceSub, Int.reduceNeg]
  refine loop2 (fun q st => ∃ (k : Nat) (A : Fr), st = ⟨A, M, [], none⟩ ∧ q = s.length - k ∧ i ≤ k ∧ k ≤ s.length ∧ A 0 = .str s ∧ A 1 = .int .i64 (k : Nat) ∧ A 2 = .int .u8 32 ∧ ∀ x ∈ (s.drop i).take (k - i), x ≠ 32) (s.length - i) ⟨i, _, rfl, rfl, by omega, by omega, by simp +contextual only [vq, vc, ve, vv, vn, vl, ↓reduceIte, Nat.reduceEqDiff, Nat.reduceAdd, Nat.reduceMul, Nat.reduceSub, Nat.reduceLeDiff, Nat.reduceLT, Nat.reduceBEq, Nat.reduceBNe, reduceCtorEq, Int.reduceBEq, Int.reduceBNe, Int.reduceLT, Int.reduceLE, Int.reduceEq, Int.reduceToNat, Int.reduceAdd, Int.reduceSub, Int.reduceNeg], by simp +contextual only [vq, vc, ve, vv, vn, vl, ↓reduceIte, Nat.reduceEqDiff, Nat.reduceAdd, Nat.reduceMul, Nat.reduceSub, Nat.reduceLeDiff, Nat.reduceLT, Nat.reduceBEq, Nat.reduceBNe, reduceCtorEq, Int.reduceBEq, Int.reduceBNe, Int.reduceLT, Int.reduceLE, Int.reduceEq, Int.reduceToNat, Int.reduceAdd, Int.reduceSub, Int.reduceNeg], by simp +contextual only [vq, vc, ve, vv, vn, vl, ↓reduceIte, Nat.reduceEqDiff, Nat.reduceAdd, Nat.reduceMul, Nat.reduceSub, Nat.reduceLeDiff, Nat.reduceLT, Nat.reduceBEq, Nat.reduceBNe, reduceCtorEq, Int.reduceBEq, Int.reduceBNe, Int.reduceLT, Int.reduceLE, Int.reduceEq, Int.reduceToNat, Int.reduceAdd, Int.reduceSub, Int.reduceNeg], by simp⟩ fun J hJ q st hI => ?_
  obtain ⟨k, A, rfl, rfl, hik, hk, A0, A1, A2, hall⟩ := hI
  have hall' : ∀ x ∈ (s.drop i).take (k - i), (x != 32) = true := fun x hx => by simpa using hall x hx
  by_cases hlt : k < s.length
  · have u1 : ((s[k].toNat : Int) != 32) = (s[k] != 32) := by
      have := u8_eq s[k] 32
      simp only [bne]
      exact congrArg (! ·) this
    have hdk : (s.drop i)[k - i]? = some s[k] := by
      rw [List.getElem?_drop, show i + (k - i) = k by omega, List.getElem?_eq_getElem hlt]
    cases hb : (s[k] != 32) with
    | true =>
      rw [hb] at u1
      simp +contextual only [vq, vc, ve, vv, vn, vl, ↓reduceIte, Nat.reduceEqDiff, Nat.reduceAdd, Nat.reduceMul, Nat.reduceSub, Nat.reduceLeDiff, Nat.reduceLT, Nat.reduceBEq, Nat.reduceBNe, reduceCtorEq, Int.reduceBEq, Int.reduceBNe, Int.reduceLT, Int.reduceLE, Int.reduceEq, Int.reduceToNat, Int.reduceAdd, Int.reduceSub, Int.reduceNeg, A0, A1, A2, hlt, get_byte hlt, u1, wsucc hlt (by omega)]
      exact again2 hJ (s.length - (k + 1)) (by omega) ⟨k + 1, _, rfl, rfl, by omega, by omega, by simp +contextual only [vq, vc, ve, vv, vn, vl, ↓reduceIte, Nat.reduceEqDiff, Nat.reduceAdd, Nat.reduceMul, Nat.reduceSub, Nat.reduceLeDiff, Nat.reduceLT, Nat.reduceBEq, Nat.reduceBNe, reduceCtorEq, Int.reduceBEq, Int.reduceBNe, Int.reduceLT, Int.reduceLE, Int.reduceEq, Int.reduceToNat, Int.reduceAdd, Int.reduceSub, Int.reduceNeg, A0], by simp +contextual only [vq, vc, ve, vv, vn, vl, ↓reduceIte, Nat.reduceEqDiff, Nat.reduceAdd, Nat.reduceMul, Nat.reduceSub, Nat.reduceLeDiff, Nat.reduceLT, Nat.reduceBEq, Nat.reduceBNe, reduceCtorEq, Int.reduceBEq, Int.reduceBNe, Int.reduceLT, Int.reduceLE, Int.reduceEq, Int.reduceToNat, Int.reduceAdd, Int.reduceSub, Int.reduceNeg], by simp +contextual only [vq, vc, ve, vv, vn, vl, ↓reduceIte, Nat.reduceEqDiff, Nat.reduceAdd, Nat.reduceMul, Nat.reduceSub, Nat.reduceLeDiff, Nat.reduceLT, Nat.reduceBEq, Nat.reduceBNe, reduceCtorEq, Int.reduceBEq, Int.reduceBNe, Int.reduceLT, Int.reduceLE, Int.reduceEq, Int.reduceToNat, Int.reduceAdd, Int.reduceSub, Int.reduceNeg, A2], fun x hx => by
        rw [show k + 1 - i = k - i + 1 by omega, List.take_add_one, hdk] at hx
        rcases List.mem_append.1 hx with hx | hx
        · exact hall x hx
        · simp at hx
          rw [hx]
          simpa using hb⟩
    | false =>
      rw [hb] at u1
      have ht : til (s.drop i) = k - i := tw_at (p := (· != 32)) hall' hdk hb
      have e : i + til (s.drop i) = k := by omega
      simp +contextual only [vq, vc, ve, vv, vn, vl, ↓reduceIte, Nat.reduceEqDiff, Nat.reduceAdd, Nat.reduceMul, Nat.reduceSub, Nat.reduceLeDiff, Nat.reduceLT, Nat.reduceBEq, Nat.reduceBNe, reduceCtorEq, Int.reduceBEq, Int.reduceBNe, Int.reduceLT, Int.reduceLE, Int.reduceEq, Int.reduceToNat, Int.reduceAdd, Int.reduceSub, Int.reduceNeg, A0, A1, A2, hlt, get_byte hlt, u1, e, hl]
  · have hks : k = s.length := by omega
    have ht : til (s.drop i) = (s.drop i).length := tw_end fun x hx => hall' x (by rwa [List.take_of_length_le (by simp; omega)])
    have e : i + til (s.drop i) = k := by rw [ht, List.length_drop]; omega
    simp +contextual only [vq, vc, ve, vv, vn, vl, ↓reduceIte, Nat.reduceEqDiff, Nat.reduceAdd, Nat.reduceMul, Nat.reduceSub, Nat.reduceLeDiff, Nat.reduceLT, Nat.reduceBEq, Nat.reduceBNe, reduceCtorEq, Int.reduceBEq, Int.reduceBNe, Int.reduceLT, Int.reduceLE, Int.reduceEq, Int.reduceToNat, Int.reduceAdd, Int.reduceSub, Int.reduceNeg, A0, A1, A2, hlt, e, hl]
end Go.Proofs.YtmjoaiccbghijaaGreatDoor.paramAgain

namespace Go.Proofs.YtmjoaiccbghijaaGreatDoor.paramAgain
open Go.Ev hiding Comes
variable [GG]

def smallsL : List UInt8 := [97, 98, 99, 100, 101, 102, 103, 104, 105, 106, 107, 108, 109, 110, 111, 112, 113, 114, 115, 116, 117, 118, 119, 120, 121, 122]
def capsL : List UInt8 := [65, 66, 67, 68, 69, 70, 71, 72, 73, 74, 75, 76, 77, 78, 79, 80, 81, 82, 83, 84, 85, 86, 87, 88, 89, 90]
/-- A byte as a capital, if it is one of the first j small letters. -/
def upJ (j : Nat) (b : UInt8) : UInt8 := if 97 ≤ b.toNat ∧ b.toNat < 97 + j then b - 32 else b
theorem upJ_26 (b : UInt8) : upJ 26 b = up b := by
  have h : ∀ b, upJ 26 b = up b := by decide +kernel
  exact h b
theorem smalls_at (j : Fin 26) : smallsL[j.val]? = some (UInt8.ofNat (97 + j.val)) ∧ capsL[j.val]? = some (UInt8.ofNat (65 + j.val)) ∧ ∀ b : UInt8, upJ (j.val + 1) b = if UInt8.ofNat (97 + j.val) == b then UInt8.ofNat (65 + j.val) else upJ j.val b := by
  revert j
  decide +kernel

theorem c_r01_Upper (m : Mem) (s : List UInt8) (hN : s.length ≤ 1000000000) : Go.Ev.Comes T G f_r01_Upper [.str s] m none ⟨.val (.str (upS s)), m, none⟩ := by
  refine comes2 T_r01_Upper rfl fun M hg hlen hlow => ?_
  simp only [F_r01_Upper]
  simp +contextual only [vq, vc, ve, vv, vn, vl, ↓reduceIte, Nat.reduceEqDiff, Nat.reduceAdd, Nat.reduceMul, Nat.reduceSub, Nat.reduceLeDiff, Nat.reduceLT, Nat.reduceBEq, Nat.reduceBNe, reduceCtorEq, Int.reduceBEq, Int.reduceBNe, Int.reduceLT, Int.reduceLE, Int.reduceEq, Int.reduceToNat, Int.reduceAdd, Int.reduceSub, Int.reduceNeg]
  refine loop2 (fun n st => ∃ i A N v, st = ⟨A, N, [], none⟩ ∧ m.bl.length ≤ N.low ∧ m.bl.length ≤ N.bl.length ∧ n = s.length - i ∧ i ≤ s.length ∧ A 0 = .str s ∧ A 3 = v ∧ A 4 = .int .i64 i ∧ Own m.bl.length 1 tagB N v (bytesE (upS (s.take i))) i) s.length ⟨0, _, _, _, rfl, by omega, by omega, by omega, by omega, by simp +contextual only [vq, vc, ve, vv, vn, vl, ↓reduceIte, Nat.reduceEqDiff, Nat.reduceAdd, Nat.reduceMul, Nat.reduceSub, Nat.reduceLeDiff, Nat.reduceLT, Nat.reduceBEq, Nat.reduceBNe, reduceCtorEq, Int.reduceBEq, Int.reduceBNe, Int.reduceLT, Int.reduceLE, Int.reduceEq, Int.reduceToNat, Int.reduceAdd, Int.reduceSub, Int.reduceNeg], by simp +contextual only [vq, vc, ve, vv, vn, vl, ↓reduceIte, Nat.reduceEqDiff, Nat.reduceAdd, Nat.reduceMul, Nat.reduceSub, Nat.reduceLeDiff, Nat.reduceLT, Nat.reduceBEq, Nat.reduceBNe, reduceCtorEq, Int.reduceBEq, Int.reduceBNe, Int.reduceLT, Int.reduceLE, Int.reduceEq, Int.reduceToNat, Int.reduceAdd, Int.reduceSub, Int.reduceNeg], by simp +contextual only [vq, vc, ve, vv, vn, vl, ↓reduceIte, Nat.reduceEqDiff, Nat.reduceAdd, Nat.reduceMul, Nat.reduceSub, Nat.reduceLeDiff, Nat.reduceLT, Nat.reduceBEq, Nat.reduceBNe, reduceCtorEq, Int.reduceBEq, Int.reduceBNe, Int.reduceLT, Int.reduceLE, Int.reduceEq, Int.reduceToNat, Int.reduceAdd, Int.reduceSub, Int.reduceNeg]; rfl, Own.nil⟩ fun J hJ n st hI => ?_
  obtain ⟨i, A, N, v, rfl, lN, bN, rfl, hi, A0, A3, A4, ON⟩ := hI
  simp +contextual only [vq, vc, ve, vv, vn, vl, ↓reduceIte, Nat.reduceEqDiff, Nat.reduceAdd, Nat.reduceMul, Nat.reduceSub, Nat.reduceLeDiff, Nat.reduceLT, Nat.reduceBEq, Nat.reduceBNe, reduceCtorEq, Int.reduceBEq, Int.reduceBNe, Int.reduceLT, Int.reduceLE, Int.reduceEq, Int.reduceToNat, Int.reduceAdd, Int.reduceSub, Int.reduceNeg, A0, A4]
  refine br2_dec (fun hlt => ?_) (fun hge => ?_)
  · simp +contextual only [vq, vc, ve, vv, vn, vl, ↓reduceIte, Nat.reduceEqDiff, Nat.reduceAdd, Nat.reduceMul, Nat.reduceSub, Nat.reduceLeDiff, Nat.reduceLT, Nat.reduceBEq, Nat.reduceBNe, reduceCtorEq, Int.reduceBEq, Int.reduceBNe, Int.reduceLT, Int.reduceLE, Int.reduceEq, Int.reduceToNat, Int.reduceAdd, Int.reduceSub, Int.reduceNeg, A0, A4, get_byte hlt]
    refine loop2 (fun n st => ∃ k A, st = ⟨A, N, [], none⟩ ∧ n = 26 - k ∧ k ≤ 26 ∧ A 0 = .str s ∧ A 3 = v ∧ A 4 = .int .i64 i ∧ A 5 = .int .u8 (upJ k s[i]).toNat ∧ A 6 = .int .i64 k) 26 ⟨0, _, rfl, by omega, by omega, by simp +contextual only [vq, vc, ve, vv, vn, vl, ↓reduceIte, Nat.reduceEqDiff, Nat.reduceAdd, Nat.reduceMul, Nat.reduceSub, Nat.reduceLeDiff, Nat.reduceLT, Nat.reduceBEq, Nat.reduceBNe, reduceCtorEq, Int.reduceBEq, Int.reduceBNe, Int.reduceLT, Int.reduceLE, Int.reduceEq, Int.reduceToNat, Int.reduceAdd, Int.reduceSub, Int.reduceNeg, A0], by simp +contextual only [vq, vc, ve, vv, vn, vl, ↓reduceIte, Nat.reduceEqDiff, Nat.reduceAdd, Nat.reduceMul, Nat.reduceSub, Nat.reduceLeDiff, Nat.reduceLT, Nat.reduceBEq, Nat.reduceBNe, reduceCtorEq, Int.reduceBEq, Int.reduceBNe, Int.reduceLT, Int.reduceLE, Int.reduceEq, Int.reduceToNat, Int.reduceAdd, Int.reduceSub, Int.reduceNeg, A3], by simp +contextual only [vq, vc, ve, vv, vn, vl, ↓reduceIte, Nat.reduceEqDiff, Nat.reduceAdd, Nat.reduceMul, Nat.reduceSub, Nat.reduceLeDiff, Nat.reduceLT, Nat.reduceBEq, Nat.reduceBNe, reduceCtorEq, Int.reduceBEq, Int.reduceBNe, Int.reduceLT, Int.reduceLE, Int.reduceEq, Int.reduceToNat, Int.reduceAdd, Int.reduceSub, Int.reduceNeg, A4], ?_, by simp +contextual only [vq, vc, ve, vv, vn, vl, ↓reduceIte, Nat.reduceEqDiff, Nat.reduceAdd, Nat.reduceMul, Nat.reduceSub, Nat.reduceLeDiff, Nat.reduceLT, Nat.reduceBEq, Nat.reduceBNe, reduceCtorEq, Int.reduceBEq, Int.reduceBNe, Int.reduceLT, Int.reduceLE, Int.reduceEq, Int.reduceToNat, Int.reduceAdd, Int.reduceSub, Int.reduceNeg]; rfl⟩ fun J2 hJ2 n2 st2 hI2 => ?_
    · simp +contextual only [vq, vc, ve, vv, vn, vl, ↓reduceIte, Nat.reduceEqDiff, Nat.reduceAdd, Nat.reduceMul, Nat.reduceSub, Nat.reduceLeDiff, Nat.reduceLT, Nat.reduceBEq, Nat.reduceBNe, reduceCtorEq, Int.reduceBEq, Int.reduceBNe, Int.reduceLT, Int.reduceLE, Int.reduceEq, Int.reduceToNat, Int.reduceAdd, Int.reduceSub, Int.reduceNeg, show upJ 0 s[i] = s[i] from if_neg (by omega)]
    obtain ⟨k, A, rfl, rfl, hk, A0, A3, A4, A5, A6⟩ := hI2
    have e26 : ((k : Int) < 26) = (k < 26) := propext ⟨fun h => by omega, fun h => by omega⟩
    simp +contextual only [vq, vc, ve, vv, vn, vl, ↓reduceIte, Nat.reduceEqDiff, Nat.reduceAdd, Nat.reduceMul, Nat.reduceSub, Nat.reduceLeDiff, Nat.reduceLT, Nat.reduceBEq, Nat.reduceBNe, reduceCtorEq, Int.reduceBEq, Int.reduceBNe, Int.reduceLT, Int.reduceLE, Int.reduceEq, Int.reduceToNat, Int.reduceAdd, Int.reduceSub, Int.reduceNeg, A6, e26]
    refine br2_dec (fun hk26 => ?_) (fun hk26 => ?_)
    · obtain ⟨h1, h2, h3⟩ := smalls_at ⟨k, hk26⟩
      simp only at h1 h2 h3
      unfold smallsL at h1
      unfold capsL at h2
      simp +contextual only [vq, vc, ve, vv, vn, vl, ↓reduceIte, Nat.reduceEqDiff, Nat.reduceAdd, Nat.reduceMul, Nat.reduceSub, Nat.reduceLeDiff, Nat.reduceLT, Nat.reduceBEq, Nat.reduceBNe, reduceCtorEq, Int.reduceBEq, Int.reduceBNe, Int.reduceLT, Int.reduceLE, Int.reduceEq, Int.reduceToNat, Int.reduceAdd, Int.reduceSub, Int.reduceNeg, A0, A4, A6, get_byte hlt, h1, u8_eqN]
      refine br2_mk (fun hq => ?_) (fun hq => ?_)
      · simp +contextual only [vq, vc, ve, vv, vn, vl, ↓reduceIte, Nat.reduceEqDiff, Nat.reduceAdd, Nat.reduceMul, Nat.reduceSub, Nat.reduceLeDiff, Nat.reduceLT, Nat.reduceBEq, Nat.reduceBNe, reduceCtorEq, Int.reduceBEq, Int.reduceBNe, Int.reduceLT, Int.reduceLE, Int.reduceEq, Int.reduceToNat, Int.reduceAdd, Int.reduceSub, Int.reduceNeg, A6, h2, wsucc hk26 (by omega)]
        exact again2 hJ2 (26 - (k + 1)) (by omega) ⟨k + 1, _, rfl, rfl, by omega, by simp +contextual only [vq, vc, ve, vv, vn, vl, ↓reduceIte, Nat.reduceEqDiff, Nat.reduceAdd, Nat.reduceMul, Nat.reduceSub, Nat.reduceLeDiff, Nat.reduceLT, Nat.reduceBEq, Nat.reduceBNe, reduceCtorEq, Int.reduceBEq, Int.reduceBNe, Int.reduceLT, Int.reduceLE, Int.reduceEq, Int.reduceToNat, Int.reduceAdd, Int.reduceSub, Int.reduceNeg, A0], by simp +contextual only [vq, vc, ve, vv, vn, vl, ↓reduceIte, Nat.reduceEqDiff, Nat.reduceAdd, Nat.reduceMul, Nat.reduceSub, Nat.reduceLeDiff, Nat.reduceLT, Nat.reduceBEq, Nat.reduceBNe, reduceCtorEq, Int.reduceBEq, Int.reduceBNe, Int.reduceLT, Int.reduceLE, Int.reduceEq, Int.reduceToNat, Int.reduceAdd, Int.reduceSub, Int.reduceNeg, A3], by simp +contextual only [vq, vc, ve, vv, vn, vl, ↓reduceIte, Nat.reduceEqDiff, Nat.reduceAdd, Nat.reduceMul, Nat.reduceSub, Nat.reduceLeDiff, Nat.reduceLT, Nat.reduceBEq, Nat.reduceBNe, reduceCtorEq, Int.reduceBEq, Int.reduceBNe, Int.reduceLT, Int.reduceLE, Int.reduceEq, Int.reduceToNat, Int.reduceAdd, Int.reduceSub, Int.reduceNeg, A4], by simp +contextual only [vq, vc, ve, vv, vn, vl, ↓reduceIte, Nat.reduceEqDiff, Nat.reduceAdd, Nat.reduceMul, Nat.reduceSub, Nat.reduceLeDiff, Nat.reduceLT, Nat.reduceBEq, Nat.reduceBNe, reduceCtorEq, Int.reduceBEq, Int.reduceBNe, Int.reduceLT, Int.reduceLE, Int.reduceEq, Int.reduceToNat, Int.reduceAdd, Int.reduceSub, Int.reduceNeg, h3, hq], by simp +contextual only [vq, vc, ve, vv, vn, vl, ↓reduceIte, Nat.reduceEqDiff, Nat.reduceAdd, Nat.reduceMul, Nat.reduceSub, Nat.reduceLeDiff, Nat.reduceLT, Nat.reduceBEq, Nat.reduceBNe, reduceCtorEq, Int.reduceBEq, Int.reduceBNe, Int.reduceLT, Int.reduceLE, Int.reduceEq, Int.reduceToNat, Int.reduceAdd, Int.reduceSub, Int.reduceNeg]⟩
      · simp +contextual only [vq, vc, ve, vv, vn, vl, ↓reduceIte, Nat.reduceEqDiff, Nat.reduceAdd, Nat.reduceMul, Nat.reduceSub, Nat.reduceLeDiff, Nat.reduceLT, Nat.reduceBEq, Nat.reduceBNe, reduceCtorEq, Int.reduceBEq, Int.reduceBNe, Int.reduceLT, Int.reduceLE, Int.reduceEq, Int.reduceToNat, Int.reduceAdd, Int.reduceSub, Int.reduceNeg, A6, wsucc hk26 (by omega)]
        exact again2 hJ2 (26 - (k + 1)) (by omega) ⟨k + 1, _, rfl, rfl, by omega, by simp +contextual only [vq, vc, ve, vv, vn, vl, ↓reduceIte, Nat.reduceEqDiff, Nat.reduceAdd, Nat.reduceMul, Nat.reduceSub, Nat.reduceLeDiff, Nat.reduceLT, Nat.reduceBEq, Nat.reduceBNe, reduceCtorEq, Int.reduceBEq, Int.reduceBNe, Int.reduceLT, Int.reduceLE, Int.reduceEq, Int.reduceToNat, Int.reduceAdd, Int.reduceSub, Int.reduceNeg, A0], by simp +contextual only [vq, vc, ve, vv, vn, vl, ↓reduceIte, Nat.reduceEqDiff, Nat.reduceAdd, Nat.reduceMul, Nat.reduceSub, Nat.reduceLeDiff, Nat.reduceLT, Nat.reduceBEq, Nat.reduceBNe, reduceCtorEq, Int.reduceBEq, Int.reduceBNe, Int.reduceLT, Int.reduceLE, Int.reduceEq, Int.reduceToNat, Int.reduceAdd, Int.reduceSub, Int.reduceNeg, A3], by simp +contextual only [vq, vc, ve, vv, vn, vl, ↓reduceIte, Nat.reduceEqDiff, Nat.reduceAdd, Nat.reduceMul, Nat.reduceSub, Nat.reduceLeDiff, Nat.reduceLT, Nat.reduceBEq, Nat.reduceBNe, reduceCtorEq, Int.reduceBEq, Int.reduceBNe, Int.reduceLT, Int.reduceLE, Int.reduceEq, Int.reduceToNat, Int.reduceAdd, Int.reduceSub, Int.reduceNeg, A4], by simp +contextual only [vq, vc, ve, vv, vn, vl, ↓reduceIte, Nat.reduceEqDiff, Nat.reduceAdd, Nat.reduceMul, Nat.reduceSub, Nat.reduceLeDiff, Nat.reduceLT, Nat.reduceBEq, Nat.reduceBNe, reduceCtorEq, Int.reduceBEq, Int.reduceBNe, Int.reduceLT, Int.reduceLE, Int.reduceEq, Int.reduceToNat, Int.reduceAdd, Int.reduceSub, Int.reduceNeg, h3, hq, A5], by simp +contextual only [vq, vc, ve, vv, vn, vl, ↓reduceIte, Nat.reduceEqDiff, Nat.reduceAdd, Nat.reduceMul, Nat.reduceSub, Nat.reduceLeDiff, Nat.reduceLT, Nat.reduceBEq, Nat.reduceBNe, reduceCtorEq, Int.reduceBEq, Int.reduceBNe, Int.reduceLT, Int.reduceLE, Int.reduceEq, Int.reduceToNat, Int.reduceAdd, Int.reduceSub, Int.reduceNeg]⟩
    · have hk : k = 26 := by omega
      subst hk
      simp +contextual only [vq, vc, ve, vv, vn, vl, ↓reduceIte, Nat.reduceEqDiff, Nat.reduceAdd, Nat.reduceMul, Nat.reduceSub, Nat.reduceLeDiff, Nat.reduceLT, Nat.reduceBEq, Nat.reduceBNe, reduceCtorEq, Int.reduceBEq, Int.reduceBNe, Int.reduceLT, Int.reduceLE, Int.reduceEq, Int.reduceToNat, Int.reduceAdd, Int.reduceSub, Int.reduceNeg, A3, A5, upJ_26]
      refine new_mk fun N1 e1 => ?_
      obtain ⟨R1, v2, N2, ha, ON2, st2⟩ := own_lit (G := G) (bytes := 1) (cnt := 1) ON e1 bN (.inr ⟨6, by omega, rfl⟩) (by omega) rfl (by omega) (by omega)
      have b2 := st2.2.2
      simp +contextual only [vq, vc, ve, vv, vn, vl, ↓reduceIte, Nat.reduceEqDiff, Nat.reduceAdd, Nat.reduceMul, Nat.reduceSub, Nat.reduceLeDiff, Nat.reduceLT, Nat.reduceBEq, Nat.reduceBNe, reduceCtorEq, Int.reduceBEq, Int.reduceBNe, Int.reduceLT, Int.reduceLE, Int.reduceEq, Int.reduceToNat, Int.reduceAdd, Int.reduceSub, Int.reduceNeg, A4, R1.getN (G := G), ha, wsucc hlt (by omega)]
      refine again2 hJ (s.length - (i + 1)) (by omega) ⟨i + 1, _, N2, v2, rfl, st2.2.1 lN, by omega, rfl, by omega, by simp +contextual only [vq, vc, ve, vv, vn, vl, ↓reduceIte, Nat.reduceEqDiff, Nat.reduceAdd, Nat.reduceMul, Nat.reduceSub, Nat.reduceLeDiff, Nat.reduceLT, Nat.reduceBEq, Nat.reduceBNe, reduceCtorEq, Int.reduceBEq, Int.reduceBNe, Int.reduceLT, Int.reduceLE, Int.reduceEq, Int.reduceToNat, Int.reduceAdd, Int.reduceSub, Int.reduceNeg, A0], by simp +contextual only [vq, vc, ve, vv, vn, vl, ↓reduceIte, Nat.reduceEqDiff, Nat.reduceAdd, Nat.reduceMul, Nat.reduceSub, Nat.reduceLeDiff, Nat.reduceLT, Nat.reduceBEq, Nat.reduceBNe, reduceCtorEq, Int.reduceBEq, Int.reduceBNe, Int.reduceLT, Int.reduceLE, Int.reduceEq, Int.reduceToNat, Int.reduceAdd, Int.reduceSub, Int.reduceNeg], by simp +contextual only [vq, vc, ve, vv, vn, vl, ↓reduceIte, Nat.reduceEqDiff, Nat.reduceAdd, Nat.reduceMul, Nat.reduceSub, Nat.reduceLeDiff, Nat.reduceLT, Nat.reduceBEq, Nat.reduceBNe, reduceCtorEq, Int.reduceBEq, Int.reduceBNe, Int.reduceLT, Int.reduceLE, Int.reduceEq, Int.reduceToNat, Int.reduceAdd, Int.reduceSub, Int.reduceNeg], ?_⟩
      have e3 : bytesE (upS (s.take (i + 1))) = bytesE (upS (s.take i)) ++ [.int .u8 (up s[i]).toNat] := by simp only [upS, List.take_succ_eq_append_getElem hlt, List.map_append, bytes_app]; rfl
      rw [e3]
      exact ON2
  · have he : i = s.length := by omega
    subst he
    rw [List.take_length] at ON
    simp +contextual only [vq, vc, ve, vv, vn, vl, ↓reduceIte, Nat.reduceEqDiff, Nat.reduceAdd, Nat.reduceMul, Nat.reduceSub, Nat.reduceLeDiff, Nat.reduceLT, Nat.reduceBEq, Nat.reduceBNe, reduceCtorEq, Int.reduceBEq, Int.reduceBNe, Int.reduceLT, Int.reduceLE, Int.reduceEq, Int.reduceToNat, Int.reduceAdd, Int.reduceSub, Int.reduceNeg, A3, ON.tos, lN]
end Go.Proofs.YtmjoaiccbghijaaGreatDoor.paramAgain

namespace Go.Proofs.YtmjoaiccbghijaaGreatDoor.paramAgain
open Go.Ev hiding Comes
variable [GG]

theorem c_r10_Parse (m : Mem) (s : List UInt8) (w : Bool) (hs : s.length ≤ 100000000) : ∃ r, Go.Ev.Comes T G f_r10_Parse [.str s, .bool w] m none r ∧ ParseR m w s r := by
  refine comes2P T_r10_Parse rfl fun M hg hlen hlow => ?_
  have hl0 : m.bl.length ≤ M.low := by omega
  simp only [F_r10_Parse]
  simp +contextual only [vq, vc, ve, vv, vn, vl, ↓reduceIte, Nat.reduceEqDiff, Nat.reduceAdd, Nat.reduceMul, Nat.reduceSub, Nat.reduceLeDiff, Nat.reduceLT, Nat.reduceBEq, Nat.reduceBNe, reduceCtorEq, Int.reduceBEq, Int.reduceBNe, Int.reduceLT, Int.reduceLE, Int.reduceEq, Int.reduceToNat, Int.reduceAdd, Int.reduceSub, Int.reduceNeg]
  refine new_mk fun M1 e1 => ?_
  have R1 : RowIs M1 M.bl.length [.int .i64 0, .int .i64 0] := by rw [e1]; exact row_push _ _
  have g1 : Grown M M1 := by rw [e1]; exact Grown.rfl'.push
  have l1 : m.bl.length ≤ M1.low := by rw [e1]; exact hl0
  have b1 : M1.bl.length = M.bl.length + 1 := by rw [e1]; simp [Mem.push]
  simp +contextual only [vq, vc, ve, vv, vn, vl, ↓reduceIte, Nat.reduceEqDiff, Nat.reduceAdd, Nat.reduceMul, Nat.reduceSub, Nat.reduceLeDiff, Nat.reduceLT, Nat.reduceBEq, Nat.reduceBNe, reduceCtorEq, Int.reduceBEq, Int.reduceBNe, Int.reduceLT, Int.reduceLE, Int.reduceEq, Int.reduceToNat, Int.reduceAdd, Int.reduceSub, Int.reduceNeg]
  refine loop2 (fun q st => ∃ (f i : Nat) (acc : List Par) (k : Option Nat) (v : EV) (A : Fr) (N : Mem), st = ⟨A, N, [], none⟩ ∧ q = s.length - i ∧ s.length - i < f ∧ i ≤ s.length ∧ acc.length ≤ 16 ∧ parseS w s f i acc = parseS w s (s.length + 1) 0 [] ∧ A 0 = .str s ∧ A 1 = .bool w ∧ A 5 = .ptr (some ⟨.mem M.bl.length 0, 0⟩) ∧ A 6 = v ∧ A 7 = .int .i64 (i : Nat) ∧ Priv k 3 0 N v ((acc.map parE).flatten) acc.length ∧ (∀ j, k = some j → M1.bl.length ≤ j) ∧ Grown M1 N ∧ m.bl.length ≤ N.low) s.length ⟨s.length + 1, 0, [], none, _, _, M1, rfl, rfl, by omega, by omega, by simp, rfl, by simp +contextual only [vq, vc, ve, vv, vn, vl, ↓reduceIte, Nat.reduceEqDiff, Nat.reduceAdd, Nat.reduceMul, Nat.reduceSub, Nat.reduceLeDiff, Nat.reduceLT, Nat.reduceBEq, Nat.reduceBNe, reduceCtorEq, Int.reduceBEq, Int.reduceBNe, Int.reduceLT, Int.reduceLE, Int.reduceEq, Int.reduceToNat, Int.reduceAdd, Int.reduceSub, Int.reduceNeg], by simp +contextual only [vq, vc, ve, vv, vn, vl, ↓reduceIte, Nat.reduceEqDiff, Nat.reduceAdd, Nat.reduceMul, Nat.reduceSub, Nat.reduceLeDiff, Nat.reduceLT, Nat.reduceBEq, Nat.reduceBNe, reduceCtorEq, Int.reduceBEq, Int.reduceBNe, Int.reduceLT, Int.reduceLE, Int.reduceEq, Int.reduceToNat, Int.reduceAdd, Int.reduceSub, Int.reduceNeg], by simp +contextual only [vq, vc, ve, vv, vn, vl, ↓reduceIte, Nat.reduceEqDiff, Nat.reduceAdd, Nat.reduceMul, Nat.reduceSub, Nat.reduceLeDiff, Nat.reduceLT, Nat.reduceBEq, Nat.reduceBNe, reduceCtorEq, Int.reduceBEq, Int.reduceBNe, Int.reduceLT, Int.reduceLE, Int.reduceEq, Int.reduceToNat, Int.reduceAdd, Int.reduceSub, Int.reduceNeg], by simp +contextual only [vq, vc, ve, vv, vn, vl, ↓reduceIte, Nat.reduceEqDiff, Nat.reduceAdd, Nat.reduceMul, Nat.reduceSub, Nat.reduceLeDiff, Nat.reduceLT, Nat.reduceBEq, Nat.reduceBNe, reduceCtorEq, Int.reduceBEq, Int.reduceBNe, Int.reduceLT, Int.reduceLE, Int.reduceEq, Int.reduceToNat, Int.reduceAdd, Int.reduceSub, Int.reduceNeg], by simp +contextual only [vq, vc, ve, vv, vn, vl, ↓reduceIte, Nat.reduceEqDiff, Nat.reduceAdd, Nat.reduceMul, Nat.reduceSub, Nat.reduceLeDiff, Nat.reduceLT, Nat.reduceBEq, Nat.reduceBNe, reduceCtorEq, Int.reduceBEq, Int.reduceBNe, Int.reduceLT, Int.reduceLE, Int.reduceEq, Int.reduceToNat, Int.reduceAdd, Int.reduceSub, Int.reduceNeg]; rfl, Priv.nil, (fun _ h => by cases h), Grown.rfl', l1⟩ fun J hJ q st hI => ?_
  obtain ⟨f, i, acc, k, v, A, N, rfl, rfl, hf, hi, hac, hp, A0, A1, A5, A6, A7, hv, hk, hgN, hlN⟩ := hI
  obtain ⟨f, rfl⟩ : ∃ g, f = g + 1 := ⟨f - 1, by omega⟩
  obtain ⟨sa, sc, se, sv⟩ := hv.slice
  have lv : lnbE v = some (.int .i64 acc.length) := by rw [sv]; rfl
  have hle := hgN.le
  -- an end with an error
  have err : ∀ (K : Mem) (c a : Int), Grown M1 K → m.bl.length ≤ K.low → parseS w s (s.length + 1) 0 [] = ([], c, a) → ∃ K', K.putN ⟨.mem M.bl.length 0, 0⟩ [.int .i64 c, .int .i64 a] = some K' ∧ RowIs K' M.bl.length [.int .i64 c, .int .i64 a] ∧ ∀ (B : Fr), B 4 = .slice none 0 0 0 → B 5 = .ptr (some ⟨.mem M.bl.length 0, 0⟩) → postX G [.tmp 4, .cell 5 (some 2)] m (ParseR m w s) .ret ⟨B, K', [], none⟩ := fun K c a gK lK hpe => by
    obtain ⟨K', w1, w2, w3, w4⟩ := putN_row (off := 0) (vs := [.int .i64 c, .int .i64 a]) (R1.grown gK) (by simp)
    have w2 : RowIs K' M.bl.length [.int .i64 c, .int .i64 a] := w2
    refine ⟨K', w1, w2, fun B B4 B5 => ?_⟩
    have lw : m.bl.length ≤ K'.low := by omega
    exact postX_same (v := .tuple [.slice none 0 0 0, .agg [.int .i64 c, .int .i64 a]]) (by simp +contextual only [vq, vc, ve, vv, vn, vl, ↓reduceIte, Nat.reduceEqDiff, Nat.reduceAdd, Nat.reduceMul, Nat.reduceSub, Nat.reduceLeDiff, Nat.reduceLT, Nat.reduceBEq, Nat.reduceBNe, reduceCtorEq, Int.reduceBEq, Int.reduceBNe, Int.reduceLT, Int.reduceLE, Int.reduceEq, Int.reduceToNat, Int.reduceAdd, Int.reduceSub, Int.reduceNeg, w2.getN (G := G), B4, B5]) lw rfl (by
      unfold ParseR
      rw [hpe]
      exact ⟨_, m, none, rfl, Grown.rfl', by omega, Priv.nil, fun _ h => by cases h⟩)
  by_cases hlt : i < s.length
  · have u32 : ((s[i].toNat : Int) != 32) = (s[i] != 32) := by
      have := u8_eq s[i] 32
      simp only [bne]
      exact congrArg (! ·) this
    cases h32 : (s[i] != 32) with
    | true =>
      rw [h32] at u32
      have hpe : parseS w s (s.length + 1) 0 [] = ([], 100, (i : Int)) := by
        rw [← hp, parseS, if_pos hlt, if_pos (by rw [List.getElem?_eq_getElem hlt]; intro h; rw [Option.some.inj h] at h32; simp at h32)]
      obtain ⟨K', w1, w2, hend⟩ := err N 100 i hgN hlN hpe
      simp +contextual only [vq, vc, ve, vv, vn, vl, ↓reduceIte, Nat.reduceEqDiff, Nat.reduceAdd, Nat.reduceMul, Nat.reduceSub, Nat.reduceLeDiff, Nat.reduceLT, Nat.reduceBEq, Nat.reduceBNe, reduceCtorEq, Int.reduceBEq, Int.reduceBNe, Int.reduceLT, Int.reduceLE, Int.reduceEq, Int.reduceToNat, Int.reduceAdd, Int.reduceSub, Int.reduceNeg, A0, A7, hlt, get_byte hlt, u32, A5, w1]
      exact hend _ (by simp +contextual only [vq, vc, ve, vv, vn, vl, ↓reduceIte, Nat.reduceEqDiff, Nat.reduceAdd, Nat.reduceMul, Nat.reduceSub, Nat.reduceLeDiff, Nat.reduceLT, Nat.reduceBEq, Nat.reduceBNe, reduceCtorEq, Int.reduceBEq, Int.reduceBNe, Int.reduceLT, Int.reduceLE, Int.reduceEq, Int.reduceToNat, Int.reduceAdd, Int.reduceSub, Int.reduceNeg]) (by simp +contextual only [vq, vc, ve, vv, vn, vl, ↓reduceIte, Nat.reduceEqDiff, Nat.reduceAdd, Nat.reduceMul, Nat.reduceSub, Nat.reduceLeDiff, Nat.reduceLT, Nat.reduceBEq, Nat.reduceBNe, reduceCtorEq, Int.reduceBEq, Int.reduceBNe, Int.reduceLT, Int.reduceLE, Int.reduceEq, Int.reduceToNat, Int.reduceAdd, Int.reduceSub, Int.reduceNeg, A5])
    | false =>
      rw [h32] at u32
      have hsp : s[i] = 32 := by simpa using h32
      by_cases h16 : acc.length = 16
      · have hpe : parseS w s (s.length + 1) 0 [] = ([], 4, (i : Int)) := by
          rw [← hp, parseS, if_pos hlt, if_neg (by rw [List.getElem?_eq_getElem hlt, hsp]; simp), if_pos h16]
        obtain ⟨K', w1, w2, hend⟩ := err N 4 i hgN hlN hpe
        have k16 : ((acc.length : Int) == 16) = true := beq_iff_eq.2 (by omega)
        simp +contextual only [vq, vc, ve, vv, vn, vl, ↓reduceIte, Nat.reduceEqDiff, Nat.reduceAdd, Nat.reduceMul, Nat.reduceSub, Nat.reduceLeDiff, Nat.reduceLT, Nat.reduceBEq, Nat.reduceBNe, reduceCtorEq, Int.reduceBEq, Int.reduceBNe, Int.reduceLT, Int.reduceLE, Int.reduceEq, Int.reduceToNat, Int.reduceAdd, Int.reduceSub, Int.reduceNeg, A0, A6, A7, hlt, get_byte hlt, u32, lv, k16, A5, w1]
        exact hend _ (by simp +contextual only [vq, vc, ve, vv, vn, vl, ↓reduceIte, Nat.reduceEqDiff, Nat.reduceAdd, Nat.reduceMul, Nat.reduceSub, Nat.reduceLeDiff, Nat.reduceLT, Nat.reduceBEq, Nat.reduceBNe, reduceCtorEq, Int.reduceBEq, Int.reduceBNe, Int.reduceLT, Int.reduceLE, Int.reduceEq, Int.reduceToNat, Int.reduceAdd, Int.reduceSub, Int.reduceNeg]) (by simp +contextual only [vq, vc, ve, vv, vn, vl, ↓reduceIte, Nat.reduceEqDiff, Nat.reduceAdd, Nat.reduceMul, Nat.reduceSub, Nat.reduceLeDiff, Nat.reduceLT, Nat.reduceBEq, Nat.reduceBNe, reduceCtorEq, Int.reduceBEq, Int.reduceBNe, Int.reduceLT, Int.reduceLE, Int.reduceEq, Int.reduceToNat, Int.reduceAdd, Int.reduceSub, Int.reduceNeg, A5])
      · have k16 : ((acc.length : Int) == 16) = false := beq_eq_false_iff_ne.2 (by omega)
        have hi1 : i + 1 ≤ s.length := by omega
        have hkl := kwd_le (s.drop (i + 1))
        rw [List.length_drop] at hkl
        have hcK := c_r10_keyword N s (i + 1) hi1 (by omega)
        by_cases hn0 : kwd (s.drop (i + 1)) = 0
        · have hpe : parseS w s (s.length + 1) 0 [] = ([], 100, ((i + 1 : Nat) : Int)) := by
            rw [← hp, parseS, if_pos hlt, if_neg (by rw [List.getElem?_eq_getElem hlt, hsp]; simp), if_neg h16, if_pos hn0]
          rw [hn0] at hcK
          obtain ⟨K', w1, w2, hend⟩ := err N 100 (i + 1 : Nat) hgN hlN hpe
          simp +contextual only [vq, vc, ve, vv, vn, vl, ↓reduceIte, Nat.reduceEqDiff, Nat.reduceAdd, Nat.reduceMul, Nat.reduceSub, Nat.reduceLeDiff, Nat.reduceLT, Nat.reduceBEq, Nat.reduceBNe, reduceCtorEq, Int.reduceBEq, Int.reduceBNe, Int.reduceLT, Int.reduceLE, Int.reduceEq, Int.reduceToNat, Int.reduceAdd, Int.reduceSub, Int.reduceNeg, A0, A6, A7, hlt, get_byte hlt, u32, lv, k16, wsucc hlt (by omega), hi1, callR_val hcK, A5, w1]
          exact hend _ (by simp +contextual only [vq, vc, ve, vv, vn, vl, ↓reduceIte, Nat.reduceEqDiff, Nat.reduceAdd, Nat.reduceMul, Nat.reduceSub, Nat.reduceLeDiff, Nat.reduceLT, Nat.reduceBEq, Nat.reduceBNe, reduceCtorEq, Int.reduceBEq, Int.reduceBNe, Int.reduceLT, Int.reduceLE, Int.reduceEq, Int.reduceToNat, Int.reduceAdd, Int.reduceSub, Int.reduceNeg]) (by simp +contextual only [vq, vc, ve, vv, vn, vl, ↓reduceIte, Nat.reduceEqDiff, Nat.reduceAdd, Nat.reduceMul, Nat.reduceSub, Nat.reduceLeDiff, Nat.reduceLT, Nat.reduceBEq, Nat.reduceBNe, reduceCtorEq, Int.reduceBEq, Int.reduceBNe, Int.reduceLT, Int.reduceLE, Int.reduceEq, Int.reduceToNat, Int.reduceAdd, Int.reduceSub, Int.reduceNeg, A5])
        · obtain ⟨n, hn⟩ : ∃ n, kwd (s.drop (i + 1)) = n := ⟨_, rfl⟩
          rw [hn] at hcK hn0 hkl
          have hstep := parseS_at (w := w) (f := f) hlt hsp h16 hn hn0
          rw [hp] at hstep
          have kn : ((n : Int) == 0) = false := beq_eq_false_iff_ne.2 (by omega)
          have wn : IntKind.i64.wrap (((i + 1 : Nat) : Int) + (n : Int)) = ((i + 1 + n : Nat) : Int) := wrap_of (by omega) (by omega)
          have hi2 : i + 1 + n ≤ s.length := by omega
          have hi12 : i + 1 ≤ i + 1 + n := by omega
          have hin : i + 1 + n - (i + 1) = n := by omega
          have hU := c_r01_Upper N ((s.drop (i + 1)).take n) (by simp; omega)
          simp +contextual only [vq, vc, ve, vv, vn, vl, ↓reduceIte, Nat.reduceEqDiff, Nat.reduceAdd, Nat.reduceMul, Nat.reduceSub, Nat.reduceLeDiff, Nat.reduceLT, Nat.reduceBEq, Nat.reduceBNe, reduceCtorEq, Int.reduceBEq, Int.reduceBNe, Int.reduceLT, Int.reduceLE, Int.reduceEq, Int.reduceToNat, Int.reduceAdd, Int.reduceSub, Int.reduceNeg, A0, A6, A7, hlt, get_byte hlt, u32, lv, k16, wsucc hlt (by omega), hi1, callR_val hcK, kn, wn, hi2, hi12, hin, callR_val hU]
          generalize hname : upS ((s.drop (i + 1)).take n) = name at hstep hU ⊢
          refine new_mk fun N1 n1 => ?_
          have gN1 : Grown N N1 := by rw [n1]; exact Grown.rfl'.push
          have bN1 : N1.bl.length = N.bl.length + 1 := by rw [n1]; simp [Mem.push]
          obtain ⟨N2, w1, r2, t2, z2⟩ := putN_row (off := 0) (vs := [.str name, .str [], .bool false]) (m := N1) (b := N.bl.length) (cs := [.str [], .str [], .bool false]) (by rw [n1]; exact row_push _ _) (by simp)
          have r2 : RowIs N2 N.bl.length [.str name, .str [], .bool false] := r2
          have lN1 : m.bl.length ≤ N1.low := by rw [n1]; exact hlN
          have lN2 : m.bl.length ≤ N2.low := by omega
          have but : ∀ K : Mem, But1 N.bl.length N1 K → Grown N K := fun K hb => grown_of (by have := hb.1; omega) fun j hj => by rw [hb.2 j (by omega), gN1.at hj]
          -- the parameter is put behind
          have put : ∀ (K : Mem) (p : Par) (i' : Nat), But1 N.bl.length N1 K → m.bl.length ≤ K.low → RowIs K N.bl.length (parE p) → i < i' → i' ≤ s.length → parseS w s f i' (acc ++ [p]) = parseS w s (s.length + 1) 0 [] → K.getN G ⟨.mem N.bl.length 0, 0⟩ 3 = some (parE p) ∧ ∀ K1, K1 = K.push (.cells (parE p) 0 true) → RowIs K1 K.bl.length (parE p) ∧ ∃ v' K2, appendE G K1 3 40 0 v (parE p) 1 = some (v', K2) ∧ ∀ B : Fr, B 0 = .str s → B 1 = .bool w → B 5 = .ptr (some ⟨.mem M.bl.length 0, 0⟩) → B 6 = v' → B 7 = .int .i64 (i' : Nat) → ∀ Q, againE J (s.length - i) Q .normal ⟨B, K2, [], none⟩ := fun K p i' hb lK rK hi1' hi' hpp => by
            have gK := but K hb
            have h3 : (parE p).length = 3 := rfl
            refine ⟨by rw [rK.getN, if_neg (by omega), if_pos (by omega), List.drop_zero, List.take_of_length_le (by omega)], fun K1 k1 => ⟨by rw [k1]; exact row_push _ _, ?_⟩⟩
            have gK1 : Grown K K1 := by rw [k1]; exact Grown.rfl'.push
            have lK1 : K1.low = K.low := by rw [k1]; rfl
            have hgle := (gK.trans gK1).le
            obtain ⟨v', K2, k', ha, hv2, hk2, hag, hl2, hw2⟩ := (hv.grown (gK.trans gK1)).app (G := G) (bytes := 40) (cnt := 1) (new := parE p) tagOk_0 (by omega) rfl (by omega)
            refine ⟨v', K2, ha, fun B B0 B1 B5 B6 B7 Q => again2 hJ (s.length - i') (by omega) ⟨f, i', acc ++ [p], k', v', B, K2, rfl, rfl, by omega, hi', by simp; omega, hpp, B0, B1, B5, B6, B7, by simpa using hv2, fun j hj => ?_, grown_of (by omega) fun j hj => ?_, hw2 _ (by omega) (by omega) fun j hj => by have := hk j hj; omega⟩⟩
            · rcases hk2 with h | ⟨_, h⟩
              · exact hk j (by rw [← h, hj])
              · rw [h] at hj; cases hj; omega
            · rw [hag j (by omega) fun h => by have := hk j h.symm; omega, (gK.trans gK1).at (by omega), hgN.at hj]
          by_cases heq : s[i + 1 + n]? = some 61
          · have hl2 : i + 1 + n < s.length := (List.getElem?_eq_some_iff.1 heq).1
            have hb61 : s[i + 1 + n] = 61 := by rw [List.getElem?_eq_getElem hl2] at heq; exact Option.some.inj heq
            have u61 : ((s[i + 1 + n].toNat : Int) == 61) = true := by rw [hb61]; rfl
            rw [if_pos heq] at hstep
            obtain ⟨N3, w3, r3, t3, z3⟩ := put1_row (off := 2) (v := .bool true) r2 (by simp)
            have r3 : RowIs N3 N.bl.length [.str name, .str [], .bool true] := r3
            have lN3 : m.bl.length ≤ N3.low := by omega
            generalize hval : (s.drop (i + 1 + n + 1)).take (til (s.drop (i + 1 + n + 1))) = val at hstep
            have hvl : val.length = til (s.drop (i + 1 + n + 1)) := by rw [← hval, List.length_take, Nat.min_eq_left (til_le _)]
            have htl := til_le (s.drop (i + 1 + n + 1))
            rw [List.length_drop] at htl
            have hcut := c_r10_till N3 s (i + 1 + n + 1) (by omega) (by omega)
            rw [← hvl] at hcut
            have kv1 : i + 1 + n + 1 ≤ i + 1 + n + 1 + val.length := by omega
            have kv2 : i + 1 + n + 1 + val.length ≤ s.length := by omega
            have kv3 : i + 1 + n + 1 + val.length - (i + 1 + n + 1) = val.length := by omega
            have kv4 : (s.drop (i + 1 + n + 1)).take val.length = val := by rw [hvl]; exact hval
            have u61n : ((s[i + 1 + n].toNat : Int) != 61) = false := by rw [hb61]; rfl
            obtain ⟨N4, w4, r4, t4, z4⟩ := put1_row (off := 1) (v := .str val) r3 (by simp)
            have r4 : RowIs N4 N.bl.length [.str name, .str val, .bool true] := r4
            have lN4 : m.bl.length ≤ N4.low := by omega
            have hbad := c_r10_value N4 val w (by omega)
            have hbl := badV_le w val
            have hi3 : i + 1 + n + 1 ≤ s.length := by omega
            have b14 := (t2.trans t3).trans t4
            by_cases hbv : 0 ≤ badV w val
            · rw [if_pos hbv] at hstep
              obtain ⟨bv, hbve⟩ : ∃ bv : Nat, badV w val = bv := ⟨(badV w val).toNat, by omega⟩
              rw [hbve] at hstep hbad hbv hbl
              have wbv : IntKind.i64.wrap (((i + 1 + n + 1 : Nat) : Int) + (bv : Int)) = ((i + 1 + n + 1 : Nat) : Int) + (bv : Int) := wrap64 (by omega) (by omega)
              obtain ⟨K', q1, q2, hend⟩ := err N4 101 (((i + 1 + n + 1 : Nat) : Int) + (bv : Int)) (hgN.trans (but N4 b14)) lN4 hstep
              simp +contextual only [vq, vc, ve, vv, vn, vl, ↓reduceIte, Nat.reduceEqDiff, Nat.reduceAdd, Nat.reduceMul, Nat.reduceSub, Nat.reduceLeDiff, Nat.reduceLT, Nat.reduceBEq, Nat.reduceBNe, reduceCtorEq, Int.reduceBEq, Int.reduceBNe, Int.reduceLT, Int.reduceLE, Int.reduceEq, Int.reduceToNat, Int.reduceAdd, Int.reduceSub, Int.reduceNeg, w1, A0, A1, A7, wn, hl2, get_byte hl2, u61, u61n, wsucc hl2 (by omega), w3, hi3, kv1, kv2, kv3, kv4, callR_val hcut, w4, r4.get (G := G), callR_val hbad, wbv, A5, q1]
              exact hend _ (by simp +contextual only [vq, vc, ve, vv, vn, vl, ↓reduceIte, Nat.reduceEqDiff, Nat.reduceAdd, Nat.reduceMul, Nat.reduceSub, Nat.reduceLeDiff, Nat.reduceLT, Nat.reduceBEq, Nat.reduceBNe, reduceCtorEq, Int.reduceBEq, Int.reduceBNe, Int.reduceLT, Int.reduceLE, Int.reduceEq, Int.reduceToNat, Int.reduceAdd, Int.reduceSub, Int.reduceNeg]) (by simp +contextual only [vq, vc, ve, vv, vn, vl, ↓reduceIte, Nat.reduceEqDiff, Nat.reduceAdd, Nat.reduceMul, Nat.reduceSub, Nat.reduceLeDiff, Nat.reduceLT, Nat.reduceBEq, Nat.reduceBNe, reduceCtorEq, Int.reduceBEq, Int.reduceBNe, Int.reduceLT, Int.reduceLE, Int.reduceEq, Int.reduceToNat, Int.reduceAdd, Int.reduceSub, Int.reduceNeg, A5])
            · rw [if_neg hbv, ← hvl] at hstep
              obtain ⟨hg3, hput⟩ := put N4 ⟨name, val, true⟩ (i + 1 + n + 1 + val.length) b14 lN4 r4 (by omega) (by omega) hstep.symm
              have hg3 : N4.getN G ⟨.mem N.bl.length 0, 0⟩ 3 = some [.str name, .str val, .bool true] := hg3
              have wv : IntKind.i64.wrap (((i + 1 + n + 1 : Nat) : Int) + (val.length : Int)) = ((i + 1 + n + 1 + val.length : Nat) : Int) := wrap_of (by omega) (by omega)
              simp +contextual only [vq, vc, ve, vv, vn, vl, ↓reduceIte, Nat.reduceEqDiff, Nat.reduceAdd, Nat.reduceMul, Nat.reduceSub, Nat.reduceLeDiff, Nat.reduceLT, Nat.reduceBEq, Nat.reduceBNe, reduceCtorEq, Int.reduceBEq, Int.reduceBNe, Int.reduceLT, Int.reduceLE, Int.reduceEq, Int.reduceToNat, Int.reduceAdd, Int.reduceSub, Int.reduceNeg, w1, A0, A1, A7, wn, hl2, get_byte hl2, u61, u61n, wsucc hl2 (by omega), w3, hi3, kv1, kv2, kv3, kv4, callR_val hcut, w4, r4.get (G := G), callR_val hbad, hbv, wv, hg3]
              refine new_mk fun K1 k1 => ?_
              obtain ⟨rK1, v', K2, hap, hfin⟩ := hput K1 k1
              have rK1 : RowIs K1 N4.bl.length [.str name, .str val, .bool true] := rK1
              have hap : appendE G K1 3 40 0 v [.str name, .str val, .bool true] 1 = some (v', K2) := hap
              simp +contextual only [vq, vc, ve, vv, vn, vl, ↓reduceIte, Nat.reduceEqDiff, Nat.reduceAdd, Nat.reduceMul, Nat.reduceSub, Nat.reduceLeDiff, Nat.reduceLT, Nat.reduceBEq, Nat.reduceBNe, reduceCtorEq, Int.reduceBEq, Int.reduceBNe, Int.reduceLT, Int.reduceLE, Int.reduceEq, Int.reduceToNat, Int.reduceAdd, Int.reduceSub, Int.reduceNeg, rK1.getN (G := G), A6, hap]
              exact hfin _ (by simp +contextual only [vq, vc, ve, vv, vn, vl, ↓reduceIte, Nat.reduceEqDiff, Nat.reduceAdd, Nat.reduceMul, Nat.reduceSub, Nat.reduceLeDiff, Nat.reduceLT, Nat.reduceBEq, Nat.reduceBNe, reduceCtorEq, Int.reduceBEq, Int.reduceBNe, Int.reduceLT, Int.reduceLE, Int.reduceEq, Int.reduceToNat, Int.reduceAdd, Int.reduceSub, Int.reduceNeg, A0]) (by simp +contextual only [vq, vc, ve, vv, vn, vl, ↓reduceIte, Nat.reduceEqDiff, Nat.reduceAdd, Nat.reduceMul, Nat.reduceSub, Nat.reduceLeDiff, Nat.reduceLT, Nat.reduceBEq, Nat.reduceBNe, reduceCtorEq, Int.reduceBEq, Int.reduceBNe, Int.reduceLT, Int.reduceLE, Int.reduceEq, Int.reduceToNat, Int.reduceAdd, Int.reduceSub, Int.reduceNeg, A1]) (by simp +contextual only [vq, vc, ve, vv, vn, vl, ↓reduceIte, Nat.reduceEqDiff, Nat.reduceAdd, Nat.reduceMul, Nat.reduceSub, Nat.reduceLeDiff, Nat.reduceLT, Nat.reduceBEq, Nat.reduceBNe, reduceCtorEq, Int.reduceBEq, Int.reduceBNe, Int.reduceLT, Int.reduceLE, Int.reduceEq, Int.reduceToNat, Int.reduceAdd, Int.reduceSub, Int.reduceNeg, A5]) (by simp +contextual only [vq, vc, ve, vv, vn, vl, ↓reduceIte, Nat.reduceEqDiff, Nat.reduceAdd, Nat.reduceMul, Nat.reduceSub, Nat.reduceLeDiff, Nat.reduceLT, Nat.reduceBEq, Nat.reduceBNe, reduceCtorEq, Int.reduceBEq, Int.reduceBNe, Int.reduceLT, Int.reduceLE, Int.reduceEq, Int.reduceToNat, Int.reduceAdd, Int.reduceSub, Int.reduceNeg]) (by simp +contextual only [vq, vc, ve, vv, vn, vl, ↓reduceIte, Nat.reduceEqDiff, Nat.reduceAdd, Nat.reduceMul, Nat.reduceSub, Nat.reduceLeDiff, Nat.reduceLT, Nat.reduceBEq, Nat.reduceBNe, reduceCtorEq, Int.reduceBEq, Int.reduceBNe, Int.reduceLT, Int.reduceLE, Int.reduceEq, Int.reduceToNat, Int.reduceAdd, Int.reduceSub, Int.reduceNeg]) _
          · rw [if_neg heq] at hstep
            by_cases hl2 : i + 1 + n < s.length
            · have hb61 : s[i + 1 + n] ≠ 61 := fun h => heq (by rw [List.getElem?_eq_getElem hl2, h])
              have u61 : ((s[i + 1 + n].toNat : Int) == 61) = false := by
                have := u8_eq s[i + 1 + n] 61
                rw [show ((61 : UInt8).toNat : Int) = 61 from rfl] at this
                rw [this]
                simpa using hb61
              have u61n : ((s[i + 1 + n].toNat : Int) != 61) = true := by simp only [bne, u61, Bool.not_false]
              have u322 : ((s[i + 1 + n].toNat : Int) != 32) = (s[i + 1 + n] != 32) := by
                have := u8_eq s[i + 1 + n] 32
                simp only [bne]
                exact congrArg (! ·) this
              cases h322 : (s[i + 1 + n] != 32) with
              | true =>
                rw [h322] at u322
                rw [if_pos ⟨hl2, by rw [List.getElem?_eq_getElem hl2]; intro h; rw [Option.some.inj h] at h322; simp at h322⟩] at hstep
                obtain ⟨K', q1, q2, hend⟩ := err N2 100 (i + 1 + n : Nat) (hgN.trans (but N2 t2)) lN2 hstep
                simp +contextual only [vq, vc, ve, vv, vn, vl, ↓reduceIte, Nat.reduceEqDiff, Nat.reduceAdd, Nat.reduceMul, Nat.reduceSub, Nat.reduceLeDiff, Nat.reduceLT, Nat.reduceBEq, Nat.reduceBNe, reduceCtorEq, Int.reduceBEq, Int.reduceBNe, Int.reduceLT, Int.reduceLE, Int.reduceEq, Int.reduceToNat, Int.reduceAdd, Int.reduceSub, Int.reduceNeg, w1, A0, A1, A7, wn, hl2, get_byte hl2, u61, u61n, u322, A5, q1]
                exact hend _ (by simp +contextual only [vq, vc, ve, vv, vn, vl, ↓reduceIte, Nat.reduceEqDiff, Nat.reduceAdd, Nat.reduceMul, Nat.reduceSub, Nat.reduceLeDiff, Nat.reduceLT, Nat.reduceBEq, Nat.reduceBNe, reduceCtorEq, Int.reduceBEq, Int.reduceBNe, Int.reduceLT, Int.reduceLE, Int.reduceEq, Int.reduceToNat, Int.reduceAdd, Int.reduceSub, Int.reduceNeg]) (by simp +contextual only [vq, vc, ve, vv, vn, vl, ↓reduceIte, Nat.reduceEqDiff, Nat.reduceAdd, Nat.reduceMul, Nat.reduceSub, Nat.reduceLeDiff, Nat.reduceLT, Nat.reduceBEq, Nat.reduceBNe, reduceCtorEq, Int.reduceBEq, Int.reduceBNe, Int.reduceLT, Int.reduceLE, Int.reduceEq, Int.reduceToNat, Int.reduceAdd, Int.reduceSub, Int.reduceNeg, A5])
              | false =>
                rw [h322] at u322
                rw [if_neg (fun h => h.2 (by rw [List.getElem?_eq_getElem hl2]; simpa using h322))] at hstep
                obtain ⟨hg3, hput⟩ := put N2 ⟨name, [], false⟩ (i + 1 + n) t2 lN2 r2 (by omega) (by omega) hstep.symm
                have hg3 : N2.getN G ⟨.mem N.bl.length 0, 0⟩ 3 = some [.str name, .str [], .bool false] := hg3
                simp +contextual only [vq, vc, ve, vv, vn, vl, ↓reduceIte, Nat.reduceEqDiff, Nat.reduceAdd, Nat.reduceMul, Nat.reduceSub, Nat.reduceLeDiff, Nat.reduceLT, Nat.reduceBEq, Nat.reduceBNe, reduceCtorEq, Int.reduceBEq, Int.reduceBNe, Int.reduceLT, Int.reduceLE, Int.reduceEq, Int.reduceToNat, Int.reduceAdd, Int.reduceSub, Int.reduceNeg, w1, A0, A1, A7, wn, hl2, get_byte hl2, u61, u61n, u322, hg3]
                refine new_mk fun K1 k1 => ?_
                obtain ⟨rK1, v', K2, hap, hfin⟩ := hput K1 k1
                have rK1 : RowIs K1 N2.bl.length [.str name, .str [], .bool false] := rK1
                have hap : appendE G K1 3 40 0 v [.str name, .str [], .bool false] 1 = some (v', K2) := hap
                simp +contextual only [vq, vc, ve, vv, vn, vl, ↓reduceIte, Nat.reduceEqDiff, Nat.reduceAdd, Nat.reduceMul, Nat.reduceSub, Nat.reduceLeDiff, Nat.reduceLT, Nat.reduceBEq, Nat.reduceBNe, reduceCtorEq, Int.reduceBEq, Int.reduceBNe, Int.reduceLT, Int.reduceLE, Int.reduceEq, Int.reduceToNat, Int.reduceAdd, Int.reduceSub, Int.reduceNeg, rK1.getN (G := G), A6, hap]
                exact hfin _ (by simp +contextual only [vq, vc, ve, vv, vn, vl, ↓reduceIte, Nat.reduceEqDiff, Nat.reduceAdd, Nat.reduceMul, Nat.reduceSub, Nat.reduceLeDiff, Nat.reduceLT, Nat.reduceBEq, Nat.reduceBNe, reduceCtorEq, Int.reduceBEq, Int.reduceBNe, Int.reduceLT, Int.reduceLE, Int.reduceEq, Int.reduceToNat, Int.reduceAdd, Int.reduceSub, Int.reduceNeg, A0]) (by simp +contextual only [vq, vc, ve, vv, vn, vl, ↓reduceIte, Nat.reduceEqDiff, Nat.reduceAdd, Nat.reduceMul, Nat.reduceSub, Nat.reduceLeDiff, Nat.reduceLT, Nat.reduceBEq, Nat.reduceBNe, reduceCtorEq, Int.reduceBEq, Int.reduceBNe, Int.reduceLT, Int.reduceLE, Int.reduceEq, Int.reduceToNat, Int.reduceAdd, Int.reduceSub, Int.reduceNeg, A1]) (by simp +contextual only [vq, vc, ve, vv, vn, vl, ↓reduceIte, Nat.reduceEqDiff, Nat.reduceAdd, Nat.reduceMul, Nat.reduceSub, Nat.reduceLeDiff, Nat.reduceLT, Nat.reduceBEq, Nat.reduceBNe, reduceCtorEq, Int.reduceBEq, Int.reduceBNe, Int.reduceLT, Int.reduceLE, Int.reduceEq, Int.reduceToNat, Int.reduceAdd, Int.reduceSub, Int.reduceNeg, A5]) (by simp +contextual only [vq, vc, ve, vv, vn, vl, ↓reduceIte, Nat.reduceEqDiff, Nat.reduceAdd, Nat.reduceMul, Nat.reduceSub, Nat.reduceLeDiff, Nat.reduceLT, Nat.reduceBEq, Nat.reduceBNe, reduceCtorEq, Int.reduceBEq, Int.reduceBNe, Int.reduceLT, Int.reduceLE, Int.reduceEq, Int.reduceToNat, Int.reduceAdd, Int.reduceSub, Int.reduceNeg]) (by simp +contextual only [vq, vc, ve, vv, vn, vl, ↓reduceIte, Nat.reduceEqDiff, Nat.reduceAdd, Nat.reduceMul, Nat.reduceSub, Nat.reduceLeDiff, Nat.reduceLT, Nat.reduceBEq, Nat.reduceBNe, reduceCtorEq, Int.reduceBEq, Int.reduceBNe, Int.reduceLT, Int.reduceLE, Int.reduceEq, Int.reduceToNat, Int.reduceAdd, Int.reduceSub, Int.reduceNeg]) _
            · rw [if_neg (fun h => hl2 h.1)] at hstep
              obtain ⟨hg3, hput⟩ := put N2 ⟨name, [], false⟩ (i + 1 + n) t2 lN2 r2 (by omega) (by omega) hstep.symm
              have hg3 : N2.getN G ⟨.mem N.bl.length 0, 0⟩ 3 = some [.str name, .str [], .bool false] := hg3
              simp +contextual only [vq, vc, ve, vv, vn, vl, ↓reduceIte, Nat.reduceEqDiff, Nat.reduceAdd, Nat.reduceMul, Nat.reduceSub, Nat.reduceLeDiff, Nat.reduceLT, Nat.reduceBEq, Nat.reduceBNe, reduceCtorEq, Int.reduceBEq, Int.reduceBNe, Int.reduceLT, Int.reduceLE, Int.reduceEq, Int.reduceToNat, Int.reduceAdd, Int.reduceSub, Int.reduceNeg, w1, A0, A1, A7, wn, hl2, hg3]
              refine new_mk fun K1 k1 => ?_
              obtain ⟨rK1, v', K2, hap, hfin⟩ := hput K1 k1
              have rK1 : RowIs K1 N2.bl.length [.str name, .str [], .bool false] := rK1
              have hap : appendE G K1 3 40 0 v [.str name, .str [], .bool false] 1 = some (v', K2) := hap
              simp +contextual only [vq, vc, ve, vv, vn, vl, ↓reduceIte, Nat.reduceEqDiff, Nat.reduceAdd, Nat.reduceMul, Nat.reduceSub, Nat.reduceLeDiff, Nat.reduceLT, Nat.reduceBEq, Nat.reduceBNe, reduceCtorEq, Int.reduceBEq, Int.reduceBNe, Int.reduceLT, Int.reduceLE, Int.reduceEq, Int.reduceToNat, Int.reduceAdd, Int.reduceSub, Int.reduceNeg, rK1.getN (G := G), A6, hap]
              exact hfin _ (by simp +contextual only [vq, vc, ve, vv, vn, vl, ↓reduceIte, Nat.reduceEqDiff, Nat.reduceAdd, Nat.reduceMul, Nat.reduceSub, Nat.reduceLeDiff, Nat.reduceLT, Nat.reduceBEq, Nat.reduceBNe, reduceCtorEq, Int.reduceBEq, Int.reduceBNe, Int.reduceLT, Int.reduceLE, Int.reduceEq, Int.reduceToNat, Int.reduceAdd, Int.reduceSub, Int.reduceNeg, A0]) (by simp +contextual only [vq, vc, ve, vv, vn, vl, ↓reduceIte, Nat.reduceEqDiff, Nat.reduceAdd, Nat.reduceMul, Nat.reduceSub, Nat.reduceLeDiff, Nat.reduceLT, Nat.reduceBEq, Nat.reduceBNe, reduceCtorEq, Int.reduceBEq, Int.reduceBNe, Int.reduceLT, Int.reduceLE, Int.reduceEq, Int.reduceToNat, Int.reduceAdd, Int.reduceSub, Int.reduceNeg, A1]) (by simp +contextual only [vq, vc, ve, vv, vn, vl, ↓reduceIte, Nat.reduceEqDiff, Nat.reduceAdd, Nat.reduceMul, Nat.reduceSub, Nat.reduceLeDiff, Nat.reduceLT, Nat.reduceBEq, Nat.reduceBNe, reduceCtorEq, Int.reduceBEq, Int.reduceBNe, Int.reduceLT, Int.reduceLE, Int.reduceEq, Int.reduceToNat, Int.reduceAdd, Int.reduceSub, Int.reduceNeg, A5]) (by simp +contextual only [vq, vc, ve, vv, vn, vl, ↓reduceIte, Nat.reduceEqDiff, Nat.reduceAdd, Nat.reduceMul, Nat.reduceSub, Nat.reduceLeDiff, Nat.reduceLT, Nat.reduceBEq, Nat.reduceBNe, reduceCtorEq, Int.reduceBEq, Int.reduceBNe, Int.reduceLT, Int.reduceLE, Int.reduceEq, Int.reduceToNat, Int.reduceAdd, Int.reduceSub, Int.reduceNeg]) (by simp +contextual only [vq, vc, ve, vv, vn, vl, ↓reduceIte, Nat.reduceEqDiff, Nat.reduceAdd, Nat.reduceMul, Nat.reduceSub, Nat.reduceLeDiff, Nat.reduceLT, Nat.reduceBEq, Nat.reduceBNe, reduceCtorEq, Int.reduceBEq, Int.reduceBNe, Int.reduceLT, Int.reduceLE, Int.reduceEq, Int.reduceToNat, Int.reduceAdd, Int.reduceSub, Int.reduceNeg]) _
  · have hpe : parseS w s (s.length + 1) 0 [] = (acc, 0, 0) := by rw [← hp, parseS, if_neg hlt]
    obtain ⟨K', w1, w2, w3, w4⟩ := putN_row (off := 0) (vs := [.int .i64 0, .int .i64 0]) (R1.grown hgN) (by simp)
    have w2 : RowIs K' M.bl.length [.int .i64 0, .int .i64 0] := w2
    have lw : m.bl.length ≤ K'.low := by omega
    have gK : Grown m K' := grown_of (by have := w3.1; omega) fun j hj => by rw [w3.2 j (by omega), ((hg.trans g1).trans hgN).at hj]
    have hvK := hv.keep (M := K') fun j hj => w3.2 j (by have := hk j hj; omega)
    simp +contextual only [vq, vc, ve, vv, vn, vl, ↓reduceIte, Nat.reduceEqDiff, Nat.reduceAdd, Nat.reduceMul, Nat.reduceSub, Nat.reduceLeDiff, Nat.reduceLT, Nat.reduceBEq, Nat.reduceBNe, reduceCtorEq, Int.reduceBEq, Int.reduceBNe, Int.reduceLT, Int.reduceLE, Int.reduceEq, Int.reduceToNat, Int.reduceAdd, Int.reduceSub, Int.reduceNeg, A0, A5, A6, A7, hlt, w1]
    rcases hv.row with ⟨rfl, hr0, ha0⟩ | ⟨j, g, hj, rfl, _⟩
    · exact postX_same (v := .tuple [.slice none 0 0 0, .agg [.int .i64 0, .int .i64 0]]) (by simp +contextual only [vq, vc, ve, vv, vn, vl, ↓reduceIte, Nat.reduceEqDiff, Nat.reduceAdd, Nat.reduceMul, Nat.reduceSub, Nat.reduceLeDiff, Nat.reduceLT, Nat.reduceBEq, Nat.reduceBNe, reduceCtorEq, Int.reduceBEq, Int.reduceBNe, Int.reduceLT, Int.reduceLE, Int.reduceEq, Int.reduceToNat, Int.reduceAdd, Int.reduceSub, Int.reduceNeg, w2.getN (G := G), A5]) lw rfl (by
        unfold ParseR
        rw [hpe]
        exact ⟨_, m, none, rfl, Grown.rfl', by omega, by simp only; rw [hr0, ha0]; exact Priv.nil, fun _ h => by cases h⟩)
    · have hjk := hk j hj
      exact postX_new (v := .tuple [.slice (some ⟨.mem j g, 0⟩) acc.length acc.length 3, .agg [.int .i64 0, .int .i64 0]]) (by simp +contextual only [vq, vc, ve, vv, vn, vl, ↓reduceIte, Nat.reduceEqDiff, Nat.reduceAdd, Nat.reduceMul, Nat.reduceSub, Nat.reduceLeDiff, Nat.reduceLT, Nat.reduceBEq, Nat.reduceBNe, reduceCtorEq, Int.reduceBEq, Int.reduceBNe, Int.reduceLT, Int.reduceLE, Int.reduceEq, Int.reduceToNat, Int.reduceAdd, Int.reduceSub, Int.reduceNeg, w2.getN (G := G), A5]) (by simp [noref, norefs]; omega) (by
        unfold ParseR
        rw [hpe]
        exact ⟨_, _, k, rfl, gK, by simp only; omega, hvK.keep fun _ _ => rfl, fun j hj => by have := hk j hj; omega⟩)
end Go.Proofs.YtmjoaiccbghijaaGreatDoor.paramAgain

namespace Go.Proofs.YtmjoaiccbghijaaGreatDoor.paramAgain
open Go.Ev hiding Comes
variable [GG]

theorem pair_store {m M : Mem} {a b : EV} {x y : EV} (e : M = m.push (.cells [x, y] 0 true)) : ∃ M', M.putN ⟨.mem m.bl.length 0, 0⟩ [a, b] = some M' ∧ RowIs M' m.bl.length [a, b] ∧ Grown m M' ∧ M'.low = min m.low m.bl.length := by
  have R : RowIs M m.bl.length [x, y] := by rw [e]; exact row_push _ _
  have l1 : M.low = m.low := by rw [e]; rfl
  obtain ⟨M', w1, w2, w3, w4⟩ := putN_row (off := 0) (vs := [a, b]) R (by simp)
  have g : Grown m M := by rw [e]; exact Grown.rfl'.push
  have hl := g.le
  exact ⟨M', w1, w2, grown_of (by have := w3.1; omega) fun j hj => by rw [w3.2 j (by omega), g.at hj], by omega⟩
theorem parseS_len (w : Bool) (s : List UInt8) : ∀ (f i : Nat) (acc : List Par), (parseS w s f i acc).1.length ≤ acc.length + f
  | 0, i, acc => by simp [parseS]
  | f + 1, i, acc => by
    rw [parseS]
    split
    · split
      · simp
      split
      · simp
      split
      · simp
      split
      · split
        · simp
        · have := parseS_len w s f (i + 1 + kwd (s.drop (i + 1)) + 1 + til (s.drop (i + 1 + kwd (s.drop (i + 1)) + 1))) (acc ++ [⟨upS ((s.drop (i + 1)).take (kwd (s.drop (i + 1)))), (s.drop (i + 1 + kwd (s.drop (i + 1)) + 1)).take (til (s.drop (i + 1 + kwd (s.drop (i + 1)) + 1))), true⟩])
          simp at this ⊢
          omega
      split
      · simp
      · have := parseS_len w s f (i + 1 + kwd (s.drop (i + 1))) (acc ++ [⟨upS ((s.drop (i + 1)).take (kwd (s.drop (i + 1)))), [], false⟩])
        simp at this ⊢
        omega
    · simp
theorem priv_pars {k : Option Nat} {m : Mem} {v : EV} {l : List Par} (h : Priv k 3 0 m v ((l.map parE).flatten) l.length) : Pars G m v l := h.rows (by simp) par_len
end Go.Proofs.YtmjoaiccbghijaaGreatDoor.paramAgain

namespace Go.Proofs.YtmjoaiccbghijaaGreatDoor.paramAgain
open Go.Ev hiding Comes
variable [GG]

/-- What is wrong with a parameter that is to be written: 0: nothing. -/
def parBad (p : Par) : Int := if kwd p.name = 0 ∨ kwd p.name ≠ p.name.length ∨ upS p.name ≠ p.name then 100 else if (p.has && decide (0 ≤ badV true p.value)) || (!p.has && !(p.value == [])) then 101 else 0
def parW (p : Par) : List UInt8 := 32 :: p.name ++ (if p.has = true then 61 :: p.value else [])
/-- Parameters written: the text, and what is wrong. -/
def prs : List Par → List UInt8 × Int
  | [] => ([], 0)
  | p :: l => if parBad p = 0 then (match prs l with
    | (t, 0) => (parW p ++ t, 0)
    | (_, e) => ([], e)) else ([], parBad p)
def printP (l : List Par) : List UInt8 × Int := if 16 < l.length then ([], 4) else prs l
def wrote (l : List Par) : List UInt8 := l.flatMap parW
theorem prs_ok : ∀ {l : List Par}, (∀ p ∈ l, parBad p = 0) → prs l = (wrote l, 0)
  | [], _ => rfl
  | p :: l, h => by
    rw [prs, if_pos (h p (List.mem_cons_self ..)), prs_ok (fun q hq => h q (List.mem_cons_of_mem _ hq))]
    rfl
theorem prs_bad : ∀ {l : List Par} {i : Nat} (hi : i < l.length), (∀ p ∈ l.take i, parBad p = 0) → parBad l[i] ≠ 0 → prs l = ([], parBad l[i])
  | [], _, hi, _, _ => by simp at hi
  | p :: l, 0, _, _, hb => by
    have hb : parBad p ≠ 0 := hb
    show prs (p :: l) = ([], parBad p)
    rw [prs, if_neg hb]
  | p :: l, i + 1, hi, h, hb => by
    rw [prs, if_pos (h p (by simp)), prs_bad (l := l) (i := i) (by simpa using hi) (fun q hq => h q (by simp [hq])) hb]
    split
    · rename_i h0
      simp only [Prod.mk.injEq] at h0
      exact absurd h0.2 hb
    · rename_i t e h0 h1
      simp only [Prod.mk.injEq] at h1
      rw [← h1.2]
      rfl
theorem wrote_next {l : List Par} {i : Nat} (hi : i < l.length) : wrote (l.take (i + 1)) = wrote (l.take i) ++ parW l[i] := by
  rw [List.take_succ_eq_append_getElem hi, wrote, List.flatMap_append]
  simp [wrote]

def ParsOk (l : List Par) : Prop := ∀ p ∈ l, p.name.length ≤ 1000000000 ∧ p.value.length ≤ 1000000000
theorem parW_len {p : Par} (h : p.name.length ≤ 1000000000 ∧ p.value.length ≤ 1000000000) : (parW p).length ≤ 2000000002 := by
  unfold parW
  split <;> simp <;> omega
theorem wrote_len : ∀ {l : List Par}, ParsOk l → (wrote l).length ≤ l.length * 2000000002
  | [], _ => by simp [wrote]
  | p :: l, h => by
    have h1 := parW_len (h p (List.mem_cons_self ..))
    have h2 := wrote_len (l := l) (fun q hq => h q (List.mem_cons_of_mem _ hq))
    simp only [wrote, List.flatMap_cons, List.length_append, List.length_cons] at h2 ⊢
    omega
theorem bad_kw (p : Par) : ((kwd p.name == 0) || (kwd p.name != p.name.length) || !(upS p.name == p.name)) = decide (kwd p.name = 0 ∨ kwd p.name ≠ p.name.length ∨ upS p.name ≠ p.name) := by
  rw [Bool.eq_iff_iff]
  simp [or_assoc]

end Go.Proofs.YtmjoaiccbghijaaGreatDoor.paramAgain
