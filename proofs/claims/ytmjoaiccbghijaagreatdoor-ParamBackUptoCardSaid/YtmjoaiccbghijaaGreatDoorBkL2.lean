/- A part of the proof of the statement that this claim hands in: what single functions come to. There are no conditions. -/
import Derived.Test.YtmjoaiccbghijaaGreatDoorBkL1
import Derived.Test.YtmjoaiccbghijaaGreatDoorXEv33
set_option linter.unusedVariables false
set_option linter.unusedSimpArgs false
set_option linter.unusedSectionVars false
namespace Go.Proofs.YtmjoaiccbghijaaGreatDoor.paramBack
open Go.Ev hiding Comes
variable [GG]

theorem wi {z : Int} (h : -2000000000000 ≤ z ∧ z ≤ 2000000000000) : IntKind.i64.wrap z = z := wrap64 (by omega) (by omega)
theorem w32 {z : Int} (h0 : 0 ≤ z) (h1 : z ≤ 1114111) : IntKind.i32.wrap z = z := by
  unfold IntKind.wrap
  simp [IntKind.bits, IntKind.signed]
  omega
theorem c_r05_made (m : Mem) (l : List UInt8) (a : Ad) (cap : Nat) (h1 : 1 ≤ l.length) (h4 : l.length ≤ 4) (hcap : l.length ≤ cap) (hg0 : m.getN G a l.length = some (bytesE l)) (ho : oldAd m.bl.length a = true) :
    Go.Ev.Comes T G f_r05_made [.slice (some a) l.length cap 1] m none ⟨.val (.tuple [.int .i32 (IntKind.i32.wrap (madeX l)), .bool (madeOk l)]), m, none⟩ := by
  refine comes2 T_r05_made rfl fun M hg hlen hlow => ?_
  have hgM := getN_grown hg hg0
  have oM := oldAd_le ho hg.le
  have hl0 : m.bl.length ≤ M.low := by omega
  have at_ : ∀ (i : Nat) (hi : i < l.length), M.get G (a.plus i) = some (byteE l[i]) := fun i hi => by
    have := get_part (a := a) (off := 0) (k := i) (v := byteE l[i]) (by rw [Ad.plus_zero]; exact hgM) (by omega) (sub_one (by simp [bytesE, hi]))
    rwa [Nat.zero_add] at this
  have d0 := at_ 0 (by omega)
  have hl := lead_le l.length
  have hb := l[0].toNat_lt
  have x0 : IntKind.i64.wrap ((l[0].toNat : Int)) = (l[0].toNat : Int) := wi (by omega)
  have x1 : IntKind.i64.wrap ((l[0].toNat : Int) - leadZ l.length) = madeK l 0 := by
    rw [wi (by omega)]
    match l, h1 with
    | b :: r, _ => rfl
  rw [Ad.plus_zero] at d0
  have p0 : 0 < l.length := by omega
  have h1' : (1 : Int) ≤ (l.length : Int) := by omega
  simp only [F_r05_made]
  simp +contextual only [vq, vc, ve, vv, vn, vl, ↓reduceIte, Nat.reduceEqDiff, Nat.reduceAdd, Nat.reduceMul, Nat.reduceSub, Nat.reduceLeDiff, Nat.reduceLT, Nat.reduceBEq, Nat.reduceBNe, reduceCtorEq, Int.reduceBEq, Int.reduceBNe, Int.reduceLT, Int.reduceLE, Int.reduceEq, Int.reduceToNat, Int.reduceAdd, Int.reduceSub, Int.reduceNeg, p0, d0, oM, x0, x1, callR_val (c_r05_lead _ _ (show l.length < 5 by omega)), h1', hcap]
  refine loop2 (fun n st => ∃ i A, st = ⟨A, M, [], none⟩ ∧ n = l.length - 1 - i ∧ i ≤ l.length - 1 ∧ A 0 = .slice (some a) l.length cap 1 ∧ A 4 = .int .i64 (madeK l i) ∧ A 16 = .slice (some (a.plus 1)) (l.length - 1) (cap - 1) 1 ∧ A 17 = .int .i64 (l.length - 1 : Nat) ∧ A 18 = .int .i64 (i : Nat)) (l.length - 1) ⟨0, _, rfl, by omega, by omega, by simp +contextual only [vq, vc, ve, vv, vn, vl, ↓reduceIte, Nat.reduceEqDiff, Nat.reduceAdd, Nat.reduceMul, Nat.reduceSub, Nat.reduceLeDiff, Nat.reduceLT, Nat.reduceBEq, Nat.reduceBNe, reduceCtorEq, Int.reduceBEq, Int.reduceBNe, Int.reduceLT, Int.reduceLE, Int.reduceEq, Int.reduceToNat, Int.reduceAdd, Int.reduceSub, Int.reduceNeg], by simp +contextual only [vq, vc, ve, vv, vn, vl, ↓reduceIte, Nat.reduceEqDiff, Nat.reduceAdd, Nat.reduceMul, Nat.reduceSub, Nat.reduceLeDiff, Nat.reduceLT, Nat.reduceBEq, Nat.reduceBNe, reduceCtorEq, Int.reduceBEq, Int.reduceBNe, Int.reduceLT, Int.reduceLE, Int.reduceEq, Int.reduceToNat, Int.reduceAdd, Int.reduceSub, Int.reduceNeg], by simp +contextual only [vq, vc, ve, vv, vn, vl, ↓reduceIte, Nat.reduceEqDiff, Nat.reduceAdd, Nat.reduceMul, Nat.reduceSub, Nat.reduceLeDiff, Nat.reduceLT, Nat.reduceBEq, Nat.reduceBNe, reduceCtorEq, Int.reduceBEq, Int.reduceBNe, Int.reduceLT, Int.reduceLE, Int.reduceEq, Int.reduceToNat, Int.reduceAdd, Int.reduceSub, Int.reduceNeg], by simp +contextual only [vq, vc, ve, vv, vn, vl, ↓reduceIte, Nat.reduceEqDiff, Nat.reduceAdd, Nat.reduceMul, Nat.reduceSub, Nat.reduceLeDiff, Nat.reduceLT, Nat.reduceBEq, Nat.reduceBNe, reduceCtorEq, Int.reduceBEq, Int.reduceBNe, Int.reduceLT, Int.reduceLE, Int.reduceEq, Int.reduceToNat, Int.reduceAdd, Int.reduceSub, Int.reduceNeg], by simp +contextual only [vq, vc, ve, vv, vn, vl, ↓reduceIte, Nat.reduceEqDiff, Nat.reduceAdd, Nat.reduceMul, Nat.reduceSub, Nat.reduceLeDiff, Nat.reduceLT, Nat.reduceBEq, Nat.reduceBNe, reduceCtorEq, Int.reduceBEq, Int.reduceBNe, Int.reduceLT, Int.reduceLE, Int.reduceEq, Int.reduceToNat, Int.reduceAdd, Int.reduceSub, Int.reduceNeg]; rfl⟩ fun J hJ n st hI => ?_
  obtain ⟨i, A, rfl, rfl, hi, A0, A4, A16, A17, A18⟩ := hI
  have hms := madeK_small h4 i
  simp +contextual only [vq, vc, ve, vv, vn, vl, ↓reduceIte, Nat.reduceEqDiff, Nat.reduceAdd, Nat.reduceMul, Nat.reduceSub, Nat.reduceLeDiff, Nat.reduceLT, Nat.reduceBEq, Nat.reduceBNe, reduceCtorEq, Int.reduceBEq, Int.reduceBNe, Int.reduceLT, Int.reduceLE, Int.reduceEq, Int.reduceToNat, Int.reduceAdd, Int.reduceSub, Int.reduceNeg, A17, A18]
  refine br2_dec (fun hlt => ?_) (fun hge => ?_)
  · have d1 := at_ (i + 1) (by omega)
    have hc := (l[i + 1]'(by omega)).toNat_lt
    have q1 : IntKind.i64.wrap (64 * madeK l i) = 64 * madeK l i := wi (by omega)
    have q2 : IntKind.i64.wrap (((l[i + 1]'(by omega)).toNat : Int)) = ((l[i + 1]'(by omega)).toNat : Int) := wi (by omega)
    have q3 : IntKind.i64.wrap (64 * madeK l i + ((l[i + 1]'(by omega)).toNat : Int)) = 64 * madeK l i + ((l[i + 1]'(by omega)).toNat : Int) := wi (by omega)
    have q4 : IntKind.i64.wrap (64 * madeK l i + ((l[i + 1]'(by omega)).toNat : Int) - 128) = madeK l (i + 1) := by
      rw [madeK_next (by omega)]
      exact wi (by omega)
    have pl : 1 + i = i + 1 := by omega
    simp +contextual only [vq, vc, ve, vv, vn, vl, ↓reduceIte, Nat.reduceEqDiff, Nat.reduceAdd, Nat.reduceMul, Nat.reduceSub, Nat.reduceLeDiff, Nat.reduceLT, Nat.reduceBEq, Nat.reduceBNe, reduceCtorEq, Int.reduceBEq, Int.reduceBNe, Int.reduceLT, Int.reduceLE, Int.reduceEq, Int.reduceToNat, Int.reduceAdd, Int.reduceSub, Int.reduceNeg, A4, A16, A18, hlt, pl, d1, q1, q2, q3, q4, wsucc hlt (by omega)]
    exact again2 hJ (l.length - 1 - (i + 1)) (by omega) ⟨i + 1, _, rfl, rfl, by omega, by simp +contextual only [vq, vc, ve, vv, vn, vl, ↓reduceIte, Nat.reduceEqDiff, Nat.reduceAdd, Nat.reduceMul, Nat.reduceSub, Nat.reduceLeDiff, Nat.reduceLT, Nat.reduceBEq, Nat.reduceBNe, reduceCtorEq, Int.reduceBEq, Int.reduceBNe, Int.reduceLT, Int.reduceLE, Int.reduceEq, Int.reduceToNat, Int.reduceAdd, Int.reduceSub, Int.reduceNeg, A0], by simp +contextual only [vq, vc, ve, vv, vn, vl, ↓reduceIte, Nat.reduceEqDiff, Nat.reduceAdd, Nat.reduceMul, Nat.reduceSub, Nat.reduceLeDiff, Nat.reduceLT, Nat.reduceBEq, Nat.reduceBNe, reduceCtorEq, Int.reduceBEq, Int.reduceBNe, Int.reduceLT, Int.reduceLE, Int.reduceEq, Int.reduceToNat, Int.reduceAdd, Int.reduceSub, Int.reduceNeg], by simp +contextual only [vq, vc, ve, vv, vn, vl, ↓reduceIte, Nat.reduceEqDiff, Nat.reduceAdd, Nat.reduceMul, Nat.reduceSub, Nat.reduceLeDiff, Nat.reduceLT, Nat.reduceBEq, Nat.reduceBNe, reduceCtorEq, Int.reduceBEq, Int.reduceBNe, Int.reduceLT, Int.reduceLE, Int.reduceEq, Int.reduceToNat, Int.reduceAdd, Int.reduceSub, Int.reduceNeg, A16], by simp +contextual only [vq, vc, ve, vv, vn, vl, ↓reduceIte, Nat.reduceEqDiff, Nat.reduceAdd, Nat.reduceMul, Nat.reduceSub, Nat.reduceLeDiff, Nat.reduceLT, Nat.reduceBEq, Nat.reduceBNe, reduceCtorEq, Int.reduceBEq, Int.reduceBNe, Int.reduceLT, Int.reduceLE, Int.reduceEq, Int.reduceToNat, Int.reduceAdd, Int.reduceSub, Int.reduceNeg, A17], by simp +contextual only [vq, vc, ve, vv, vn, vl, ↓reduceIte, Nat.reduceEqDiff, Nat.reduceAdd, Nat.reduceMul, Nat.reduceSub, Nat.reduceLeDiff, Nat.reduceLT, Nat.reduceBEq, Nat.reduceBNe, reduceCtorEq, Int.reduceBEq, Int.reduceBNe, Int.reduceLT, Int.reduceLE, Int.reduceEq, Int.reduceToNat, Int.reduceAdd, Int.reduceSub, Int.reduceNeg]⟩
  · have hie : i = l.length - 1 := by omega
    subst hie
    rw [madeK_end] at A4 hms
    cases hR : isR (madeX l) with
    | true =>
      obtain ⟨⟨r0, r1⟩, _⟩ := (isR_iff _).1 hR
      obtain ⟨N2, hcw, g2, l2, R2⟩ := c_r05_Write ⟨M.bl, M.bl.length⟩ (madeX l) r0 r1
      have lw : (bytesE (wr (madeX l))).length = (wr (madeX l)).length := by simp [bytesE]
      have k1 : N2.getN G ⟨.mem M.bl.length 0, 0⟩ (wr (madeX l)).length = some (bytesE (wr (madeX l))) := getN_row R2 (sub_all lw)
      have k2 : N2.getN G a l.length = some (bytesE l) := getN_grown (m := ⟨M.bl, M.bl.length⟩) g2 hgM
      have hm : madeOk l = (wr (madeX l) == l) := by simp [madeOk, hR]
      have l2' : M.bl.length ≤ N2.low := by
        have := l2
        simp only [Nat.min_self] at this
        exact this
      simp +contextual only [vq, vc, ve, vv, vn, vl, ↓reduceIte, Nat.reduceEqDiff, Nat.reduceAdd, Nat.reduceMul, Nat.reduceSub, Nat.reduceLeDiff, Nat.reduceLT, Nat.reduceBEq, Nat.reduceBNe, reduceCtorEq, Int.reduceBEq, Int.reduceBNe, Int.reduceLT, Int.reduceLE, Int.reduceEq, Int.reduceToNat, Int.reduceAdd, Int.reduceSub, Int.reduceNeg, A4, A0, callR_val (c_r05_Is _ _), hR, w32 r0 r1, callR_val hcw, k1, k2, oM]
      rw [cutD_new l2']
      simp +contextual only [vq, vc, ve, vv, vn, vl, ↓reduceIte, Nat.reduceEqDiff, Nat.reduceAdd, Nat.reduceMul, Nat.reduceSub, Nat.reduceLeDiff, Nat.reduceLT, Nat.reduceBEq, Nat.reduceBNe, reduceCtorEq, Int.reduceBEq, Int.reduceBNe, Int.reduceLT, Int.reduceLE, Int.reduceEq, Int.reduceToNat, Int.reduceAdd, Int.reduceSub, Int.reduceNeg]
      rw [endD_new l2']
      simp +contextual only [vq, vc, ve, vv, vn, vl, ↓reduceIte, Nat.reduceEqDiff, Nat.reduceAdd, Nat.reduceMul, Nat.reduceSub, Nat.reduceLeDiff, Nat.reduceLT, Nat.reduceBEq, Nat.reduceBNe, reduceCtorEq, Int.reduceBEq, Int.reduceBNe, Int.reduceLT, Int.reduceLE, Int.reduceEq, Int.reduceToNat, Int.reduceAdd, Int.reduceSub, Int.reduceNeg, hm, hl0]
    | false =>
      have hm : madeOk l = false := by simp [madeOk, hR]
      simp +contextual only [vq, vc, ve, vv, vn, vl, ↓reduceIte, Nat.reduceEqDiff, Nat.reduceAdd, Nat.reduceMul, Nat.reduceSub, Nat.reduceLeDiff, Nat.reduceLT, Nat.reduceBEq, Nat.reduceBNe, reduceCtorEq, Int.reduceBEq, Int.reduceBNe, Int.reduceLT, Int.reduceLE, Int.reduceEq, Int.reduceToNat, Int.reduceAdd, Int.reduceSub, Int.reduceNeg, A4, A0, callR_val (c_r05_Is _ _), hR, hm, hl0]
theorem wf_le : ∀ l : List UInt8, wf l ≤ 4 ∧ wf l ≤ l.length := by
  intro l
  unfold wf
  split
  · simp
  · rename_i b r
    repeat' split
    all_goals simp
    all_goals omega

/-- How many bytes the rune at a place has. -/
theorem c_r05_One (m : Mem) (s : List UInt8) (a : Ad) (cap k : Nat) (hk : k ≤ s.length) (hN : s.length ≤ 1000000000000) (hcap : s.length ≤ cap) (hg0 : m.getN G a s.length = some (bytesE s)) (ho : oldAd m.bl.length a = true) :
    ∃ x : Int, Go.Ev.Comes T G f_r05_One [.slice (some a) s.length cap 1, .int .i64 k] m none ⟨.val (.tuple [.int .i32 x, .int .i64 (wf (s.drop k) : Nat)]), m, none⟩ := by
  suffices H : ∃ r, Go.Ev.Comes T G f_r05_One [.slice (some a) s.length cap 1, .int .i64 k] m none r ∧ ∃ x : Int, r = ⟨.val (.tuple [.int .i32 x, .int .i64 (wf (s.drop k) : Nat)]), m, none⟩ by
    obtain ⟨_, hc, x, rfl⟩ := H
    exact ⟨x, hc⟩
  refine comes2P T_r05_One rfl fun M hg hlen hlow => ?_
  have hgM := getN_grown hg hg0
  have oM := oldAd_le ho hg.le
  have hwf := wf_le (s.drop k)
  have hl0 : m.bl.length ≤ M.low := by omega
  rw [List.length_drop] at hwf
  simp only [F_r05_One]
  simp +contextual only [vq, vc, ve, vv, vn, vl, ↓reduceIte, Nat.reduceEqDiff, Nat.reduceAdd, Nat.reduceMul, Nat.reduceSub, Nat.reduceLeDiff, Nat.reduceLT, Nat.reduceBEq, Nat.reduceBNe, reduceCtorEq, Int.reduceBEq, Int.reduceBNe, Int.reduceLT, Int.reduceLE, Int.reduceEq, Int.reduceToNat, Int.reduceAdd, Int.reduceSub, Int.reduceNeg]
  refine loop2 (fun q st => ∃ n A, st = ⟨A, M, [], none⟩ ∧ q = 5 - n ∧ 1 ≤ n ∧ n ≤ 5 ∧ A 0 = .slice (some a) s.length cap 1 ∧ A 1 = .int .i64 k ∧ A 6 = .int .i64 (n : Nat) ∧ (∀ j, 1 ≤ j → j < n → wf (s.drop k) ≠ j)) 4 ⟨1, _, rfl, rfl, by omega, by omega, by simp +contextual only [vq, vc, ve, vv, vn, vl, ↓reduceIte, Nat.reduceEqDiff, Nat.reduceAdd, Nat.reduceMul, Nat.reduceSub, Nat.reduceLeDiff, Nat.reduceLT, Nat.reduceBEq, Nat.reduceBNe, reduceCtorEq, Int.reduceBEq, Int.reduceBNe, Int.reduceLT, Int.reduceLE, Int.reduceEq, Int.reduceToNat, Int.reduceAdd, Int.reduceSub, Int.reduceNeg], by simp +contextual only [vq, vc, ve, vv, vn, vl, ↓reduceIte, Nat.reduceEqDiff, Nat.reduceAdd, Nat.reduceMul, Nat.reduceSub, Nat.reduceLeDiff, Nat.reduceLT, Nat.reduceBEq, Nat.reduceBNe, reduceCtorEq, Int.reduceBEq, Int.reduceBNe, Int.reduceLT, Int.reduceLE, Int.reduceEq, Int.reduceToNat, Int.reduceAdd, Int.reduceSub, Int.reduceNeg], by simp +contextual only [vq, vc, ve, vv, vn, vl, ↓reduceIte, Nat.reduceEqDiff, Nat.reduceAdd, Nat.reduceMul, Nat.reduceSub, Nat.reduceLeDiff, Nat.reduceLT, Nat.reduceBEq, Nat.reduceBNe, reduceCtorEq, Int.reduceBEq, Int.reduceBNe, Int.reduceLT, Int.reduceLE, Int.reduceEq, Int.reduceToNat, Int.reduceAdd, Int.reduceSub, Int.reduceNeg]; rfl, fun j h1 h2 => by omega⟩ fun J hJ q st hI => ?_
  obtain ⟨n, A, rfl, rfl, hn1, hn5, A0, A1, A6, hno⟩ := hI
  have hw : IntKind.i64.wrap ((k : Int) + (n : Int)) = ((k + n : Nat) : Int) := wrap_of (by omega) (by omega)
  have e4 : ((n : Int) ≤ 4) = (n ≤ 4) := propext ⟨fun h => by omega, fun h => by omega⟩
  by_cases hin : n ≤ 4 ∧ k + n ≤ s.length
  · obtain ⟨hn4, hkn⟩ := hin
    have hll : ((s.drop k).take n).length = n := by simp; omega
    have hgl : M.getN G (a.plus k) ((s.drop k).take n).length = some (bytesE ((s.drop k).take n)) := by
      have := getN_part (a := a) (off := 0) (k := k) (j := n) (ds := bytesE ((s.drop k).take n)) (by rw [Ad.plus_zero]; exact hgM) (by omega) ⟨by simp [bytesE]; omega, by simp [bytesE, List.map_take, List.map_drop]⟩
      rw [Nat.zero_add] at this
      rw [hll]
      exact this
    have hc := c_r05_made M ((s.drop k).take n) (a.plus k) (cap - k) (by omega) (by omega) (by omega) hgl oM
    rw [hll, made_wf (s.drop k) n hn1 hn4 (by rw [List.length_drop]; omega)] at hc
    have j2 : k + n ≤ cap := by omega
    have j3 : k + n - k = n := by omega
    have j4 : k ≤ k + n := by omega
    simp +contextual only [vq, vc, ve, vv, vn, vl, ↓reduceIte, Nat.reduceEqDiff, Nat.reduceAdd, Nat.reduceMul, Nat.reduceSub, Nat.reduceLeDiff, Nat.reduceLT, Nat.reduceBEq, Nat.reduceBNe, reduceCtorEq, Int.reduceBEq, Int.reduceBNe, Int.reduceLT, Int.reduceLE, Int.reduceEq, Int.reduceToNat, Int.reduceAdd, Int.reduceSub, Int.reduceNeg, A0, A1, A6, hw, e4, hn4, hkn, j2, j3, j4, callR_val hc]
    refine br2_dec (fun hy => ?_) (fun hno' => ?_)
    · simp +contextual only [vq, vc, ve, vv, vn, vl, ↓reduceIte, Nat.reduceEqDiff, Nat.reduceAdd, Nat.reduceMul, Nat.reduceSub, Nat.reduceLeDiff, Nat.reduceLT, Nat.reduceBEq, Nat.reduceBNe, reduceCtorEq, Int.reduceBEq, Int.reduceBNe, Int.reduceLT, Int.reduceLE, Int.reduceEq, Int.reduceToNat, Int.reduceAdd, Int.reduceSub, Int.reduceNeg, A6]
      exact postX_same (v := .tuple [.int .i32 (IntKind.i32.wrap (madeX ((s.drop k).take n))), .int .i64 (n : Nat)]) (by simp +contextual only [vq, vc, ve, vv, vn, vl, ↓reduceIte, Nat.reduceEqDiff, Nat.reduceAdd, Nat.reduceMul, Nat.reduceSub, Nat.reduceLeDiff, Nat.reduceLT, Nat.reduceBEq, Nat.reduceBNe, reduceCtorEq, Int.reduceBEq, Int.reduceBNe, Int.reduceLT, Int.reduceLE, Int.reduceEq, Int.reduceToNat, Int.reduceAdd, Int.reduceSub, Int.reduceNeg]) hl0 rfl ⟨_, by rw [hy]⟩
    · simp +contextual only [vq, vc, ve, vv, vn, vl, ↓reduceIte, Nat.reduceEqDiff, Nat.reduceAdd, Nat.reduceMul, Nat.reduceSub, Nat.reduceLeDiff, Nat.reduceLT, Nat.reduceBEq, Nat.reduceBNe, reduceCtorEq, Int.reduceBEq, Int.reduceBNe, Int.reduceLT, Int.reduceLE, Int.reduceEq, Int.reduceToNat, Int.reduceAdd, Int.reduceSub, Int.reduceNeg, A6, wsucc (n := 5) (show n < 5 by omega) (by omega)]
      exact again2 hJ (5 - (n + 1)) (by omega) ⟨n + 1, _, rfl, rfl, by omega, by omega, by simp +contextual only [vq, vc, ve, vv, vn, vl, ↓reduceIte, Nat.reduceEqDiff, Nat.reduceAdd, Nat.reduceMul, Nat.reduceSub, Nat.reduceLeDiff, Nat.reduceLT, Nat.reduceBEq, Nat.reduceBNe, reduceCtorEq, Int.reduceBEq, Int.reduceBNe, Int.reduceLT, Int.reduceLE, Int.reduceEq, Int.reduceToNat, Int.reduceAdd, Int.reduceSub, Int.reduceNeg, A0], by simp +contextual only [vq, vc, ve, vv, vn, vl, ↓reduceIte, Nat.reduceEqDiff, Nat.reduceAdd, Nat.reduceMul, Nat.reduceSub, Nat.reduceLeDiff, Nat.reduceLT, Nat.reduceBEq, Nat.reduceBNe, reduceCtorEq, Int.reduceBEq, Int.reduceBNe, Int.reduceLT, Int.reduceLE, Int.reduceEq, Int.reduceToNat, Int.reduceAdd, Int.reduceSub, Int.reduceNeg, A1], by simp +contextual only [vq, vc, ve, vv, vn, vl, ↓reduceIte, Nat.reduceEqDiff, Nat.reduceAdd, Nat.reduceMul, Nat.reduceSub, Nat.reduceLeDiff, Nat.reduceLT, Nat.reduceBEq, Nat.reduceBNe, reduceCtorEq, Int.reduceBEq, Int.reduceBNe, Int.reduceLT, Int.reduceLE, Int.reduceEq, Int.reduceToNat, Int.reduceAdd, Int.reduceSub, Int.reduceNeg], fun j h1 h2 => by
        by_cases hj : j = n
        · rw [hj]; exact hno'
        · exact hno j h1 (by omega)⟩
  · have h0 : wf (s.drop k) = 0 := by
      by_cases hz : wf (s.drop k) = 0
      · exact hz
      · have := hno (wf (s.drop k)) (by omega)
        omega
    have k1 : (decide (n ≤ 4) && decide (k + n ≤ s.length)) = false := by
      simp only [Bool.and_eq_false_iff, decide_eq_false_iff_not]
      omega
    simp +contextual only [vq, vc, ve, vv, vn, vl, ↓reduceIte, Nat.reduceEqDiff, Nat.reduceAdd, Nat.reduceMul, Nat.reduceSub, Nat.reduceLeDiff, Nat.reduceLT, Nat.reduceBEq, Nat.reduceBNe, reduceCtorEq, Int.reduceBEq, Int.reduceBNe, Int.reduceLT, Int.reduceLE, Int.reduceEq, Int.reduceToNat, Int.reduceAdd, Int.reduceSub, Int.reduceNeg, A0, A1, A6, hw, e4, k1]
    exact postX_same (v := .tuple [.int .i32 0, .int .i64 ((0 : Nat) : Int)]) (by simp +contextual only [vq, vc, ve, vv, vn, vl, ↓reduceIte, Nat.reduceEqDiff, Nat.reduceAdd, Nat.reduceMul, Nat.reduceSub, Nat.reduceLeDiff, Nat.reduceLT, Nat.reduceBEq, Nat.reduceBNe, reduceCtorEq, Int.reduceBEq, Int.reduceBNe, Int.reduceLT, Int.reduceLE, Int.reduceEq, Int.reduceToNat, Int.reduceAdd, Int.reduceSub, Int.reduceNeg]; rfl) hl0 rfl ⟨0, by rw [h0]⟩

theorem good_fuel {f g : Nat} {l : List UInt8} (hf : l.length ≤ f) (hg : l.length ≤ g) : good f l = good g l := by
  have h1 := pb_good f l 0 0 0 0 hf
  have h2 := pb_good g l 0 0 0 0 hg
  omega
theorem good_none {f : Nat} {l : List UInt8} (h : wf l = 0) : good f l = 0 := by
  cases f with
  | zero => rfl
  | succ f => simp only [good, h]
theorem good_next {f : Nat} {l : List UInt8} (h : wf l ≠ 0) : good (f + 1) l = wf l + good f (l.drop (wf l)) := by
  simp only [good]
  split
  · rename_i h0
    exact absurd h0 h
  · rename_i n hn
    rw [hn]
/-- Where the first wrong UTF-8 begins, by the reference. -/
theorem c_r05_Bad (m : Mem) (s : List UInt8) (a : Ad) (cap : Nat) (hN : s.length ≤ 1000000000000) (hcap : s.length ≤ cap) (hg0 : m.getN G a s.length = some (bytesE s)) (ho : oldAd m.bl.length a = true) :
    Go.Ev.Comes T G f_r05_Bad [.slice (some a) s.length cap 1] m none ⟨.val (.int .i64 (good s.length s : Nat)), m, none⟩ := by
  refine comes2 T_r05_Bad rfl fun M hg hlen hlow => ?_
  have hgM := getN_grown hg hg0
  have oM := oldAd_le ho hg.le
  have hl0 : m.bl.length ≤ M.low := by omega
  simp only [F_r05_Bad]
  simp +contextual only [vq, vc, ve, vv, vn, vl, ↓reduceIte, Nat.reduceEqDiff, Nat.reduceAdd, Nat.reduceMul, Nat.reduceSub, Nat.reduceLeDiff, Nat.reduceLT, Nat.reduceBEq, Nat.reduceBNe, reduceCtorEq, Int.reduceBEq, Int.reduceBNe, Int.reduceLT, Int.reduceLE, Int.reduceEq, Int.reduceToNat, Int.reduceAdd, Int.reduceSub, Int.reduceNeg]
  refine loop2 (fun q st => ∃ k A, st = ⟨A, M, [], none⟩ ∧ q = s.length - k ∧ k ≤ s.length ∧ A 0 = .slice (some a) s.length cap 1 ∧ A 3 = .int .i64 (k : Nat) ∧ k + good s.length (s.drop k) = good s.length s) s.length ⟨0, _, rfl, by omega, by omega, by simp +contextual only [vq, vc, ve, vv, vn, vl, ↓reduceIte, Nat.reduceEqDiff, Nat.reduceAdd, Nat.reduceMul, Nat.reduceSub, Nat.reduceLeDiff, Nat.reduceLT, Nat.reduceBEq, Nat.reduceBNe, reduceCtorEq, Int.reduceBEq, Int.reduceBNe, Int.reduceLT, Int.reduceLE, Int.reduceEq, Int.reduceToNat, Int.reduceAdd, Int.reduceSub, Int.reduceNeg], by simp +contextual only [vq, vc, ve, vv, vn, vl, ↓reduceIte, Nat.reduceEqDiff, Nat.reduceAdd, Nat.reduceMul, Nat.reduceSub, Nat.reduceLeDiff, Nat.reduceLT, Nat.reduceBEq, Nat.reduceBNe, reduceCtorEq, Int.reduceBEq, Int.reduceBNe, Int.reduceLT, Int.reduceLE, Int.reduceEq, Int.reduceToNat, Int.reduceAdd, Int.reduceSub, Int.reduceNeg]; rfl, by simp⟩ fun J hJ q st hI => ?_
  obtain ⟨k, A, rfl, rfl, hk, A0, A3, hR⟩ := hI
  have hwf := wf_le (s.drop k)
  rw [List.length_drop] at hwf
  obtain ⟨x, hc⟩ := c_r05_One M s a cap k hk hN hcap hgM oM
  simp +contextual only [vq, vc, ve, vv, vn, vl, ↓reduceIte, Nat.reduceEqDiff, Nat.reduceAdd, Nat.reduceMul, Nat.reduceSub, Nat.reduceLeDiff, Nat.reduceLT, Nat.reduceBEq, Nat.reduceBNe, reduceCtorEq, Int.reduceBEq, Int.reduceBNe, Int.reduceLT, Int.reduceLE, Int.reduceEq, Int.reduceToNat, Int.reduceAdd, Int.reduceSub, Int.reduceNeg, A0, A3, callR_val hc]
  refine br2_mk (fun h0 => ?_) (fun h0 => ?_)
  · have h0 : wf (s.drop k) = 0 := by simpa using h0
    rw [good_none h0, Nat.add_zero] at hR
    simp +contextual only [vq, vc, ve, vv, vn, vl, ↓reduceIte, Nat.reduceEqDiff, Nat.reduceAdd, Nat.reduceMul, Nat.reduceSub, Nat.reduceLeDiff, Nat.reduceLT, Nat.reduceBEq, Nat.reduceBNe, reduceCtorEq, Int.reduceBEq, Int.reduceBNe, Int.reduceLT, Int.reduceLE, Int.reduceEq, Int.reduceToNat, Int.reduceAdd, Int.reduceSub, Int.reduceNeg, A3, hl0, hR]
  · have h0 : wf (s.drop k) ≠ 0 := by simpa using h0
    simp +contextual only [vq, vc, ve, vv, vn, vl, ↓reduceIte, Nat.reduceEqDiff, Nat.reduceAdd, Nat.reduceMul, Nat.reduceSub, Nat.reduceLeDiff, Nat.reduceLT, Nat.reduceBEq, Nat.reduceBNe, reduceCtorEq, Int.reduceBEq, Int.reduceBNe, Int.reduceLT, Int.reduceLE, Int.reduceEq, Int.reduceToNat, Int.reduceAdd, Int.reduceSub, Int.reduceNeg, A3, wrap_of (show (k : Int) + (wf (s.drop k) : Int) = ((k + wf (s.drop k) : Nat) : Int) by omega) (by omega)]
    refine again2 hJ (s.length - (k + wf (s.drop k))) (by omega) ⟨k + wf (s.drop k), _, rfl, rfl, by omega, by simp +contextual only [vq, vc, ve, vv, vn, vl, ↓reduceIte, Nat.reduceEqDiff, Nat.reduceAdd, Nat.reduceMul, Nat.reduceSub, Nat.reduceLeDiff, Nat.reduceLT, Nat.reduceBEq, Nat.reduceBNe, reduceCtorEq, Int.reduceBEq, Int.reduceBNe, Int.reduceLT, Int.reduceLE, Int.reduceEq, Int.reduceToNat, Int.reduceAdd, Int.reduceSub, Int.reduceNeg, A0], by simp +contextual only [vq, vc, ve, vv, vn, vl, ↓reduceIte, Nat.reduceEqDiff, Nat.reduceAdd, Nat.reduceMul, Nat.reduceSub, Nat.reduceLeDiff, Nat.reduceLT, Nat.reduceBEq, Nat.reduceBNe, reduceCtorEq, Int.reduceBEq, Int.reduceBNe, Int.reduceLT, Int.reduceLE, Int.reduceEq, Int.reduceToNat, Int.reduceAdd, Int.reduceSub, Int.reduceNeg], ?_⟩
    rw [← hR]
    obtain ⟨f, hf⟩ : ∃ f, s.length = f + 1 := ⟨s.length - 1, by omega⟩
    have e1 : good s.length (s.drop k) = wf (s.drop k) + good f ((s.drop k).drop (wf (s.drop k))) := by rw [hf]; exact good_next h0
    rw [e1, List.drop_drop]
    have e2 : good s.length (s.drop (k + wf (s.drop k))) = good f (s.drop (k + wf (s.drop k))) := good_fuel (by rw [List.length_drop]; omega) (by rw [List.length_drop]; omega)
    omega
end Go.Proofs.YtmjoaiccbghijaaGreatDoor.paramBack

namespace Go.Proofs.YtmjoaiccbghijaaGreatDoor.paramBack
open Go.Ev hiding Comes
variable [GG]

/-- A value's byte that may stand. -/
def okB (w : Bool) (b : UInt8) : Bool := isF 14 b.toNat && w || isF 8 b.toNat
/-- Where a value is wrong; -1: nowhere. -/
def badV (w : Bool) (s : List UInt8) : Int :=
  if s = [] then 0 else if (s.takeWhile (okB w)).length < s.length then (s.takeWhile (okB w)).length
  else if good s.length s < s.length then good s.length s else -1
theorem badV_at {w : Bool} {s : List UInt8} {i : Nat} (hi : i < s.length) (hall : ∀ x ∈ s.take i, okB w x = true) (hb : okB w s[i] = false) : badV w s = i := by
  have e := tw_at hall (List.getElem?_eq_getElem hi) hb
  have h0 : s ≠ [] := by rintro rfl; simp at hi
  rw [badV, if_neg h0, if_pos (by omega), e]
theorem badV_on {w : Bool} {s : List UInt8} (h0 : s ≠ []) (hall : ∀ x ∈ s, okB w x = true) : badV w s = if good s.length s < s.length then (good s.length s : Int) else -1 := by
  rw [badV, if_neg h0, if_neg (by rw [tw_end hall]; omega)]

theorem c_param_badValue (m : Mem) (s : List UInt8) (w : Bool) (hN : s.length ≤ 1000000000000) : Go.Ev.Comes T G f_param_badValue [.str s, .bool w] m none ⟨.val (.int .i64 (badV w s)), m, none⟩ := by
  refine comes2 T_param_badValue rfl fun M hg hlen hlow => ?_
  have hl : m.bl.length ≤ M.low := by omega
  simp only [F_param_badValue]
  simp +contextual only [vq, vc, ve, vv, vn, vl, ↓reduceIte, Nat.reduceEqDiff, Nat.reduceAdd, Nat.reduceMul, Nat.reduceSub, Nat.reduceLeDiff, Nat.reduceLT, Nat.reduceBEq, Nat.reduceBNe, reduceCtorEq, Int.reduceBEq, Int.reduceBNe, Int.reduceLT, Int.reduceLE, Int.reduceEq, Int.reduceToNat, Int.reduceAdd, Int.reduceSub, Int.reduceNeg]
  refine br2_mk (fun h => ?_) (fun h => ?_)
  · have h0 : s = [] := by simpa using h
    have hv : badV w s = 0 := if_pos h0
    simp +contextual only [vq, vc, ve, vv, vn, vl, ↓reduceIte, Nat.reduceEqDiff, Nat.reduceAdd, Nat.reduceMul, Nat.reduceSub, Nat.reduceLeDiff, Nat.reduceLT, Nat.reduceBEq, Nat.reduceBNe, reduceCtorEq, Int.reduceBEq, Int.reduceBNe, Int.reduceLT, Int.reduceLE, Int.reduceEq, Int.reduceToNat, Int.reduceAdd, Int.reduceSub, Int.reduceNeg, hv, hl]
  have h0 : s ≠ [] := by simpa using h
  simp +contextual only [vq, vc, ve, vv, vn, vl, ↓reduceIte, Nat.reduceEqDiff, Nat.reduceAdd, Nat.reduceMul, Nat.reduceSub, Nat.reduceLeDiff, Nat.reduceLT, Nat.reduceBEq, Nat.reduceBNe, reduceCtorEq, Int.reduceBEq, Int.reduceBNe, Int.reduceLT, Int.reduceLE, Int.reduceEq, Int.reduceToNat, Int.reduceAdd, Int.reduceSub, Int.reduceNeg]
  refine loop2 (fun n st => ∃ i A, st = ⟨A, M, [], none⟩ ∧ n = s.length - i ∧ i ≤ s.length ∧ A 0 = .str s ∧ A 1 = .bool w ∧ A 10 = .int .i64 s.length ∧ A 11 = .int .i64 i ∧ ∀ x ∈ s.take i, okB w x = true) s.length ⟨0, _, rfl, by omega, by omega, by simp +contextual only [vq, vc, ve, vv, vn, vl, ↓reduceIte, Nat.reduceEqDiff, Nat.reduceAdd, Nat.reduceMul, Nat.reduceSub, Nat.reduceLeDiff, Nat.reduceLT, Nat.reduceBEq, Nat.reduceBNe, reduceCtorEq, Int.reduceBEq, Int.reduceBNe, Int.reduceLT, Int.reduceLE, Int.reduceEq, Int.reduceToNat, Int.reduceAdd, Int.reduceSub, Int.reduceNeg], by simp +contextual only [vq, vc, ve, vv, vn, vl, ↓reduceIte, Nat.reduceEqDiff, Nat.reduceAdd, Nat.reduceMul, Nat.reduceSub, Nat.reduceLeDiff, Nat.reduceLT, Nat.reduceBEq, Nat.reduceBNe, reduceCtorEq, Int.reduceBEq, Int.reduceBNe, Int.reduceLT, Int.reduceLE, Int.reduceEq, Int.reduceToNat, Int.reduceAdd, Int.reduceSub, Int.reduceNeg], by simp +contextual only [vq, vc, ve, vv, vn, vl, ↓reduceIte, Nat.reduceEqDiff, Nat.reduceAdd, Nat.reduceMul, Nat.reduceSub, Nat.reduceLeDiff, Nat.reduceLT, Nat.reduceBEq, Nat.reduceBNe, reduceCtorEq, Int.reduceBEq, Int.reduceBNe, Int.reduceLT, Int.reduceLE, Int.reduceEq, Int.reduceToNat, Int.reduceAdd, Int.reduceSub, Int.reduceNeg], by simp +contextual only [vq, vc, ve, vv, vn, vl, ↓reduceIte, Nat.reduceEqDiff, Nat.reduceAdd, Nat.reduceMul, Nat.reduceSub, Nat.reduceLeDiff, Nat.reduceLT, Nat.reduceBEq, Nat.reduceBNe, reduceCtorEq, Int.reduceBEq, Int.reduceBNe, Int.reduceLT, Int.reduceLE, Int.reduceEq, Int.reduceToNat, Int.reduceAdd, Int.reduceSub, Int.reduceNeg]; rfl, by simp⟩ fun J hJ n st hI => ?_
  obtain ⟨i, A, rfl, rfl, hi, A0, A1, A10, A11, hall⟩ := hI
  simp +contextual only [vq, vc, ve, vv, vn, vl, ↓reduceIte, Nat.reduceEqDiff, Nat.reduceAdd, Nat.reduceMul, Nat.reduceSub, Nat.reduceLeDiff, Nat.reduceLT, Nat.reduceBEq, Nat.reduceBNe, reduceCtorEq, Int.reduceBEq, Int.reduceBNe, Int.reduceLT, Int.reduceLE, Int.reduceEq, Int.reduceToNat, Int.reduceAdd, Int.reduceSub, Int.reduceNeg, A10, A11]
  refine br2_dec (fun hlt => ?_) (fun hge => ?_)
  · have hb : s[i]? = some s[i] := List.getElem?_eq_getElem hlt
    have hw : IntKind.i64.wrap ((i : Int) + 1) = ((i + 1 : Nat) : Int) := wrap_of (by omega) (by omega)
    simp +contextual only [vq, vc, ve, vv, vn, vl, ↓reduceIte, Nat.reduceEqDiff, Nat.reduceAdd, Nat.reduceMul, Nat.reduceSub, Nat.reduceLeDiff, Nat.reduceLT, Nat.reduceBEq, Nat.reduceBNe, reduceCtorEq, Int.reduceBEq, Int.reduceBNe, Int.reduceLT, Int.reduceLE, Int.reduceEq, Int.reduceToNat, Int.reduceAdd, Int.reduceSub, Int.reduceNeg, A0, A1, A11, hb, callR_val (c_octet_Is _ _ _)]
    refine br2_mk (fun hk => ?_) (fun hk => ?_)
    · simp +contextual only [vq, vc, ve, vv, vn, vl, ↓reduceIte, Nat.reduceEqDiff, Nat.reduceAdd, Nat.reduceMul, Nat.reduceSub, Nat.reduceLeDiff, Nat.reduceLT, Nat.reduceBEq, Nat.reduceBNe, reduceCtorEq, Int.reduceBEq, Int.reduceBNe, Int.reduceLT, Int.reduceLE, Int.reduceEq, Int.reduceToNat, Int.reduceAdd, Int.reduceSub, Int.reduceNeg, A11, hw]
      exact again2 hJ (s.length - (i + 1)) (by omega) ⟨i + 1, _, rfl, rfl, by omega, by simp +contextual only [vq, vc, ve, vv, vn, vl, ↓reduceIte, Nat.reduceEqDiff, Nat.reduceAdd, Nat.reduceMul, Nat.reduceSub, Nat.reduceLeDiff, Nat.reduceLT, Nat.reduceBEq, Nat.reduceBNe, reduceCtorEq, Int.reduceBEq, Int.reduceBNe, Int.reduceLT, Int.reduceLE, Int.reduceEq, Int.reduceToNat, Int.reduceAdd, Int.reduceSub, Int.reduceNeg, A0], by simp +contextual only [vq, vc, ve, vv, vn, vl, ↓reduceIte, Nat.reduceEqDiff, Nat.reduceAdd, Nat.reduceMul, Nat.reduceSub, Nat.reduceLeDiff, Nat.reduceLT, Nat.reduceBEq, Nat.reduceBNe, reduceCtorEq, Int.reduceBEq, Int.reduceBNe, Int.reduceLT, Int.reduceLE, Int.reduceEq, Int.reduceToNat, Int.reduceAdd, Int.reduceSub, Int.reduceNeg, A1], by simp +contextual only [vq, vc, ve, vv, vn, vl, ↓reduceIte, Nat.reduceEqDiff, Nat.reduceAdd, Nat.reduceMul, Nat.reduceSub, Nat.reduceLeDiff, Nat.reduceLT, Nat.reduceBEq, Nat.reduceBNe, reduceCtorEq, Int.reduceBEq, Int.reduceBNe, Int.reduceLT, Int.reduceLE, Int.reduceEq, Int.reduceToNat, Int.reduceAdd, Int.reduceSub, Int.reduceNeg, A10], by simp +contextual only [vq, vc, ve, vv, vn, vl, ↓reduceIte, Nat.reduceEqDiff, Nat.reduceAdd, Nat.reduceMul, Nat.reduceSub, Nat.reduceLeDiff, Nat.reduceLT, Nat.reduceBEq, Nat.reduceBNe, reduceCtorEq, Int.reduceBEq, Int.reduceBNe, Int.reduceLT, Int.reduceLE, Int.reduceEq, Int.reduceToNat, Int.reduceAdd, Int.reduceSub, Int.reduceNeg], take_next hlt hall hk⟩
    · simp +contextual only [vq, vc, ve, vv, vn, vl, ↓reduceIte, Nat.reduceEqDiff, Nat.reduceAdd, Nat.reduceMul, Nat.reduceSub, Nat.reduceLeDiff, Nat.reduceLT, Nat.reduceBEq, Nat.reduceBNe, reduceCtorEq, Int.reduceBEq, Int.reduceBNe, Int.reduceLT, Int.reduceLE, Int.reduceEq, Int.reduceToNat, Int.reduceAdd, Int.reduceSub, Int.reduceNeg, A11, hl, badV_at hlt hall hk]
  · have he : i = s.length := by omega
    subst he
    rw [List.take_length] at hall
    simp +contextual only [vq, vc, ve, vv, vn, vl, ↓reduceIte, Nat.reduceEqDiff, Nat.reduceAdd, Nat.reduceMul, Nat.reduceSub, Nat.reduceLeDiff, Nat.reduceLT, Nat.reduceBEq, Nat.reduceBNe, reduceCtorEq, Int.reduceBEq, Int.reduceBNe, Int.reduceLT, Int.reduceLE, Int.reduceEq, Int.reduceToNat, Int.reduceAdd, Int.reduceSub, Int.reduceNeg, A0, callR_val (c_runes_Bad_string _ _ hN)]
    refine br2_dec (fun hk => ?_) (fun hk => ?_)
    · simp +contextual only [vq, vc, ve, vv, vn, vl, ↓reduceIte, Nat.reduceEqDiff, Nat.reduceAdd, Nat.reduceMul, Nat.reduceSub, Nat.reduceLeDiff, Nat.reduceLT, Nat.reduceBEq, Nat.reduceBNe, reduceCtorEq, Int.reduceBEq, Int.reduceBNe, Int.reduceLT, Int.reduceLE, Int.reduceEq, Int.reduceToNat, Int.reduceAdd, Int.reduceSub, Int.reduceNeg, hl, badV_on h0 hall, hk]
    · simp +contextual only [vq, vc, ve, vv, vn, vl, ↓reduceIte, Nat.reduceEqDiff, Nat.reduceAdd, Nat.reduceMul, Nat.reduceSub, Nat.reduceLeDiff, Nat.reduceLT, Nat.reduceBEq, Nat.reduceBNe, reduceCtorEq, Int.reduceBEq, Int.reduceBNe, Int.reduceLT, Int.reduceLE, Int.reduceEq, Int.reduceToNat, Int.reduceAdd, Int.reduceSub, Int.reduceNeg, hl, badV_on h0 hall, hk]

theorem okR (w : Bool) (b : UInt8) : ((decide ((b.toNat : Int) < 128) && !isF 8 b.toNat) || (decide (128 ≤ (b.toNat : Int)) && !w)) = !okB w b := by
  have h : ∀ (w : Bool) (n : Fin 256), ((decide ((n.val : Int) < 128) && !isF 8 n.val) || (decide (128 ≤ (n.val : Int)) && !w)) = !(isF 14 n.val && w || isF 8 n.val) := by decide +kernel
  exact h w ⟨b.toNat, b.toNat_lt⟩

theorem c_r10_value (m : Mem) (s : List UInt8) (w : Bool) (hN : s.length ≤ 1000000000000) : Go.Ev.Comes T G f_r10_value [.str s, .bool w] m none ⟨.val (.int .i64 (badV w s)), m, none⟩ := by
  have c8 := fun m b => c_r01_Is m 8 b (by omega)
  refine comes2 T_r10_value rfl fun M hg hlen hlow => ?_
  have hl : m.bl.length ≤ M.low := by omega
  simp only [F_r10_value]
  simp +contextual only [vq, vc, ve, vv, vn, vl, ↓reduceIte, Nat.reduceEqDiff, Nat.reduceAdd, Nat.reduceMul, Nat.reduceSub, Nat.reduceLeDiff, Nat.reduceLT, Nat.reduceBEq, Nat.reduceBNe, reduceCtorEq, Int.reduceBEq, Int.reduceBNe, Int.reduceLT, Int.reduceLE, Int.reduceEq, Int.reduceToNat, Int.reduceAdd, Int.reduceSub, Int.reduceNeg]
  refine br2_mk (fun h => ?_) (fun h => ?_)
  · have h0 : s = [] := by simpa using h
    have hv : badV w s = 0 := if_pos h0
    simp +contextual only [vq, vc, ve, vv, vn, vl, ↓reduceIte, Nat.reduceEqDiff, Nat.reduceAdd, Nat.reduceMul, Nat.reduceSub, Nat.reduceLeDiff, Nat.reduceLT, Nat.reduceBEq, Nat.reduceBNe, reduceCtorEq, Int.reduceBEq, Int.reduceBNe, Int.reduceLT, Int.reduceLE, Int.reduceEq, Int.reduceToNat, Int.reduceAdd, Int.reduceSub, Int.reduceNeg, hv, hl]
  have h0 : s ≠ [] := by simpa using h
  simp +contextual only [vq, vc, ve, vv, vn, vl, ↓reduceIte, Nat.reduceEqDiff, Nat.reduceAdd, Nat.reduceMul, Nat.reduceSub, Nat.reduceLeDiff, Nat.reduceLT, Nat.reduceBEq, Nat.reduceBNe, reduceCtorEq, Int.reduceBEq, Int.reduceBNe, Int.reduceLT, Int.reduceLE, Int.reduceEq, Int.reduceToNat, Int.reduceAdd, Int.reduceSub, Int.reduceNeg]
  refine loop2 (fun n st => ∃ i A, st = ⟨A, M, [], none⟩ ∧ n = s.length - i ∧ i ≤ s.length ∧ A 0 = .str s ∧ A 1 = .bool w ∧ A 5 = .int .i64 i ∧ ∀ x ∈ s.take i, okB w x = true) s.length ⟨0, _, rfl, by omega, by omega, by simp +contextual only [vq, vc, ve, vv, vn, vl, ↓reduceIte, Nat.reduceEqDiff, Nat.reduceAdd, Nat.reduceMul, Nat.reduceSub, Nat.reduceLeDiff, Nat.reduceLT, Nat.reduceBEq, Nat.reduceBNe, reduceCtorEq, Int.reduceBEq, Int.reduceBNe, Int.reduceLT, Int.reduceLE, Int.reduceEq, Int.reduceToNat, Int.reduceAdd, Int.reduceSub, Int.reduceNeg], by simp +contextual only [vq, vc, ve, vv, vn, vl, ↓reduceIte, Nat.reduceEqDiff, Nat.reduceAdd, Nat.reduceMul, Nat.reduceSub, Nat.reduceLeDiff, Nat.reduceLT, Nat.reduceBEq, Nat.reduceBNe, reduceCtorEq, Int.reduceBEq, Int.reduceBNe, Int.reduceLT, Int.reduceLE, Int.reduceEq, Int.reduceToNat, Int.reduceAdd, Int.reduceSub, Int.reduceNeg], by simp +contextual only [vq, vc, ve, vv, vn, vl, ↓reduceIte, Nat.reduceEqDiff, Nat.reduceAdd, Nat.reduceMul, Nat.reduceSub, Nat.reduceLeDiff, Nat.reduceLT, Nat.reduceBEq, Nat.reduceBNe, reduceCtorEq, Int.reduceBEq, Int.reduceBNe, Int.reduceLT, Int.reduceLE, Int.reduceEq, Int.reduceToNat, Int.reduceAdd, Int.reduceSub, Int.reduceNeg]; rfl, by simp⟩ fun J hJ n st hI => ?_
  obtain ⟨i, A, rfl, rfl, hi, A0, A1, A5, hall⟩ := hI
  simp +contextual only [vq, vc, ve, vv, vn, vl, ↓reduceIte, Nat.reduceEqDiff, Nat.reduceAdd, Nat.reduceMul, Nat.reduceSub, Nat.reduceLeDiff, Nat.reduceLT, Nat.reduceBEq, Nat.reduceBNe, reduceCtorEq, Int.reduceBEq, Int.reduceBNe, Int.reduceLT, Int.reduceLE, Int.reduceEq, Int.reduceToNat, Int.reduceAdd, Int.reduceSub, Int.reduceNeg, A0, A5]
  refine br2_dec (fun hlt => ?_) (fun hge => ?_)
  · have hb : s[i]? = some s[i] := List.getElem?_eq_getElem hlt
    have hw : IntKind.i64.wrap ((i : Int) + 1) = ((i + 1 : Nat) : Int) := wrap_of (by omega) (by omega)
    simp +contextual only [vq, vc, ve, vv, vn, vl, ↓reduceIte, Nat.reduceEqDiff, Nat.reduceAdd, Nat.reduceMul, Nat.reduceSub, Nat.reduceLeDiff, Nat.reduceLT, Nat.reduceBEq, Nat.reduceBNe, reduceCtorEq, Int.reduceBEq, Int.reduceBNe, Int.reduceLT, Int.reduceLE, Int.reduceEq, Int.reduceToNat, Int.reduceAdd, Int.reduceSub, Int.reduceNeg, A0, A1, A5, hb, callR_val (c8 _ _), okR]
    refine br2_mk (fun hk => ?_) (fun hk => ?_)
    · have hk : okB w s[i] = false := by simpa using hk
      simp +contextual only [vq, vc, ve, vv, vn, vl, ↓reduceIte, Nat.reduceEqDiff, Nat.reduceAdd, Nat.reduceMul, Nat.reduceSub, Nat.reduceLeDiff, Nat.reduceLT, Nat.reduceBEq, Nat.reduceBNe, reduceCtorEq, Int.reduceBEq, Int.reduceBNe, Int.reduceLT, Int.reduceLE, Int.reduceEq, Int.reduceToNat, Int.reduceAdd, Int.reduceSub, Int.reduceNeg, A5, hl, badV_at hlt hall hk]
    · have hk : okB w s[i] = true := by simpa using hk
      simp +contextual only [vq, vc, ve, vv, vn, vl, ↓reduceIte, Nat.reduceEqDiff, Nat.reduceAdd, Nat.reduceMul, Nat.reduceSub, Nat.reduceLeDiff, Nat.reduceLT, Nat.reduceBEq, Nat.reduceBNe, reduceCtorEq, Int.reduceBEq, Int.reduceBNe, Int.reduceLT, Int.reduceLE, Int.reduceEq, Int.reduceToNat, Int.reduceAdd, Int.reduceSub, Int.reduceNeg, A5, hw]
      exact again2 hJ (s.length - (i + 1)) (by omega) ⟨i + 1, _, rfl, rfl, by omega, by simp +contextual only [vq, vc, ve, vv, vn, vl, ↓reduceIte, Nat.reduceEqDiff, Nat.reduceAdd, Nat.reduceMul, Nat.reduceSub, Nat.reduceLeDiff, Nat.reduceLT, Nat.reduceBEq, Nat.reduceBNe, reduceCtorEq, Int.reduceBEq, Int.reduceBNe, Int.reduceLT, Int.reduceLE, Int.reduceEq, Int.reduceToNat, Int.reduceAdd, Int.reduceSub, Int.reduceNeg, A0], by simp +contextual only [vq, vc, ve, vv, vn, vl, ↓reduceIte, Nat.reduceEqDiff, Nat.reduceAdd, Nat.reduceMul, Nat.reduceSub, Nat.reduceLeDiff, Nat.reduceLT, Nat.reduceBEq, Nat.reduceBNe, reduceCtorEq, Int.reduceBEq, Int.reduceBNe, Int.reduceLT, Int.reduceLE, Int.reduceEq, Int.reduceToNat, Int.reduceAdd, Int.reduceSub, Int.reduceNeg, A1], by simp +contextual only [vq, vc, ve, vv, vn, vl, ↓reduceIte, Nat.reduceEqDiff, Nat.reduceAdd, Nat.reduceMul, Nat.reduceSub, Nat.reduceLeDiff, Nat.reduceLT, Nat.reduceBEq, Nat.reduceBNe, reduceCtorEq, Int.reduceBEq, Int.reduceBNe, Int.reduceLT, Int.reduceLE, Int.reduceEq, Int.reduceToNat, Int.reduceAdd, Int.reduceSub, Int.reduceNeg], take_next hlt hall hk⟩
  · have he : i = s.length := by omega
    subst he
    rw [List.take_length] at hall
    simp +contextual only [vq, vc, ve, vv, vn, vl, ↓reduceIte, Nat.reduceEqDiff, Nat.reduceAdd, Nat.reduceMul, Nat.reduceSub, Nat.reduceLeDiff, Nat.reduceLT, Nat.reduceBEq, Nat.reduceBNe, reduceCtorEq, Int.reduceBEq, Int.reduceBNe, Int.reduceLT, Int.reduceLE, Int.reduceEq, Int.reduceToNat, Int.reduceAdd, Int.reduceSub, Int.reduceNeg, A0]
    refine new_mk fun M2 e2 => ?_
    have g2 : M2.getN G ⟨.mem M.bl.length 0, 0⟩ s.length = some (bytesE s) := by rw [e2]; exact getN_row (row_push _ _) (sub_all bytes_len)
    have hl2 : m.bl.length ≤ M2.low := by rw [e2]; exact hl
    have ho : oldAd M2.bl.length ⟨.mem M.bl.length 0, 0⟩ = true := by rw [e2]; simp [oldAd, Mem.push]
    simp +contextual only [vq, vc, ve, vv, vn, vl, ↓reduceIte, Nat.reduceEqDiff, Nat.reduceAdd, Nat.reduceMul, Nat.reduceSub, Nat.reduceLeDiff, Nat.reduceLT, Nat.reduceBEq, Nat.reduceBNe, reduceCtorEq, Int.reduceBEq, Int.reduceBNe, Int.reduceLT, Int.reduceLE, Int.reduceEq, Int.reduceToNat, Int.reduceAdd, Int.reduceSub, Int.reduceNeg, callR_val (c_r05_Bad M2 s _ _ hN (Nat.le_refl _) g2 ho), A0]
    refine br2_dec (fun hk => ?_) (fun hk => ?_)
    · simp +contextual only [vq, vc, ve, vv, vn, vl, ↓reduceIte, Nat.reduceEqDiff, Nat.reduceAdd, Nat.reduceMul, Nat.reduceSub, Nat.reduceLeDiff, Nat.reduceLT, Nat.reduceBEq, Nat.reduceBNe, reduceCtorEq, Int.reduceBEq, Int.reduceBNe, Int.reduceLT, Int.reduceLE, Int.reduceEq, Int.reduceToNat, Int.reduceAdd, Int.reduceSub, Int.reduceNeg, hl2, badV_on h0 hall, hk]
    · simp +contextual only [vq, vc, ve, vv, vn, vl, ↓reduceIte, Nat.reduceEqDiff, Nat.reduceAdd, Nat.reduceMul, Nat.reduceSub, Nat.reduceLeDiff, Nat.reduceLT, Nat.reduceBEq, Nat.reduceBNe, reduceCtorEq, Int.reduceBEq, Int.reduceBNe, Int.reduceLT, Int.reduceLE, Int.reduceEq, Int.reduceToNat, Int.reduceAdd, Int.reduceSub, Int.reduceNeg, hl2, badV_on h0 hall, hk]
end Go.Proofs.YtmjoaiccbghijaaGreatDoor.paramBack

namespace Go.Proofs.YtmjoaiccbghijaaGreatDoor.paramBack
open Go.Ev hiding Comes
variable [GG]

/-- A parameter. -/
structure Par where
  name : List UInt8
  value : List UInt8
  has : Bool
  deriving DecidableEq
def parE (p : Par) : List EV := [.str p.name, .str p.value, .bool p.has]
theorem par_len {l : List Par} : ∀ r ∈ l.map parE, r.length = 3 := by
  intro r hr
  obtain ⟨p, _, rfl⟩ := List.mem_map.1 hr
  rfl
def Pars (G : Globs) (m : Mem) (v : EV) (l : List Par) : Prop := RowsAt G m 3 v (l.map parE)
theorem Pars.at {m : Mem} {v : EV} {l : List Par} (h : Pars G m v l) {i : Nat} (hi : i < l.length) : ∃ a cap, v = .slice (some a) l.length cap 3 ∧ l.length ≤ cap ∧ m.getN G (a.plus (i * 3)) 3 = some (parE l[i]) ∧ oldAd m.bl.length a = true := by
  obtain ⟨a, cap, h1, h2, h3, h4⟩ := RowsAt.at h (i := i) (by simpa using hi)
  simp only [List.length_map, List.getElem_map] at h1 h2 h3
  exact ⟨a, cap, h1, h2, h3, h4⟩
theorem Pars.slice {m : Mem} {v : EV} {l : List Par} (h : Pars G m v l) : ∃ a c e, v = .slice a l.length c e := by
  obtain ⟨a, c, e, h⟩ := RowsAt.slice h
  rw [List.length_map] at h
  exact ⟨a, c, e, h⟩
theorem Pars.grown {m M : Mem} (hg : Grown m M) {v : EV} {l : List Par} (h : Pars G m v l) : Pars G M v l := RowsAt.grown hg h
theorem par_eq (p q : Par) : eqCells [3, 3, 1] (parE p) (parE q) = some (decide (p = q)) := by
  have : decide (p = q) = ((p.name == q.name) && ((p.value == q.value) && ((p.has == q.has) && true))) := by
    rw [Bool.eq_iff_iff]
    cases p; cases q
    simp [Par.mk.injEq]
  rw [this]
  rfl

def tilde : Par := ⟨[126], [], false⟩
def LentP (m : Mem) (n0 n1 : Nat) (v : EV) (l : List Par) : Prop := LentRows G m n0 n1 3 v (l.map parE) (parE tilde)
theorem LentP.pars {m : Mem} {n0 n1 : Nat} {v : EV} {l : List Par} (h : LentP m n0 n1 v l) (hn : n1 ≤ m.bl.length) : Pars G m v l := lent_rowsAt h hn par_len
end Go.Proofs.YtmjoaiccbghijaaGreatDoor.paramBack

namespace Go.Proofs.YtmjoaiccbghijaaGreatDoor.paramBack
open Go.Ev hiding Comes
variable [GG]

/-- What Parse tells of a text from a place on, behind the parameters that were read. -/
def parseS (w : Bool) (s : List UInt8) : Nat → Nat → List Par → List Par × Int × Int
  | 0, _, acc => (acc, 0, 0)
  | f + 1, i, acc =>
    if i < s.length then
      if s[i]? ≠ some 32 then ([], 100, i)
      else if acc.length = 16 then ([], 4, i)
      else if kwd (s.drop (i + 1)) = 0 then ([], 100, (i + 1 : Nat))
      else if s[i + 1 + kwd (s.drop (i + 1))]? = some 61 then
        if 0 ≤ badV w ((s.drop (i + 1 + kwd (s.drop (i + 1)) + 1)).take (til (s.drop (i + 1 + kwd (s.drop (i + 1)) + 1)))) then ([], 101, ((i + 1 + kwd (s.drop (i + 1)) + 1 : Nat) : Int) + badV w ((s.drop (i + 1 + kwd (s.drop (i + 1)) + 1)).take (til (s.drop (i + 1 + kwd (s.drop (i + 1)) + 1)))))
        else parseS w s f (i + 1 + kwd (s.drop (i + 1)) + 1 + til (s.drop (i + 1 + kwd (s.drop (i + 1)) + 1))) (acc ++ [⟨upS ((s.drop (i + 1)).take (kwd (s.drop (i + 1)))), (s.drop (i + 1 + kwd (s.drop (i + 1)) + 1)).take (til (s.drop (i + 1 + kwd (s.drop (i + 1)) + 1))), true⟩])
      else if i + 1 + kwd (s.drop (i + 1)) < s.length ∧ s[i + 1 + kwd (s.drop (i + 1))]? ≠ some 32 then ([], 100, (i + 1 + kwd (s.drop (i + 1)) : Nat))
      else parseS w s f (i + 1 + kwd (s.drop (i + 1))) (acc ++ [⟨upS ((s.drop (i + 1)).take (kwd (s.drop (i + 1)))), [], false⟩])
    else (acc, 0, 0)
theorem parseS_at {w : Bool} {s : List UInt8} {f i n : Nat} {acc : List Par} (hi : i < s.length) (h32 : s[i] = 32) (h16 : acc.length ≠ 16) (hn : kwd (s.drop (i + 1)) = n) (h0 : n ≠ 0) :
    parseS w s (f + 1) i acc = if s[i + 1 + n]? = some 61 then
        if 0 ≤ badV w ((s.drop (i + 1 + n + 1)).take (til (s.drop (i + 1 + n + 1)))) then ([], 101, ((i + 1 + n + 1 : Nat) : Int) + badV w ((s.drop (i + 1 + n + 1)).take (til (s.drop (i + 1 + n + 1)))))
        else parseS w s f (i + 1 + n + 1 + til (s.drop (i + 1 + n + 1))) (acc ++ [⟨upS ((s.drop (i + 1)).take n), (s.drop (i + 1 + n + 1)).take (til (s.drop (i + 1 + n + 1))), true⟩])
      else if i + 1 + n < s.length ∧ s[i + 1 + n]? ≠ some 32 then ([], 100, (i + 1 + n : Nat))
      else parseS w s f (i + 1 + n) (acc ++ [⟨upS ((s.drop (i + 1)).take n), [], false⟩]) := by
  subst hn
  rw [parseS, if_pos hi, if_neg (by rw [List.getElem?_eq_getElem hi, h32]; simp), if_neg h16, if_neg h0]
theorem badV_le (w : Bool) (s : List UInt8) : badV w s ≤ s.length := by
  unfold badV
  split
  · omega
  · split
    · omega
    · split
      · omega
      · omega
/-- What a Parse leaves. -/
def ParseR (m : Mem) (w : Bool) (s : List UInt8) (r : CR) : Prop := ∃ v m' k, r = ⟨.val (.tuple [v, .agg [.int .i64 (parseS w s (s.length + 1) 0 []).2.1, .int .i64 (parseS w s (s.length + 1) 0 []).2.2]]), m', none⟩ ∧ Grown m m' ∧ min m.low m.bl.length ≤ m'.low ∧ Priv k 3 0 m' v (((parseS w s (s.length + 1) 0 []).1.map parE).flatten) (parseS w s (s.length + 1) 0 []).1.length ∧ ∀ j, k = some j → m.bl.length ≤ j
theorem c_param_Parse_1 (m : Mem) (a b : Int) : Go.Ev.Comes T G f_param_Parse_1 [.int .i64 a, .int .i64 b] m none ⟨.val (.tuple [.slice none 0 0 0, .agg [.int .i64 a, .int .i64 b]]), m, none⟩ := by
  refine comes2 T_param_Parse_1 rfl fun M hg hlen hlow => ?_
  have hl0 : m.bl.length ≤ M.low := by omega
  simp only [F_param_Parse_1]
  simp +contextual only [vq, vc, ve, vv, vn, vl, ↓reduceIte, Nat.reduceEqDiff, Nat.reduceAdd, Nat.reduceMul, Nat.reduceSub, Nat.reduceLeDiff, Nat.reduceLT, Nat.reduceBEq, Nat.reduceBNe, reduceCtorEq, Int.reduceBEq, Int.reduceBNe, Int.reduceLT, Int.reduceLE, Int.reduceEq, Int.reduceToNat, Int.reduceAdd, Int.reduceSub, Int.reduceNeg]
  refine new_mk fun M1 e1 => ?_
  have R : RowIs M1 M.bl.length [.int .i64 0, .int .i64 0] := by rw [e1]; exact row_push _ _
  obtain ⟨M2, w1, w2, w3, w4⟩ := putN_row (off := 0) (vs := [.int .i64 a, .int .i64 b]) R (by simp)
  have w2 : RowIs M2 M.bl.length [.int .i64 a, .int .i64 b] := w2
  have l1 : M1.low = M.low := by rw [e1]; rfl
  have l2 : m.bl.length ≤ M2.low := by omega
  simp +contextual only [vq, vc, ve, vv, vn, vl, ↓reduceIte, Nat.reduceEqDiff, Nat.reduceAdd, Nat.reduceMul, Nat.reduceSub, Nat.reduceLeDiff, Nat.reduceLT, Nat.reduceBEq, Nat.reduceBNe, reduceCtorEq, Int.reduceBEq, Int.reduceBNe, Int.reduceLT, Int.reduceLE, Int.reduceEq, Int.reduceToNat, Int.reduceAdd, Int.reduceSub, Int.reduceNeg, w1, w2.getN (G := G), l2]
end Go.Proofs.YtmjoaiccbghijaaGreatDoor.paramBack

namespace Go.Proofs.YtmjoaiccbghijaaGreatDoor.paramBack
open Go.Ev hiding Comes
variable [GG]

theorem c_param_Parse (m : Mem) (s : List UInt8) (w : Bool) (hs : s.length ≤ 100000000) : ∃ r, Go.Ev.Comes T G f_param_Parse [.str s, .bool w] m none r ∧ ParseR m w s r := by
  refine comes2P T_param_Parse rfl fun M hg hlen hlow => ?_
  have hl0 : m.bl.length ≤ M.low := by omega
  simp only [F_param_Parse]
  simp +contextual only [vq, vc, ve, vv, vn, vl, ↓reduceIte, Nat.reduceEqDiff, Nat.reduceAdd, Nat.reduceMul, Nat.reduceSub, Nat.reduceLeDiff, Nat.reduceLT, Nat.reduceBEq, Nat.reduceBNe, reduceCtorEq, Int.reduceBEq, Int.reduceBNe, Int.reduceLT, Int.reduceLE, Int.reduceEq, Int.reduceToNat, Int.reduceAdd, Int.reduceSub, Int.reduceNeg]
  refine new_mk fun M1 e1 => ?_
  have R1 : RowIs M1 M.bl.length [.int .i64 0, .int .i64 0] := by rw [e1]; exact row_push _ _
  have g1 : Grown M M1 := by rw [e1]; exact Grown.rfl'.push
  have l1 : m.bl.length ≤ M1.low := by rw [e1]; exact hl0
  have b1 : M1.bl.length = M.bl.length + 1 := by rw [e1]; simp [Mem.push]
  simp +contextual only [vq, vc, ve, vv, vn, vl, ↓reduceIte, Nat.reduceEqDiff, Nat.reduceAdd, Nat.reduceMul, Nat.reduceSub, Nat.reduceLeDiff, Nat.reduceLT, Nat.reduceBEq, Nat.reduceBNe, reduceCtorEq, Int.reduceBEq, Int.reduceBNe, Int.reduceLT, Int.reduceLE, Int.reduceEq, Int.reduceToNat, Int.reduceAdd, Int.reduceSub, Int.reduceNeg]
  refine loop2 (fun q st => ∃ (f i : Nat) (acc : List Par) (k : Option Nat) (v : EV) (A : Fr) (N : Mem), st = ⟨A, N, [], none⟩ ∧ q = s.length - i ∧ s.length - i < f ∧ i ≤ s.length ∧ acc.length ≤ 16 ∧ parseS w s f i acc = parseS w s (s.length + 1) 0 [] ∧ A 0 = .str s ∧ A 1 = .bool w ∧ A 5 = .ptr (some ⟨.mem M.bl.length 0, 0⟩) ∧ A 6 = v ∧ A 7 = .int .i64 (i : Nat) ∧ Priv k 3 0 N v ((acc.map parE).flatten) acc.length ∧ (∀ j, k = some j → M1.bl.length ≤ j) ∧ Grown M1 N ∧ m.bl.length ≤ N.low) s.length ⟨s.length + 1, 0, [], none, _, _, M1, rfl, rfl, by omega, by omega, by simp, rfl, by simp +contextual only [vq, vc, ve, vv, vn, vl, ↓reduceIte, Nat.reduceEqDiff, Nat.reduceAdd, Nat.reduceMul, Nat.reduceSub, Nat.reduceLeDiff, Nat.reduceLT, Nat.reduceBEq, Nat.reduceBNe, reduceCtorEq, Int.reduceBEq, Int.reduceBNe, Int.reduceLT, Int.reduceLE, Int.reduceEq, Int.reduceToNat, Int.reduceAdd, Int.reduceSub, Int.reduceNeg], by simp +contextual only [vq, vc, ve, vv, vn, vl, ↓reduceIte, Nat.reduceEqDiff, Nat.reduceAdd, Nat.reduceMul, Nat.reduceSub, Nat.reduceLeDiff, Nat.reduceLT, Nat.reduceBEq, Nat.reduceBNe, reduceCtorEq, Int.reduceBEq, Int.reduceBNe, Int.reduceLT, Int.reduceLE, Int.reduceEq, Int.reduceToNat, Int.reduceAdd, Int.reduceSub, Int.reduceNeg], by simp +contextual only [vq, vc, ve, vv, vn, vl, ↓reduceIte, Nat.reduceEqDiff, Nat.reduceAdd, Nat.reduceMul, Nat.reduceSub, Nat.reduceLeDiff, Nat.reduceLT, Nat.reduceBEq, Nat.reduceBNe, reduceCtorEq, Int.reduceBEq, Int.reduceBNe, Int.reduceLT, Int.reduceLE, Int.reduceEq, Int.reduceToNat, Int.reduceAdd, Int.reduceSub, Int.reduceNeg], by simp +contextual only [vq, vc, ve, vv, vn, vl, ↓reduceIte, Nat.reduceEqDiff, Nat.reduceAdd, Nat.reduceMul, Nat.reduceSub, Nat.reduceLeDiff, Nat.reduceLT, Nat.reduceBEq, Nat.reduceBNe, reduceCtorEq, Int.reduceBEq, Int.reduceBNe, Int.reduceLT, Int.reduceLE, Int.reduceEq, Int.reduceToNat, Int.reduceAdd, Int.reduceSub, Int.reduceNeg], by simp +contextual only [vq, vc, ve, vv, vn, vl, ↓reduceIte, Nat.reduceEqDiff, Nat.reduceAdd, Nat.reduceMul, Nat.reduceSub, Nat.reduceLeDiff, Nat.reduceLT, Nat.reduceBEq, Nat.reduceBNe, reduceCtorEq, Int.reduceBEq, Int.reduceBNe, Int.reduceLT, Int.reduceLE, Int.reduceEq, Int.reduceToNat, Int.reduceAdd, Int.reduceSub, Int.reduceNeg]; rfl, Priv.nil, (fun _ h => by cases h), Grown.rfl', l1⟩ fun J hJ q st hI => ?_
  obtain ⟨f, i, acc, k, v, A, N, rfl, rfl, hf, hi, hac, hp, A0, A1, A5, A6, A7, hv, hk, hgN, hlN⟩ := hI
  obtain ⟨f, rfl⟩ : ∃ g, f = g + 1 := ⟨f - 1, by omega⟩
  obtain ⟨sa, sc, se, sv⟩ := hv.slice
  have lv : lnbE v = some (.int .i64 acc.length) := by rw [sv]; rfl
  have hle := hgN.le
  -- an end with an error
  have err : ∀ (K : Mem) (c a : Int), Grown M1 K → m.bl.length ≤ K.low → parseS w s (s.length + 1) 0 [] = ([], c, a) → ∃ K', K.putN ⟨.mem M.bl.length 0, 0⟩ [.int .i64 c, .int .i64 a] = some K' ∧ RowIs K' M.bl.length [.int .i64 c, .int .i64 a] ∧ ∀ (B : Fr), B 4 = .slice none 0 0 0 → B 5 = .ptr (some ⟨.mem M.bl.length 0, 0⟩) → postX G [.tmp 4, .cell 5 (some 2)] m (ParseR m w s) .ret ⟨B, K', [], none⟩ := fun K c a gK lK hpe => by
    obtain ⟨K', w1, w2, w3, w4⟩ := putN_row (off := 0) (vs := [.int .i64 c, .int .i64 a]) (R1.grown gK) (by simp)
    have w2 : RowIs K' M.bl.length [.int .i64 c, .int .i64 a] := w2
    refine ⟨K', w1, w2, fun B B4 B5 => ?_⟩
    have lw : m.bl.length ≤ K'.low := by omega
    exact postX_same (v := .tuple [.slice none 0 0 0, .agg [.int .i64 c, .int .i64 a]]) (by simp +contextual only [vq, vc, ve, vv, vn, vl, ↓reduceIte, Nat.reduceEqDiff, Nat.reduceAdd, Nat.reduceMul, Nat.reduceSub, Nat.reduceLeDiff, Nat.reduceLT, Nat.reduceBEq, Nat.reduceBNe, reduceCtorEq, Int.reduceBEq, Int.reduceBNe, Int.reduceLT, Int.reduceLE, Int.reduceEq, Int.reduceToNat, Int.reduceAdd, Int.reduceSub, Int.reduceNeg, w2.getN (G := G), B4, B5]) lw rfl (by
      unfold ParseR
      rw [hpe]
      exact ⟨_, m, none, rfl, Grown.rfl', by omega, Priv.nil, fun _ h => by cases h⟩)
  by_cases hlt : i < s.length
  · have u32 : ((s[i].toNat : Int) != 32) = (s[i] != 32) := by
      have := u8_eq s[i] 32
      simp only [bne]
      exact congrArg (! ·) this
    cases h32 : (s[i] != 32) with
    | true =>
      rw [h32] at u32
      have hpe : parseS w s (s.length + 1) 0 [] = ([], 100, (i : Int)) := by
        rw [← hp, parseS, if_pos hlt, if_pos (by rw [List.getElem?_eq_getElem hlt]; intro h; rw [Option.some.inj h] at h32; simp at h32)]
      obtain ⟨K', w1, w2, hend⟩ := err N 100 i hgN hlN hpe
      simp +contextual only [vq, vc, ve, vv, vn, vl, ↓reduceIte, Nat.reduceEqDiff, Nat.reduceAdd, Nat.reduceMul, Nat.reduceSub, Nat.reduceLeDiff, Nat.reduceLT, Nat.reduceBEq, Nat.reduceBNe, reduceCtorEq, Int.reduceBEq, Int.reduceBNe, Int.reduceLT, Int.reduceLE, Int.reduceEq, Int.reduceToNat, Int.reduceAdd, Int.reduceSub, Int.reduceNeg, A0, A7, hlt, get_byte hlt, u32, callR_val (c_param_Parse_1 N 100 i), A5, w1]
      exact hend _ (by simp +contextual only [vq, vc, ve, vv, vn, vl, ↓reduceIte, Nat.reduceEqDiff, Nat.reduceAdd, Nat.reduceMul, Nat.reduceSub, Nat.reduceLeDiff, Nat.reduceLT, Nat.reduceBEq, Nat.reduceBNe, reduceCtorEq, Int.reduceBEq, Int.reduceBNe, Int.reduceLT, Int.reduceLE, Int.reduceEq, Int.reduceToNat, Int.reduceAdd, Int.reduceSub, Int.reduceNeg]) (by simp +contextual only [vq, vc, ve, vv, vn, vl, ↓reduceIte, Nat.reduceEqDiff, Nat.reduceAdd, Nat.reduceMul, Nat.reduceSub, Nat.reduceLeDiff, Nat.reduceLT, Nat.reduceBEq, Nat.reduceBNe, reduceCtorEq, Int.reduceBEq, Int.reduceBNe, Int.reduceLT, Int.reduceLE, Int.reduceEq, Int.reduceToNat, Int.reduceAdd, Int.reduceSub, Int.reduceNeg, A5])
    | false =>
      rw [h32] at u32
      have hsp : s[i] = 32 := by simpa using h32
      by_cases h16 : acc.length = 16
      · have hpe : parseS w s (s.length + 1) 0 [] = ([], 4, (i : Int)) := by
          rw [← hp, parseS, if_pos hlt, if_neg (by rw [List.getElem?_eq_getElem hlt, hsp]; simp), if_pos h16]
        obtain ⟨K', w1, w2, hend⟩ := err N 4 i hgN hlN hpe
        have k16 : ((acc.length : Int) == 16) = true := beq_iff_eq.2 (by omega)
        simp +contextual only [vq, vc, ve, vv, vn, vl, ↓reduceIte, Nat.reduceEqDiff, Nat.reduceAdd, Nat.reduceMul, Nat.reduceSub, Nat.reduceLeDiff, Nat.reduceLT, Nat.reduceBEq, Nat.reduceBNe, reduceCtorEq, Int.reduceBEq, Int.reduceBNe, Int.reduceLT, Int.reduceLE, Int.reduceEq, Int.reduceToNat, Int.reduceAdd, Int.reduceSub, Int.reduceNeg, A0, A6, A7, hlt, get_byte hlt, u32, lv, k16, callR_val (c_param_Parse_1 N 4 i), A5, w1]
        exact hend _ (by simp +contextual only [vq, vc, ve, vv, vn, vl, ↓reduceIte, Nat.reduceEqDiff, Nat.reduceAdd, Nat.reduceMul, Nat.reduceSub, Nat.reduceLeDiff, Nat.reduceLT, Nat.reduceBEq, Nat.reduceBNe, reduceCtorEq, Int.reduceBEq, Int.reduceBNe, Int.reduceLT, Int.reduceLE, Int.reduceEq, Int.reduceToNat, Int.reduceAdd, Int.reduceSub, Int.reduceNeg]) (by simp +contextual only [vq, vc, ve, vv, vn, vl, ↓reduceIte, Nat.reduceEqDiff, Nat.reduceAdd, Nat.reduceMul, Nat.reduceSub, Nat.reduceLeDiff, Nat.reduceLT, Nat.reduceBEq, Nat.reduceBNe, reduceCtorEq, Int.reduceBEq, Int.reduceBNe, Int.reduceLT, Int.reduceLE, Int.reduceEq, Int.reduceToNat, Int.reduceAdd, Int.reduceSub, Int.reduceNeg, A5])
      · have k16 : ((acc.length : Int) == 16) = false := beq_eq_false_iff_ne.2 (by omega)
        have hi1 : i + 1 ≤ s.length := by omega
        have hkl := kwd_le (s.drop (i + 1))
        rw [List.length_drop] at hkl
        have hcK := c_param_keyword N (s.drop (i + 1)) (by simp; omega)
        by_cases hn0 : kwd (s.drop (i + 1)) = 0
        · have hpe : parseS w s (s.length + 1) 0 [] = ([], 100, ((i + 1 : Nat) : Int)) := by
            rw [← hp, parseS, if_pos hlt, if_neg (by rw [List.getElem?_eq_getElem hlt, hsp]; simp), if_neg h16, if_pos hn0]
          rw [hn0] at hcK
          obtain ⟨K', w1, w2, hend⟩ := err N 100 (i + 1 : Nat) hgN hlN hpe
          simp +contextual only [vq, vc, ve, vv, vn, vl, ↓reduceIte, Nat.reduceEqDiff, Nat.reduceAdd, Nat.reduceMul, Nat.reduceSub, Nat.reduceLeDiff, Nat.reduceLT, Nat.reduceBEq, Nat.reduceBNe, reduceCtorEq, Int.reduceBEq, Int.reduceBNe, Int.reduceLT, Int.reduceLE, Int.reduceEq, Int.reduceToNat, Int.reduceAdd, Int.reduceSub, Int.reduceNeg, A0, A6, A7, hlt, get_byte hlt, u32, lv, k16, wsucc hlt (by omega), hi1, callR_val hcK, callR_val (c_param_Parse_1 N 100 (i + 1 : Nat)), A5, w1]
          exact hend _ (by simp +contextual only [vq, vc, ve, vv, vn, vl, ↓reduceIte, Nat.reduceEqDiff, Nat.reduceAdd, Nat.reduceMul, Nat.reduceSub, Nat.reduceLeDiff, Nat.reduceLT, Nat.reduceBEq, Nat.reduceBNe, reduceCtorEq, Int.reduceBEq, Int.reduceBNe, Int.reduceLT, Int.reduceLE, Int.reduceEq, Int.reduceToNat, Int.reduceAdd, Int.reduceSub, Int.reduceNeg]) (by simp +contextual only [vq, vc, ve, vv, vn, vl, ↓reduceIte, Nat.reduceEqDiff, Nat.reduceAdd, Nat.reduceMul, Nat.reduceSub, Nat.reduceLeDiff, Nat.reduceLT, Nat.reduceBEq, Nat.reduceBNe, reduceCtorEq, Int.reduceBEq, Int.reduceBNe, Int.reduceLT, Int.reduceLE, Int.reduceEq, Int.reduceToNat, Int.reduceAdd, Int.reduceSub, Int.reduceNeg, A5])
        · obtain ⟨n, hn⟩ : ∃ n, kwd (s.drop (i + 1)) = n := ⟨_, rfl⟩
          rw [hn] at hcK hn0 hkl
          have hstep := parseS_at (w := w) (f := f) hlt hsp h16 hn hn0
          rw [hp] at hstep
          have kn : ((n : Int) == 0) = false := beq_eq_false_iff_ne.2 (by omega)
          have wn : IntKind.i64.wrap (((i + 1 : Nat) : Int) + (n : Int)) = ((i + 1 + n : Nat) : Int) := wrap_of (by omega) (by omega)
          have hi2 : i + 1 + n ≤ s.length := by omega
          have hi12 : i + 1 ≤ i + 1 + n := by omega
          have hin : i + 1 + n - (i + 1) = n := by omega
          have hU := c_octet_Upper N ((s.drop (i + 1)).take n) (by simp; omega)
          simp +contextual only [vq, vc, ve, vv, vn, vl, ↓reduceIte, Nat.reduceEqDiff, Nat.reduceAdd, Nat.reduceMul, Nat.reduceSub, Nat.reduceLeDiff, Nat.reduceLT, Nat.reduceBEq, Nat.reduceBNe, reduceCtorEq, Int.reduceBEq, Int.reduceBNe, Int.reduceLT, Int.reduceLE, Int.reduceEq, Int.reduceToNat, Int.reduceAdd, Int.reduceSub, Int.reduceNeg, A0, A6, A7, hlt, get_byte hlt, u32, lv, k16, wsucc hlt (by omega), hi1, callR_val hcK, kn, wn, hi2, hi12, hin, callR_val hU]
          generalize hname : upS ((s.drop (i + 1)).take n) = name at hstep hU ⊢
          refine new_mk fun N1 n1 => ?_
          have gN1 : Grown N N1 := by rw [n1]; exact Grown.rfl'.push
          have bN1 : N1.bl.length = N.bl.length + 1 := by rw [n1]; simp [Mem.push]
          obtain ⟨N2, w1, r2, t2, z2⟩ := putN_row (off := 0) (vs := [.str name, .str [], .bool false]) (m := N1) (b := N.bl.length) (cs := [.str [], .str [], .bool false]) (by rw [n1]; exact row_push _ _) (by simp)
          have r2 : RowIs N2 N.bl.length [.str name, .str [], .bool false] := r2
          have lN1 : m.bl.length ≤ N1.low := by rw [n1]; exact hlN
          have lN2 : m.bl.length ≤ N2.low := by omega
          have but : ∀ K : Mem, But1 N.bl.length N1 K → Grown N K := fun K hb => grown_of (by have := hb.1; omega) fun j hj => by rw [hb.2 j (by omega), gN1.at hj]
          -- the parameter is put behind
          have put : ∀ (K : Mem) (p : Par) (i' : Nat), But1 N.bl.length N1 K → m.bl.length ≤ K.low → RowIs K N.bl.length (parE p) → i < i' → i' ≤ s.length → parseS w s f i' (acc ++ [p]) = parseS w s (s.length + 1) 0 [] → K.getN G ⟨.mem N.bl.length 0, 0⟩ 3 = some (parE p) ∧ ∀ K1, K1 = K.push (.cells (parE p) 0 true) → RowIs K1 K.bl.length (parE p) ∧ ∃ v' K2, appendE G K1 3 40 0 v (parE p) 1 = some (v', K2) ∧ ∀ B : Fr, B 0 = .str s → B 1 = .bool w → B 5 = .ptr (some ⟨.mem M.bl.length 0, 0⟩) → B 6 = v' → B 7 = .int .i64 (i' : Nat) → ∀ Q, againE J (s.length - i) Q .normal ⟨B, K2, [], none⟩ := fun K p i' hb lK rK hi1' hi' hpp => by
            have gK := but K hb
            have h3 : (parE p).length = 3 := rfl
            refine ⟨by rw [rK.getN, if_neg (by omega), if_pos (by omega), List.drop_zero, List.take_of_length_le (by omega)], fun K1 k1 => ⟨by rw [k1]; exact row_push _ _, ?_⟩⟩
            have gK1 : Grown K K1 := by rw [k1]; exact Grown.rfl'.push
            have lK1 : K1.low = K.low := by rw [k1]; rfl
            have hgle := (gK.trans gK1).le
            obtain ⟨v', K2, k', ha, hv2, hk2, hag, hl2, hw2⟩ := (hv.grown (gK.trans gK1)).app (G := G) (bytes := 40) (cnt := 1) (new := parE p) tagOk_0 (by omega) rfl (by omega)
            refine ⟨v', K2, ha, fun B B0 B1 B5 B6 B7 Q => again2 hJ (s.length - i') (by omega) ⟨f, i', acc ++ [p], k', v', B, K2, rfl, rfl, by omega, hi', by simp; omega, hpp, B0, B1, B5, B6, B7, by simpa using hv2, fun j hj => ?_, grown_of (by omega) fun j hj => ?_, hw2 _ (by omega) (by omega) fun j hj => by have := hk j hj; omega⟩⟩
            · rcases hk2 with h | ⟨_, h⟩
              · exact hk j (by rw [← h, hj])
              · rw [h] at hj; cases hj; omega
            · rw [hag j (by omega) fun h => by have := hk j h.symm; omega, (gK.trans gK1).at (by omega), hgN.at hj]
          by_cases heq : s[i + 1 + n]? = some 61
          · have hl2 : i + 1 + n < s.length := (List.getElem?_eq_some_iff.1 heq).1
            have hb61 : s[i + 1 + n] = 61 := by rw [List.getElem?_eq_getElem hl2] at heq; exact Option.some.inj heq
            have u61 : ((s[i + 1 + n].toNat : Int) == 61) = true := by rw [hb61]; rfl
            rw [if_pos heq] at hstep
            obtain ⟨N3, w3, r3, t3, z3⟩ := put1_row (off := 2) (v := .bool true) r2 (by simp)
            have r3 : RowIs N3 N.bl.length [.str name, .str [], .bool true] := r3
            have lN3 : m.bl.length ≤ N3.low := by omega
            generalize hval : (s.drop (i + 1 + n + 1)).take (til (s.drop (i + 1 + n + 1))) = val at hstep
            have hvl : val.length = til (s.drop (i + 1 + n + 1)) := by rw [← hval, List.length_take, Nat.min_eq_left (til_le _)]
            have htl := til_le (s.drop (i + 1 + n + 1))
            rw [List.length_drop] at htl
            obtain ⟨cr, cb, hcut⟩ := c_strings_Cut1 N3 (s.drop (i + 1 + n + 1)) (by simp; omega)
            rw [hval] at hcut
            obtain ⟨N4, w4, r4, t4, z4⟩ := put1_row (off := 1) (v := .str val) r3 (by simp)
            have r4 : RowIs N4 N.bl.length [.str name, .str val, .bool true] := r4
            have lN4 : m.bl.length ≤ N4.low := by omega
            have hbad := c_param_badValue N4 val w (by omega)
            have hbl := badV_le w val
            have hi3 : i + 1 + n + 1 ≤ s.length := by omega
            have b14 := (t2.trans t3).trans t4
            by_cases hbv : 0 ≤ badV w val
            · rw [if_pos hbv] at hstep
              obtain ⟨bv, hbve⟩ : ∃ bv : Nat, badV w val = bv := ⟨(badV w val).toNat, by omega⟩
              rw [hbve] at hstep hbad hbv hbl
              have wbv : IntKind.i64.wrap (((i + 1 + n + 1 : Nat) : Int) + (bv : Int)) = ((i + 1 + n + 1 : Nat) : Int) + (bv : Int) := wrap64 (by omega) (by omega)
              obtain ⟨K', q1, q2, hend⟩ := err N4 101 (((i + 1 + n + 1 : Nat) : Int) + (bv : Int)) (hgN.trans (but N4 b14)) lN4 hstep
              simp +contextual only [vq, vc, ve, vv, vn, vl, ↓reduceIte, Nat.reduceEqDiff, Nat.reduceAdd, Nat.reduceMul, Nat.reduceSub, Nat.reduceLeDiff, Nat.reduceLT, Nat.reduceBEq, Nat.reduceBNe, reduceCtorEq, Int.reduceBEq, Int.reduceBNe, Int.reduceLT, Int.reduceLE, Int.reduceEq, Int.reduceToNat, Int.reduceAdd, Int.reduceSub, Int.reduceNeg, w1, A0, A1, A7, wn, hl2, get_byte hl2, u61, wsucc hl2 (by omega), w3, hi3, callR_val hcut, w4, r4.get (G := G), callR_val hbad, wbv, callR_val (c_param_Parse_1 N4 101 (((i + 1 + n + 1 : Nat) : Int) + (bv : Int))), A5, q1]
              exact hend _ (by simp +contextual only [vq, vc, ve, vv, vn, vl, ↓reduceIte, Nat.reduceEqDiff, Nat.reduceAdd, Nat.reduceMul, Nat.reduceSub, Nat.reduceLeDiff, Nat.reduceLT, Nat.reduceBEq, Nat.reduceBNe, reduceCtorEq, Int.reduceBEq, Int.reduceBNe, Int.reduceLT, Int.reduceLE, Int.reduceEq, Int.reduceToNat, Int.reduceAdd, Int.reduceSub, Int.reduceNeg]) (by simp +contextual only [vq, vc, ve, vv, vn, vl, ↓reduceIte, Nat.reduceEqDiff, Nat.reduceAdd, Nat.reduceMul, Nat.reduceSub, Nat.reduceLeDiff, Nat.reduceLT, Nat.reduceBEq, Nat.reduceBNe, reduceCtorEq, Int.reduceBEq, Int.reduceBNe, Int.reduceLT, Int.reduceLE, Int.reduceEq, Int.reduceToNat, Int.reduceAdd, Int.reduceSub, Int.reduceNeg, A5])
            · rw [if_neg hbv, ← hvl] at hstep
              obtain ⟨hg3, hput⟩ := put N4 ⟨name, val, true⟩ (i + 1 + n + 1 + val.length) b14 lN4 r4 (by omega) (by omega) hstep.symm
              have hg3 : N4.getN G ⟨.mem N.bl.length 0, 0⟩ 3 = some [.str name, .str val, .bool true] := hg3
              have wv : IntKind.i64.wrap (((i + 1 + n + 1 : Nat) : Int) + (val.length : Int)) = ((i + 1 + n + 1 + val.length : Nat) : Int) := wrap_of (by omega) (by omega)
              simp +contextual only [vq, vc, ve, vv, vn, vl, ↓reduceIte, Nat.reduceEqDiff, Nat.reduceAdd, Nat.reduceMul, Nat.reduceSub, Nat.reduceLeDiff, Nat.reduceLT, Nat.reduceBEq, Nat.reduceBNe, reduceCtorEq, Int.reduceBEq, Int.reduceBNe, Int.reduceLT, Int.reduceLE, Int.reduceEq, Int.reduceToNat, Int.reduceAdd, Int.reduceSub, Int.reduceNeg, w1, A0, A1, A7, wn, hl2, get_byte hl2, u61, wsucc hl2 (by omega), w3, hi3, callR_val hcut, w4, r4.get (G := G), callR_val hbad, hbv, wv, hg3]
              refine new_mk fun K1 k1 => ?_
              obtain ⟨rK1, v', K2, hap, hfin⟩ := hput K1 k1
              have rK1 : RowIs K1 N4.bl.length [.str name, .str val, .bool true] := rK1
              have hap : appendE G K1 3 40 0 v [.str name, .str val, .bool true] 1 = some (v', K2) := hap
              simp +contextual only [vq, vc, ve, vv, vn, vl, ↓reduceIte, Nat.reduceEqDiff, Nat.reduceAdd, Nat.reduceMul, Nat.reduceSub, Nat.reduceLeDiff, Nat.reduceLT, Nat.reduceBEq, Nat.reduceBNe, reduceCtorEq, Int.reduceBEq, Int.reduceBNe, Int.reduceLT, Int.reduceLE, Int.reduceEq, Int.reduceToNat, Int.reduceAdd, Int.reduceSub, Int.reduceNeg, rK1.getN (G := G), A6, hap]
              exact hfin _ (by simp +contextual only [vq, vc, ve, vv, vn, vl, ↓reduceIte, Nat.reduceEqDiff, Nat.reduceAdd, Nat.reduceMul, Nat.reduceSub, Nat.reduceLeDiff, Nat.reduceLT, Nat.reduceBEq, Nat.reduceBNe, reduceCtorEq, Int.reduceBEq, Int.reduceBNe, Int.reduceLT, Int.reduceLE, Int.reduceEq, Int.reduceToNat, Int.reduceAdd, Int.reduceSub, Int.reduceNeg, A0]) (by simp +contextual only [vq, vc, ve, vv, vn, vl, ↓reduceIte, Nat.reduceEqDiff, Nat.reduceAdd, Nat.reduceMul, Nat.reduceSub, Nat.reduceLeDiff, Nat.reduceLT, Nat.reduceBEq, Nat.reduceBNe, reduceCtorEq, Int.reduceBEq, Int.reduceBNe, Int.reduceLT, Int.reduceLE, Int.reduceEq, Int.reduceToNat, Int.reduceAdd, Int.reduceSub, Int.reduceNeg, A1]) (by simp +contextual only [vq, vc, ve, vv, vn, vl, ↓reduceIte, Nat.reduceEqDiff, Nat.reduceAdd, Nat.reduceMul, Nat.reduceSub, Nat.reduceLeDiff, Nat.reduceLT, Nat.reduceBEq, Nat.reduceBNe, reduceCtorEq, Int.reduceBEq, Int.reduceBNe, Int.reduceLT, Int.reduceLE, Int.reduceEq, Int.reduceToNat, Int.reduceAdd, Int.reduceSub, Int.reduceNeg, A5]) (by simp +contextual only [vq, vc, ve, vv, vn, vl, ↓reduceIte, Nat.reduceEqDiff, Nat.reduceAdd, Nat.reduceMul, Nat.reduceSub, Nat.reduceLeDiff, Nat.reduceLT, Nat.reduceBEq, Nat.reduceBNe, reduceCtorEq, Int.reduceBEq, Int.reduceBNe, Int.reduceLT, Int.reduceLE, Int.reduceEq, Int.reduceToNat, Int.reduceAdd, Int.reduceSub, Int.reduceNeg]) (by simp +contextual only [vq, vc, ve, vv, vn, vl, ↓reduceIte, Nat.reduceEqDiff, Nat.reduceAdd, Nat.reduceMul, Nat.reduceSub, Nat.reduceLeDiff, Nat.reduceLT, Nat.reduceBEq, Nat.reduceBNe, reduceCtorEq, Int.reduceBEq, Int.reduceBNe, Int.reduceLT, Int.reduceLE, Int.reduceEq, Int.reduceToNat, Int.reduceAdd, Int.reduceSub, Int.reduceNeg]) _
          · rw [if_neg heq] at hstep
            by_cases hl2 : i + 1 + n < s.length
            · have hb61 : s[i + 1 + n] ≠ 61 := fun h => heq (by rw [List.getElem?_eq_getElem hl2, h])
              have u61 : ((s[i + 1 + n].toNat : Int) == 61) = false := by
                have := u8_eq s[i + 1 + n] 61
                rw [show ((61 : UInt8).toNat : Int) = 61 from rfl] at this
                rw [this]
                simpa using hb61
              have u322 : ((s[i + 1 + n].toNat : Int) != 32) = (s[i + 1 + n] != 32) := by
                have := u8_eq s[i + 1 + n] 32
                simp only [bne]
                exact congrArg (! ·) this
              cases h322 : (s[i + 1 + n] != 32) with
              | true =>
                rw [h322] at u322
                rw [if_pos ⟨hl2, by rw [List.getElem?_eq_getElem hl2]; intro h; rw [Option.some.inj h] at h322; simp at h322⟩] at hstep
                obtain ⟨K', q1, q2, hend⟩ := err N2 100 (i + 1 + n : Nat) (hgN.trans (but N2 t2)) lN2 hstep
                simp +contextual only [vq, vc, ve, vv, vn, vl, ↓reduceIte, Nat.reduceEqDiff, Nat.reduceAdd, Nat.reduceMul, Nat.reduceSub, Nat.reduceLeDiff, Nat.reduceLT, Nat.reduceBEq, Nat.reduceBNe, reduceCtorEq, Int.reduceBEq, Int.reduceBNe, Int.reduceLT, Int.reduceLE, Int.reduceEq, Int.reduceToNat, Int.reduceAdd, Int.reduceSub, Int.reduceNeg, w1, A0, A1, A7, wn, hl2, get_byte hl2, u61, u322, callR_val (c_param_Parse_1 N2 100 (i + 1 + n : Nat)), A5, q1]
                exact hend _ (by simp +contextual only [vq, vc, ve, vv, vn, vl, ↓reduceIte, Nat.reduceEqDiff, Nat.reduceAdd, Nat.reduceMul, Nat.reduceSub, Nat.reduceLeDiff, Nat.reduceLT, Nat.reduceBEq, Nat.reduceBNe, reduceCtorEq, Int.reduceBEq, Int.reduceBNe, Int.reduceLT, Int.reduceLE, Int.reduceEq, Int.reduceToNat, Int.reduceAdd, Int.reduceSub, Int.reduceNeg]) (by simp +contextual only [vq, vc, ve, vv, vn, vl, ↓reduceIte, Nat.reduceEqDiff, Nat.reduceAdd, Nat.reduceMul, Nat.reduceSub, Nat.reduceLeDiff, Nat.reduceLT, Nat.reduceBEq, Nat.reduceBNe, reduceCtorEq, Int.reduceBEq, Int.reduceBNe, Int.reduceLT, Int.reduceLE, Int.reduceEq, Int.reduceToNat, Int.reduceAdd, Int.reduceSub, Int.reduceNeg, A5])
              | false =>
                rw [h322] at u322
                rw [if_neg (fun h => h.2 (by rw [List.getElem?_eq_getElem hl2]; simpa using h322))] at hstep
                obtain ⟨hg3, hput⟩ := put N2 ⟨name, [], false⟩ (i + 1 + n) t2 lN2 r2 (by omega) (by omega) hstep.symm
                have hg3 : N2.getN G ⟨.mem N.bl.length 0, 0⟩ 3 = some [.str name, .str [], .bool false] := hg3
                simp +contextual only [vq, vc, ve, vv, vn, vl, ↓reduceIte, Nat.reduceEqDiff, Nat.reduceAdd, Nat.reduceMul, Nat.reduceSub, Nat.reduceLeDiff, Nat.reduceLT, Nat.reduceBEq, Nat.reduceBNe, reduceCtorEq, Int.reduceBEq, Int.reduceBNe, Int.reduceLT, Int.reduceLE, Int.reduceEq, Int.reduceToNat, Int.reduceAdd, Int.reduceSub, Int.reduceNeg, w1, A0, A1, A7, wn, hl2, get_byte hl2, u61, u322, hg3]
                refine new_mk fun K1 k1 => ?_
                obtain ⟨rK1, v', K2, hap, hfin⟩ := hput K1 k1
                have rK1 : RowIs K1 N2.bl.length [.str name, .str [], .bool false] := rK1
                have hap : appendE G K1 3 40 0 v [.str name, .str [], .bool false] 1 = some (v', K2) := hap
                simp +contextual only [vq, vc, ve, vv, vn, vl, ↓reduceIte, Nat.reduceEqDiff, Nat.reduceAdd, Nat.reduceMul, Nat.reduceSub, Nat.reduceLeDiff, Nat.reduceLT, Nat.reduceBEq, Nat.reduceBNe, reduceCtorEq, Int.reduceBEq, Int.reduceBNe, Int.reduceLT, Int.reduceLE, Int.reduceEq, Int.reduceToNat, Int.reduceAdd, Int.reduceSub, Int.reduceNeg, rK1.getN (G := G), A6, hap]
                exact hfin _ (by simp +contextual only [vq, vc, ve, vv, vn, vl, ↓reduceIte, Nat.reduceEqDiff, Nat.reduceAdd, Nat.reduceMul, Nat.reduceSub, Nat.reduceLeDiff, Nat.reduceLT, Nat.reduceBEq, Nat.reduceBNe, reduceCtorEq, Int.reduceBEq, Int.reduceBNe, Int.reduceLT, Int.reduceLE, Int.reduceEq, Int.reduceToNat, Int.reduceAdd, Int.reduceSub, Int.reduceNeg, A0]) (by simp +contextual only [vq, vc, ve, vv, vn, vl, ↓reduceIte, Nat.reduceEqDiff, Nat.reduceAdd, Nat.reduceMul, Nat.reduceSub, Nat.reduceLeDiff, Nat.reduceLT, Nat.reduceBEq, Nat.reduceBNe, reduceCtorEq, Int.reduceBEq, Int.reduceBNe, Int.reduceLT, Int.reduceLE, Int.reduceEq, Int.reduceToNat, Int.reduceAdd, Int.reduceSub, Int.reduceNeg, A1]) (by simp +contextual only [vq, vc, ve, vv, vn, vl, ↓reduceIte, Nat.reduceEqDiff, Nat.reduceAdd, Nat.reduceMul, Nat.reduceSub, Nat.reduceLeDiff, Nat.reduceLT, Nat.reduceBEq, Nat.reduceBNe, reduceCtorEq, Int.reduceBEq, Int.reduceBNe, Int.reduceLT, Int.reduceLE, Int.reduceEq, Int.reduceToNat, Int.reduceAdd, Int.reduceSub, Int.reduceNeg, A5]) (by simp +contextual only [vq, vc, ve, vv, vn, vl, ↓reduceIte, Nat.reduceEqDiff, Nat.reduceAdd, Nat.reduceMul, Nat.reduceSub, Nat.reduceLeDiff, Nat.reduceLT, Nat.reduceBEq, Nat.reduceBNe, reduceCtorEq, Int.reduceBEq, Int.reduceBNe, Int.reduceLT, Int.reduceLE, Int.reduceEq, Int.reduceToNat, Int.reduceAdd, Int.reduceSub, Int.reduceNeg]) (by simp +contextual only [vq, vc, ve, vv, vn, vl, ↓reduceIte, Nat.reduceEqDiff, Nat.reduceAdd, Nat.reduceMul, Nat.reduceSub, Nat.reduceLeDiff, Nat.reduceLT, Nat.reduceBEq, Nat.reduceBNe, reduceCtorEq, Int.reduceBEq, Int.reduceBNe, Int.reduceLT, Int.reduceLE, Int.reduceEq, Int.reduceToNat, Int.reduceAdd, Int.reduceSub, Int.reduceNeg]) _
            · rw [if_neg (fun h => hl2 h.1)] at hstep
              obtain ⟨hg3, hput⟩ := put N2 ⟨name, [], false⟩ (i + 1 + n) t2 lN2 r2 (by omega) (by omega) hstep.symm
              have hg3 : N2.getN G ⟨.mem N.bl.length 0, 0⟩ 3 = some [.str name, .str [], .bool false] := hg3
              simp +contextual only [vq, vc, ve, vv, vn, vl, ↓reduceIte, Nat.reduceEqDiff, Nat.reduceAdd, Nat.reduceMul, Nat.reduceSub, Nat.reduceLeDiff, Nat.reduceLT, Nat.reduceBEq, Nat.reduceBNe, reduceCtorEq, Int.reduceBEq, Int.reduceBNe, Int.reduceLT, Int.reduceLE, Int.reduceEq, Int.reduceToNat, Int.reduceAdd, Int.reduceSub, Int.reduceNeg, w1, A0, A1, A7, wn, hl2, hg3]
              refine new_mk fun K1 k1 => ?_
              obtain ⟨rK1, v', K2, hap, hfin⟩ := hput K1 k1
              have rK1 : RowIs K1 N2.bl.length [.str name, .str [], .bool false] := rK1
              have hap : appendE G K1 3 40 0 v [.str name, .str [], .bool false] 1 = some (v', K2) := hap
              simp +contextual only [vq, vc, ve, vv, vn, vl, ↓reduceIte, Nat.reduceEqDiff, Nat.reduceAdd, Nat.reduceMul, Nat.reduceSub, Nat.reduceLeDiff, Nat.reduceLT, Nat.reduceBEq, Nat.reduceBNe, reduceCtorEq, Int.reduceBEq, Int.reduceBNe, Int.reduceLT, Int.reduceLE, Int.reduceEq, Int.reduceToNat, Int.reduceAdd, Int.reduceSub, Int.reduceNeg, rK1.getN (G := G), A6, hap]
              exact hfin _ (by simp +contextual only [vq, vc, ve, vv, vn, vl, ↓reduceIte, Nat.reduceEqDiff, Nat.reduceAdd, Nat.reduceMul, Nat.reduceSub, Nat.reduceLeDiff, Nat.reduceLT, Nat.reduceBEq, Nat.reduceBNe, reduceCtorEq, Int.reduceBEq, Int.reduceBNe, Int.reduceLT, Int.reduceLE, Int.reduceEq, Int.reduceToNat, Int.reduceAdd, Int.reduceSub, Int.reduceNeg, A0]) (by simp +contextual only [vq, vc, ve, vv, vn, vl, ↓reduceIte, Nat.reduceEqDiff, Nat.reduceAdd, Nat.reduceMul, Nat.reduceSub, Nat.reduceLeDiff, Nat.reduceLT, Nat.reduceBEq, Nat.reduceBNe, reduceCtorEq, Int.reduceBEq, Int.reduceBNe, Int.reduceLT, Int.reduceLE, Int.reduceEq, Int.reduceToNat, Int.reduceAdd, Int.reduceSub, Int.reduceNeg, A1]) (by simp +contextual only [vq, vc, ve, vv, vn, vl, ↓reduceIte, Nat.reduceEqDiff, Nat.reduceAdd, Nat.reduceMul, Nat.reduceSub, Nat.reduceLeDiff, Nat.reduceLT, Nat.reduceBEq, Nat.reduceBNe, reduceCtorEq, Int.reduceBEq, Int.reduceBNe, Int.reduceLT, Int.reduceLE, Int.reduceEq, Int.reduceToNat, Int.reduceAdd, Int.reduceSub, Int.reduceNeg, A5]) (by simp +contextual only [vq, vc, ve, vv, vn, vl, ↓reduceIte, Nat.reduceEqDiff, Nat.reduceAdd, Nat.reduceMul, Nat.reduceSub, Nat.reduceLeDiff, Nat.reduceLT, Nat.reduceBEq, Nat.reduceBNe, reduceCtorEq, Int.reduceBEq, Int.reduceBNe, Int.reduceLT, Int.reduceLE, Int.reduceEq, Int.reduceToNat, Int.reduceAdd, Int.reduceSub, Int.reduceNeg]) (by simp +contextual only [vq, vc, ve, vv, vn, vl, ↓reduceIte, Nat.reduceEqDiff, Nat.reduceAdd, Nat.reduceMul, Nat.reduceSub, Nat.reduceLeDiff, Nat.reduceLT, Nat.reduceBEq, Nat.reduceBNe, reduceCtorEq, Int.reduceBEq, Int.reduceBNe, Int.reduceLT, Int.reduceLE, Int.reduceEq, Int.reduceToNat, Int.reduceAdd, Int.reduceSub, Int.reduceNeg]) _
  · have hpe : parseS w s (s.length + 1) 0 [] = (acc, 0, 0) := by rw [← hp, parseS, if_neg hlt]
    obtain ⟨K', w1, w2, w3, w4⟩ := putN_row (off := 0) (vs := [.int .i64 0, .int .i64 0]) (R1.grown hgN) (by simp)
    have w2 : RowIs K' M.bl.length [.int .i64 0, .int .i64 0] := w2
    have lw : m.bl.length ≤ K'.low := by omega
    have gK : Grown m K' := grown_of (by have := w3.1; omega) fun j hj => by rw [w3.2 j (by omega), ((hg.trans g1).trans hgN).at hj]
    have hvK := hv.keep (M := K') fun j hj => w3.2 j (by have := hk j hj; omega)
    simp +contextual only [vq, vc, ve, vv, vn, vl, ↓reduceIte, Nat.reduceEqDiff, Nat.reduceAdd, Nat.reduceMul, Nat.reduceSub, Nat.reduceLeDiff, Nat.reduceLT, Nat.reduceBEq, Nat.reduceBNe, reduceCtorEq, Int.reduceBEq, Int.reduceBNe, Int.reduceLT, Int.reduceLE, Int.reduceEq, Int.reduceToNat, Int.reduceAdd, Int.reduceSub, Int.reduceNeg, A0, A5, A6, A7, hlt, w1]
    rcases hv.row with ⟨rfl, hr0, ha0⟩ | ⟨j, g, hj, rfl, _⟩
    · exact postX_same (v := .tuple [.slice none 0 0 0, .agg [.int .i64 0, .int .i64 0]]) (by simp +contextual only [vq, vc, ve, vv, vn, vl, ↓reduceIte, Nat.reduceEqDiff, Nat.reduceAdd, Nat.reduceMul, Nat.reduceSub, Nat.reduceLeDiff, Nat.reduceLT, Nat.reduceBEq, Nat.reduceBNe, reduceCtorEq, Int.reduceBEq, Int.reduceBNe, Int.reduceLT, Int.reduceLE, Int.reduceEq, Int.reduceToNat, Int.reduceAdd, Int.reduceSub, Int.reduceNeg, w2.getN (G := G), A5]) lw rfl (by
        unfold ParseR
        rw [hpe]
        exact ⟨_, m, none, rfl, Grown.rfl', by omega, by simp only; rw [hr0, ha0]; exact Priv.nil, fun _ h => by cases h⟩)
    · have hjk := hk j hj
      exact postX_new (v := .tuple [.slice (some ⟨.mem j g, 0⟩) acc.length acc.length 3, .agg [.int .i64 0, .int .i64 0]]) (by simp +contextual only [vq, vc, ve, vv, vn, vl, ↓reduceIte, Nat.reduceEqDiff, Nat.reduceAdd, Nat.reduceMul, Nat.reduceSub, Nat.reduceLeDiff, Nat.reduceLT, Nat.reduceBEq, Nat.reduceBNe, reduceCtorEq, Int.reduceBEq, Int.reduceBNe, Int.reduceLT, Int.reduceLE, Int.reduceEq, Int.reduceToNat, Int.reduceAdd, Int.reduceSub, Int.reduceNeg, w2.getN (G := G), A5]) (by simp [noref, norefs]; omega) (by
        unfold ParseR
        rw [hpe]
        exact ⟨_, _, k, rfl, gK, by simp only; omega, hvK.keep fun _ _ => rfl, fun j hj => by have := hk j hj; omega⟩)
end Go.Proofs.YtmjoaiccbghijaaGreatDoor.paramBack

namespace Go.Proofs.YtmjoaiccbghijaaGreatDoor.paramBack
open Go.Ev hiding Comes
variable [GG]

theorem pair_store {m M : Mem} {a b : EV} {x y : EV} (e : M = m.push (.cells [x, y] 0 true)) : ∃ M', M.putN ⟨.mem m.bl.length 0, 0⟩ [a, b] = some M' ∧ RowIs M' m.bl.length [a, b] ∧ Grown m M' ∧ M'.low = min m.low m.bl.length := by
  have R : RowIs M m.bl.length [x, y] := by rw [e]; exact row_push _ _
  have l1 : M.low = m.low := by rw [e]; rfl
  obtain ⟨M', w1, w2, w3, w4⟩ := putN_row (off := 0) (vs := [a, b]) R (by simp)
  have g : Grown m M := by rw [e]; exact Grown.rfl'.push
  have hl := g.le
  exact ⟨M', w1, w2, grown_of (by have := w3.1; omega) fun j hj => by rw [w3.2 j (by omega), g.at hj], by omega⟩
theorem parseS_len (w : Bool) (s : List UInt8) : ∀ (f i : Nat) (acc : List Par), (parseS w s f i acc).1.length ≤ acc.length + f
  | 0, i, acc => by simp [parseS]
  | f + 1, i, acc => by
    rw [parseS]
    split
    · split
      · simp
      split
      · simp
      split
      · simp
      split
      · split
        · simp
        · have := parseS_len w s f (i + 1 + kwd (s.drop (i + 1)) + 1 + til (s.drop (i + 1 + kwd (s.drop (i + 1)) + 1))) (acc ++ [⟨upS ((s.drop (i + 1)).take (kwd (s.drop (i + 1)))), (s.drop (i + 1 + kwd (s.drop (i + 1)) + 1)).take (til (s.drop (i + 1 + kwd (s.drop (i + 1)) + 1))), true⟩])
          simp at this ⊢
          omega
      split
      · simp
      · have := parseS_len w s f (i + 1 + kwd (s.drop (i + 1))) (acc ++ [⟨upS ((s.drop (i + 1)).take (kwd (s.drop (i + 1)))), [], false⟩])
        simp at this ⊢
        omega
    · simp
theorem priv_pars {k : Option Nat} {m : Mem} {v : EV} {l : List Par} (h : Priv k 3 0 m v ((l.map parE).flatten) l.length) : Pars G m v l := h.rows (by simp) par_len
end Go.Proofs.YtmjoaiccbghijaaGreatDoor.paramBack

namespace Go.Proofs.YtmjoaiccbghijaaGreatDoor.paramBack
open Go.Ev hiding Comes
variable [GG]

/-- What is wrong with a parameter that is to be written: 0: nothing. -/
def parBad (p : Par) : Int := if kwd p.name = 0 ∨ kwd p.name ≠ p.name.length ∨ upS p.name ≠ p.name then 100 else if (p.has && decide (0 ≤ badV true p.value)) || (!p.has && !(p.value == [])) then 101 else 0
def parW (p : Par) : List UInt8 := 32 :: p.name ++ (if p.has = true then 61 :: p.value else [])
/-- Parameters written: the text, and what is wrong. -/
def prs : List Par → List UInt8 × Int
  | [] => ([], 0)
  | p :: l => if parBad p = 0 then (match prs l with
    | (t, 0) => (parW p ++ t, 0)
    | (_, e) => ([], e)) else ([], parBad p)
def printP (l : List Par) : List UInt8 × Int := if 16 < l.length then ([], 4) else prs l
def wrote (l : List Par) : List UInt8 := l.flatMap parW
theorem prs_ok : ∀ {l : List Par}, (∀ p ∈ l, parBad p = 0) → prs l = (wrote l, 0)
  | [], _ => rfl
  | p :: l, h => by
    rw [prs, if_pos (h p (List.mem_cons_self ..)), prs_ok (fun q hq => h q (List.mem_cons_of_mem _ hq))]
    rfl
theorem prs_bad : ∀ {l : List Par} {i : Nat} (hi : i < l.length), (∀ p ∈ l.take i, parBad p = 0) → parBad l[i] ≠ 0 → prs l = ([], parBad l[i])
  | [], _, hi, _, _ => by simp at hi
  | p :: l, 0, _, _, hb => by
    have hb : parBad p ≠ 0 := hb
    show prs (p :: l) = ([], parBad p)
    rw [prs, if_neg hb]
  | p :: l, i + 1, hi, h, hb => by
    rw [prs, if_pos (h p (by simp)), prs_bad (l := l) (i := i) (by simpa using hi) (fun q hq => h q (by simp [hq])) hb]
    split
    · rename_i h0
      simp only [Prod.mk.injEq] at h0
      exact absurd h0.2 hb
    · rename_i t e h0 h1
      simp only [Prod.mk.injEq] at h1
      rw [← h1.2]
      rfl
theorem wrote_next {l : List Par} {i : Nat} (hi : i < l.length) : wrote (l.take (i + 1)) = wrote (l.take i) ++ parW l[i] := by
  rw [List.take_succ_eq_append_getElem hi, wrote, List.flatMap_append]
  simp [wrote]

def ParsOk (l : List Par) : Prop := ∀ p ∈ l, p.name.length ≤ 1000000000 ∧ p.value.length ≤ 1000000000
theorem parW_len {p : Par} (h : p.name.length ≤ 1000000000 ∧ p.value.length ≤ 1000000000) : (parW p).length ≤ 2000000002 := by
  unfold parW
  split <;> simp <;> omega
theorem wrote_len : ∀ {l : List Par}, ParsOk l → (wrote l).length ≤ l.length * 2000000002
  | [], _ => by simp [wrote]
  | p :: l, h => by
    have h1 := parW_len (h p (List.mem_cons_self ..))
    have h2 := wrote_len (l := l) (fun q hq => h q (List.mem_cons_of_mem _ hq))
    simp only [wrote, List.flatMap_cons, List.length_append, List.length_cons] at h2 ⊢
    omega
theorem bad_kw (p : Par) : ((kwd p.name == 0) || (kwd p.name != p.name.length) || !(upS p.name == p.name)) = decide (kwd p.name = 0 ∨ kwd p.name ≠ p.name.length ∨ upS p.name ≠ p.name) := by
  rw [Bool.eq_iff_iff]
  simp [or_assoc]

end Go.Proofs.YtmjoaiccbghijaaGreatDoor.paramBack

namespace Go.Proofs.YtmjoaiccbghijaaGreatDoor.paramBack
open Go.Ev hiding Comes

theorem tw_app {p : UInt8 → Bool} {a b : List UInt8} (ha : ∀ x ∈ a, p x = true) (hb : b = [] ∨ ∃ c r, b = c :: r ∧ p c = false) : ((a ++ b).takeWhile p).length = a.length := by
  induction a with
  | nil =>
    rcases hb with rfl | ⟨c, r, rfl, hc⟩
    · rfl
    · simp [hc]
  | cons x a ih =>
    rw [List.cons_append, List.takeWhile_cons_of_pos (ha x (List.mem_cons_self ..)), List.length_cons, ih (fun y hy => ha y (List.mem_cons_of_mem _ hy)), List.length_cons]
theorem tw_all {p : UInt8 → Bool} {a : List UInt8} (h : (a.takeWhile p).length = a.length) : ∀ x ∈ a, p x = true := by
  have e : a.takeWhile p = a := (List.takeWhile_prefix (p := p) (l := a)).eq_of_length h
  intro x hx
  rw [← e] at hx
  exact List.all_eq_true.1 (List.all_takeWhile (p := p) (l := a)) x hx
theorem kwd_name {s : List UInt8} (h : kwd s = s.length) (h0 : s ≠ []) : (∃ b r, s = b :: r ∧ isF 3 b.toNat = true) ∧ ∀ x ∈ s, isF 10 x.toNat = true := by
  cases s with
  | nil => exact absurd rfl h0
  | cons b r =>
    simp only [kwd] at h
    by_cases hb : isF 3 b.toNat = true
    · rw [if_pos hb] at h
      exact ⟨⟨b, r, rfl, hb⟩, tw_all h⟩
    · rw [if_neg hb] at h
      simp at h
theorem not10 : isF 10 (61 : UInt8).toNat = false ∧ isF 10 (32 : UInt8).toNat = false := by decide +kernel
theorem kwd_app {s r : List UInt8} (h : kwd s = s.length) (h0 : s ≠ []) (hr : r = [] ∨ ∃ c t, r = c :: t ∧ (c = 61 ∨ c = 32)) : kwd (s ++ r) = s.length := by
  obtain ⟨⟨b, q, rfl, hb⟩, hall⟩ := kwd_name h h0
  rw [List.cons_append, kwd, if_pos hb, ← List.cons_append]
  refine tw_app hall ?_
  rcases hr with rfl | ⟨c, t, rfl, hc⟩
  · exact .inl rfl
  · refine .inr ⟨c, t, rfl, ?_⟩
    rcases hc with rfl | rfl
    · exact not10.1
    · exact not10.2
theorem parBad_0 {p : Par} (h : parBad p = 0) : kwd p.name = p.name.length ∧ p.name ≠ [] ∧ upS p.name = p.name ∧ (p.has = true → badV true p.value < 0) ∧ (p.has = false → p.value = []) := by
  unfold parBad at h
  split at h
  · cases h
  · rename_i h1
    simp only [not_or, Decidable.not_not, ne_eq] at h1
    obtain ⟨a, b, c⟩ := h1
    split at h
    · cases h
    · rename_i h2
      refine ⟨b, fun e => a (by rw [b, e]; rfl), c, fun hh => ?_, fun hh => ?_⟩
      · rw [hh] at h2
        simp at h2
        exact h2
      · rw [hh] at h2
        simpa using h2
theorem badV_ok {w : Bool} {s : List UInt8} (h : badV w s < 0) : s ≠ [] ∧ (∀ x ∈ s, okB w x = true) ∧ ¬ good s.length s < s.length := by
  unfold badV at h
  split at h
  · omega
  · rename_i h0
    split at h
    · omega
    · rename_i h1
      split at h
      · omega
      · rename_i h2
        have := tw_le (p := okB w) s
        exact ⟨h0, tw_all (by omega), h2⟩
theorem okB_32 : ∀ (w : Bool) (b : UInt8), okB w b = true → (b != 32) = true := by decide +kernel
theorem okB_true : ∀ (w : Bool) (b : UInt8), okB w b = true → okB true b = true := by decide +kernel
theorem okB_13 : ∀ b : UInt8, okB true b = true → (okB false b = isF 13 b.toNat) := by decide +kernel
theorem badV_true {w : Bool} {s : List UInt8} (h : badV w s < 0) : badV true s < 0 := by
  obtain ⟨h0, h1, h2⟩ := badV_ok h
  rw [badV_on h0 fun x hx => okB_true w x (h1 x hx), if_neg h2]
  omega
theorem badV_13 {s : List UInt8} (h : badV true s < 0) : badV false s < 0 ↔ ∀ x ∈ s, isF 13 x.toNat = true := by
  obtain ⟨h0, h1, h2⟩ := badV_ok h
  constructor
  · intro hf x hx
    obtain ⟨_, h3, _⟩ := badV_ok hf
    rw [← okB_13 x (h1 x hx)]
    exact h3 x hx
  · intro hall
    rw [badV_on h0 fun x hx => by rw [okB_13 x (h1 x hx)]; exact hall x hx, if_neg h2]
    omega
theorem drop_more {s : List UInt8} {i : Nat} {a b : List UInt8} (h : s.drop i = a ++ b) : s.drop (i + a.length) = b := by
  rw [← List.drop_drop, h, List.drop_left]
theorem get_drop {s : List UInt8} {i : Nat} {b : UInt8} {r : List UInt8} (h : s.drop i = b :: r) : ∃ hi : i < s.length, s[i] = b := by
  have hi : i < s.length := by
    by_cases hi : i < s.length
    · exact hi
    · rw [List.drop_eq_nil_of_le (by omega)] at h
      cases h
  refine ⟨hi, ?_⟩
  rw [List.drop_eq_getElem_cons hi] at h
  exact (List.cons.inj h).1
theorem get_none {s : List UInt8} {i : Nat} (h : s.drop i = []) : s[i]? = none := by
  have := List.drop_eq_nil_iff.1 h
  exact List.getElem?_eq_none this
/-- One parameter that is written is read. -/
theorem parse_step {w : Bool} {s R : List UInt8} {f i : Nat} {acc : List Par} {p : Par} (hD : s.drop i = parW p ++ R) (hR : R = [] ∨ ∃ r, R = 32 :: r) (hp : parBad p = 0) (h16 : acc.length < 16) :
    parseS w s (f + 1) i acc = if p.has = true ∧ 0 ≤ badV w p.value then ([], 101, ((i + 1 + p.name.length + 1 : Nat) : Int) + badV w p.value) else parseS w s f (i + (parW p).length) (acc ++ [p]) := by
  obtain ⟨k1, k2, k3, k4, k5⟩ := parBad_0 hp
  have hD1 : s.drop i = 32 :: (p.name ++ ((if p.has = true then 61 :: p.value else []) ++ R)) := by rw [hD]; simp [parW]
  obtain ⟨hi, h32⟩ := get_drop hD1
  have hd1 : s.drop (i + 1) = p.name ++ ((if p.has = true then 61 :: p.value else []) ++ R) := drop_more (a := [32]) (by rw [hD1]; rfl)
  have hd2 : s.drop (i + 1 + p.name.length) = (if p.has = true then 61 :: p.value else []) ++ R := drop_more hd1
  have hk : kwd (s.drop (i + 1)) = p.name.length := by
    rw [hd1]
    refine kwd_app k1 k2 ?_
    cases hh : p.has with
    | true => exact .inr ⟨61, p.value ++ R, by simp, .inl rfl⟩
    | false =>
      simp only [Bool.false_eq_true, if_false, List.nil_append]
      rcases hR with h | ⟨r, h⟩
      · exact .inl h
      · exact .inr ⟨32, r, h, .inr rfl⟩
  have hn0 : p.name.length ≠ 0 := fun e => k2 (List.length_eq_zero_iff.1 e)
  have hname : upS ((s.drop (i + 1)).take p.name.length) = p.name := by rw [hd1, List.take_left, k3]
  rw [parseS_at hi h32 (by omega) hk hn0, hname]
  cases hh : p.has with
  | true =>
    rw [hh] at hd2
    simp only [if_true] at hd2
    obtain ⟨hi2, h61⟩ := get_drop hd2
    rw [if_pos (by rw [List.getElem?_eq_getElem hi2, h61])]
    have hd3 : s.drop (i + 1 + p.name.length + 1) = p.value ++ R := drop_more (a := [61]) (by rw [hd2]; rfl)
    have hv := k4 hh
    obtain ⟨v0, v1, v2⟩ := badV_ok hv
    have htil : til (s.drop (i + 1 + p.name.length + 1)) = p.value.length := by
      rw [hd3]
      refine tw_app (fun x hx => okB_32 true x (v1 x hx)) ?_
      rcases hR with h | ⟨r, h⟩
      · exact .inl h
      · exact .inr ⟨32, r, h, rfl⟩
    rw [htil, hd3, List.take_left]
    simp only [true_and]
    have e1 : (⟨p.name, p.value, true⟩ : Par) = p := by cases p; simp_all
    have e2 : i + 1 + p.name.length + 1 + p.value.length = i + (parW p).length := by simp [parW, hh]; omega
    rw [e1, e2]
  | false =>
    rw [hh] at hd2
    simp only [Bool.false_eq_true, if_false, List.nil_append] at hd2
    have hvn := k5 hh
    have hnot : s[i + 1 + p.name.length]? ≠ some 61 := by
      rcases hR with h | ⟨r, h⟩
      · rw [h] at hd2
        rw [get_none hd2]
        simp
      · rw [h] at hd2
        obtain ⟨hi2, h3⟩ := get_drop hd2
        rw [List.getElem?_eq_getElem hi2, h3]
        simp
    rw [if_neg hnot, if_neg, if_neg (by simp)]
    · have e1 : (⟨p.name, [], false⟩ : Par) = p := by cases p; simp_all
      have e2 : i + 1 + p.name.length = i + (parW p).length := by simp [parW, hh]; omega
      rw [e1, e2]
    · rintro ⟨q1, q2⟩
      rcases hR with h | ⟨r, h⟩
      · rw [h] at hd2
        have := List.drop_eq_nil_iff.1 hd2
        omega
      · rw [h] at hd2
        obtain ⟨hi2, h3⟩ := get_drop hd2
        rw [List.getElem?_eq_getElem hi2, h3] at q2
        exact q2 rfl
theorem wrote_head : ∀ (l : List Par), wrote l = [] ∨ ∃ r, wrote l = 32 :: r
  | [] => .inl rfl
  | p :: l => .inr ⟨p.name ++ (if p.has = true then 61 :: p.value else []) ++ wrote l, by simp [wrote, parW]⟩
theorem wrote_cons (p : Par) (l : List Par) : wrote (p :: l) = parW p ++ wrote l := by simp [wrote]
theorem parse_wrote {w : Bool} {s : List UInt8} : ∀ (l : List Par) (f i : Nat) (acc : List Par), s.drop i = wrote l → (∀ p ∈ l, parBad p = 0) → acc.length + l.length ≤ 16 → s.length - i < f → (∀ p ∈ l, p.has = true → badV w p.value < 0) → parseS w s f i acc = (acc ++ l, 0, 0)
  | [], f, i, acc, hd, _, _, hf, _ => by
    obtain ⟨f, rfl⟩ : ∃ g, f = g + 1 := ⟨f - 1, by omega⟩
    have := List.drop_eq_nil_iff.1 (show s.drop i = [] from hd)
    rw [parseS, if_neg (by omega), List.append_nil]
  | p :: l, f, i, acc, hd, hb, h16, hf, hw => by
    obtain ⟨f, rfl⟩ : ∃ g, f = g + 1 := ⟨f - 1, by omega⟩
    rw [wrote_cons] at hd
    have hp := hb p (List.mem_cons_self ..)
    rw [parse_step hd (wrote_head l) hp (by simp at h16; omega), if_neg]
    · have hpl : 0 < (parW p).length := by simp [parW]
      have hlen : i + (parW p).length ≤ s.length := by
        have := congrArg List.length hd
        simp at this
        omega
      rw [parse_wrote l f _ (acc ++ [p]) (drop_more hd) (fun q hq => hb q (List.mem_cons_of_mem _ hq)) (by simp at h16 ⊢; omega) (by omega) (fun q hq => hw q (List.mem_cons_of_mem _ hq)), List.append_assoc]
      rfl
    · rintro ⟨q1, q2⟩
      have := hw p (List.mem_cons_self ..) q1
      omega
theorem parse_wrote_bad {w : Bool} {s : List UInt8} : ∀ (l : List Par) (f i : Nat) (acc : List Par), s.drop i = wrote l → (∀ p ∈ l, parBad p = 0) → acc.length + l.length ≤ 16 → s.length - i < f → (∃ p ∈ l, p.has = true ∧ 0 ≤ badV w p.value) → (parseS w s f i acc).2.1 = 101
  | [], f, i, acc, hd, _, _, hf, h => by simp at h
  | p :: l, f, i, acc, hd, hb, h16, hf, hw => by
    obtain ⟨f, rfl⟩ : ∃ g, f = g + 1 := ⟨f - 1, by omega⟩
    rw [wrote_cons] at hd
    have hp := hb p (List.mem_cons_self ..)
    rw [parse_step hd (wrote_head l) hp (by simp at h16; omega)]
    by_cases hq : p.has = true ∧ 0 ≤ badV w p.value
    · rw [if_pos hq]
    · rw [if_neg hq]
      have hpl : 0 < (parW p).length := by simp [parW]
      have hlen : i + (parW p).length ≤ s.length := by
        have := congrArg List.length hd
        simp at this
        omega
      refine parse_wrote_bad l f _ (acc ++ [p]) (drop_more hd) (fun q hq => hb q (List.mem_cons_of_mem _ hq)) (by simp at h16 ⊢; omega) (by omega) ?_
      obtain ⟨q, h1, h2⟩ := hw
      rcases List.mem_cons.1 h1 with rfl | h1
      · exact absurd h2 hq
      · exact ⟨q, h1, h2⟩
theorem is10_13 : ∀ b : UInt8, isF 10 b.toNat = true → isF 13 b.toNat = true := by decide +kernel
theorem is_13 : isF 13 (32 : UInt8).toNat = true ∧ isF 13 (61 : UInt8).toNat = true := by decide +kernel
/-- Narrow bytes alone are written, where every value is narrow. -/
theorem wrote_13 {l : List Par} (hb : ∀ p ∈ l, parBad p = 0) : (∀ x ∈ wrote l, isF 13 x.toNat = true) ↔ ∀ p ∈ l, p.has = true → badV false p.value < 0 := by
  unfold wrote
  constructor
  · intro h p hp hh
    obtain ⟨_, _, _, k4, _⟩ := parBad_0 (hb p hp)
    refine (badV_13 (k4 hh)).2 fun x hx => h x ?_
    rw [List.mem_flatMap]
    exact ⟨p, hp, by simp [parW, hh, hx]⟩
  · intro h x hx
    rw [List.mem_flatMap] at hx
    obtain ⟨p, hp, hx⟩ := hx
    obtain ⟨k1, k2, _, k4, _⟩ := parBad_0 (hb p hp)
    unfold parW at hx
    cases hh : p.has with
    | true =>
      rw [hh] at hx
      simp only [if_true, List.cons_append, List.mem_cons, List.mem_append] at hx
      rcases hx with rfl | hx | rfl | hx
      · exact is_13.1
      · exact is10_13 x ((kwd_name k1 k2).2 x hx)
      · exact is_13.2
      · exact (badV_13 (k4 hh)).1 (h p hp hh) x hx
    | false =>
      rw [hh] at hx
      simp only [Bool.false_eq_true, if_false, List.append_nil, List.cons_append, List.mem_cons] at hx
      rcases hx with rfl | hx
      · exact is_13.1
      · exact is10_13 x ((kwd_name k1 k2).2 x hx)
/-- What is wrong is told at once. -/
theorem prs_err : ∀ {l : List Par}, (prs l).2 ≠ 0 → (prs l).1 = []
  | [], h => absurd rfl h
  | p :: l, h => by
    rw [prs] at h ⊢
    split
    · rename_i hp
      rw [if_pos hp] at h
      split
      · rename_i t ht
        rw [ht] at h
        exact absurd rfl h
      · rfl
    · rfl
theorem prs_0 : ∀ {l : List Par}, (prs l).2 = 0 → ∀ p ∈ l, parBad p = 0
  | [], _, p, hp => by simp at hp
  | q :: l, h, p, hp => by
    rw [prs] at h
    by_cases hq : parBad q = 0
    · rw [if_pos hq] at h
      rcases List.mem_cons.1 hp with rfl | hp
      · exact hq
      · refine prs_0 (l := l) ?_ p hp
        split at h
        · rename_i t ht
          rw [ht]
        · rename_i t e ht ht2
          rw [ht2]
          exact h
    · rw [if_neg hq] at h
      exact absurd h hq
theorem print_0 {l : List Par} (h : (printP l).2 = 0) : (∀ p ∈ l, parBad p = 0) ∧ l.length ≤ 16 ∧ (printP l).1 = wrote l := by
  unfold printP at h ⊢
  split at h
  · cases h
  · rename_i h16
    have hb := prs_0 h
    rw [if_neg h16, prs_ok hb]
    exact ⟨hb, by omega, rfl⟩
theorem print_err {l : List Par} (h : (printP l).2 ≠ 0) : (printP l).1 = [] := by
  unfold printP at h ⊢
  split
  · rfl
  · rename_i h16
    rw [if_neg h16] at h
    exact prs_err h
end Go.Proofs.YtmjoaiccbghijaaGreatDoor.paramBack

namespace Go.Proofs.YtmjoaiccbghijaaGreatDoor.paramBack
open Go.Ev hiding Comes
variable [GG]

def smallsL : List UInt8 := [97, 98, 99, 100, 101, 102, 103, 104, 105, 106, 107, 108, 109, 110, 111, 112, 113, 114, 115, 116, 117, 118, 119, 120, 121, 122]
def capsL : List UInt8 := [65, 66, 67, 68, 69, 70, 71, 72, 73, 74, 75, 76, 77, 78, 79, 80, 81, 82, 83, 84, 85, 86, 87, 88, 89, 90]
/-- A byte as a capital, if it is one of the first j small letters. -/
def upJ (j : Nat) (b : UInt8) : UInt8 := if 97 ≤ b.toNat ∧ b.toNat < 97 + j then b - 32 else b
theorem upJ_26 (b : UInt8) : upJ 26 b = up b := by
  have h : ∀ b, upJ 26 b = up b := by decide +kernel
  exact h b
theorem smalls_at (j : Fin 26) : smallsL[j.val]? = some (UInt8.ofNat (97 + j.val)) ∧ capsL[j.val]? = some (UInt8.ofNat (65 + j.val)) ∧ ∀ b : UInt8, upJ (j.val + 1) b = if UInt8.ofNat (97 + j.val) == b then UInt8.ofNat (65 + j.val) else upJ j.val b := by
  revert j
  decide +kernel

theorem c_r01_Upper (m : Mem) (s : List UInt8) (hN : s.length ≤ 1000000000) : Go.Ev.Comes T G f_r01_Upper [.str s] m none ⟨.val (.str (upS s)), m, none⟩ := by
  refine comes2 T_r01_Upper rfl fun M hg hlen hlow => ?_
  simp only [F_r01_Upper]
  simp +contextual only [vq, vc, ve, vv, vn, vl, ↓reduceIte, Nat.reduceEqDiff, Nat.reduceAdd, Nat.reduceMul, Nat.reduceSub, Nat.reduceLeDiff, Nat.reduceLT, Nat.reduceBEq, Nat.reduceBNe, reduceCtorEq, Int.reduceBEq, Int.reduceBNe, Int.reduceLT, Int.reduceLE, Int.reduceEq, Int.reduceToNat, Int.reduceAdd, Int.reduceSub, Int.reduceNeg]
  refine loop2 (fun n st => ∃ i A N v, st = ⟨A, N, [], none⟩ ∧ m.bl.length ≤ N.low ∧ m.bl.length ≤ N.bl.length ∧ n = s.length - i ∧ i ≤ s.length ∧ A 0 = .str s ∧ A 3 = v ∧ A 4 = .int .i64 i ∧ Own m.bl.length 1 tagB N v (bytesE (upS (s.take i))) i) s.length ⟨0, _, _, _, rfl, by omega, by omega, by omega, by omega, by simp +contextual only [vq, vc, ve, vv, vn, vl, ↓reduceIte, Nat.reduceEqDiff, Nat.reduceAdd, Nat.reduceMul, Nat.reduceSub, Nat.reduceLeDiff, Nat.reduceLT, Nat.reduceBEq, Nat.reduceBNe, reduceCtorEq, Int.reduceBEq, Int.reduceBNe, Int.reduceLT, Int.reduceLE, Int.reduceEq, Int.reduceToNat, Int.reduceAdd, Int.reduceSub, Int.reduceNeg], by simp +contextual only [vq, vc, ve, vv, vn, vl, ↓reduceIte, Nat.reduceEqDiff, Nat.reduceAdd, Nat.reduceMul, Nat.reduceSub, Nat.reduceLeDiff, Nat.reduceLT, Nat.reduceBEq, Nat.reduceBNe, reduceCtorEq, Int.reduceBEq, Int.reduceBNe, Int.reduceLT, Int.reduceLE, Int.reduceEq, Int.reduceToNat, Int.reduceAdd, Int.reduceSub, Int.reduceNeg], by simp +contextual only [vq, vc, ve, vv, vn, vl, ↓reduceIte, Nat.reduceEqDiff, Nat.reduceAdd, Nat.reduceMul, Nat.reduceSub, Nat.reduceLeDiff, Nat.reduceLT, Nat.reduceBEq, Nat.reduceBNe, reduceCtorEq, Int.reduceBEq, Int.reduceBNe, Int.reduceLT, Int.reduceLE, Int.reduceEq, Int.reduceToNat, Int.reduceAdd, Int.reduceSub, Int.reduceNeg]; rfl, Own.nil⟩ fun J hJ n st hI => ?_
  obtain ⟨i, A, N, v, rfl, lN, bN, rfl, hi, A0, A3, A4, ON⟩ := hI
  simp +contextual only [vq, vc, ve, vv, vn, vl, ↓reduceIte, Nat.reduceEqDiff, Nat.reduceAdd, Nat.reduceMul, Nat.reduceSub, Nat.reduceLeDiff, Nat.reduceLT, Nat.reduceBEq, Nat.reduceBNe, reduceCtorEq, Int.reduceBEq, Int.reduceBNe, Int.reduceLT, Int.reduceLE, Int.reduceEq, Int.reduceToNat, Int.reduceAdd, Int.reduceSub, Int.reduceNeg, A0, A4]
  refine br2_dec (fun hlt => ?_) (fun hge => ?_)
  · simp +contextual only [vq, vc, ve, vv, vn, vl, ↓reduceIte, Nat.reduceEqDiff, Nat.reduceAdd, Nat.reduceMul, Nat.reduceSub, Nat.reduceLeDiff, Nat.reduceLT, Nat.reduceBEq, Nat.reduceBNe, reduceCtorEq, Int.reduceBEq, Int.reduceBNe, Int.reduceLT, Int.reduceLE, Int.reduceEq, Int.reduceToNat, Int.reduceAdd, Int.reduceSub, Int.reduceNeg, A0, A4, get_byte hlt]
    refine loop2 (fun n st => ∃ k A, st = ⟨A, N, [], none⟩ ∧ n = 26 - k ∧ k ≤ 26 ∧ A 0 = .str s ∧ A 3 = v ∧ A 4 = .int .i64 i ∧ A 5 = .int .u8 (upJ k s[i]).toNat ∧ A 6 = .int .i64 k) 26 ⟨0, _, rfl, by omega, by omega, by simp +contextual only [vq, vc, ve, vv, vn, vl, ↓reduceIte, Nat.reduceEqDiff, Nat.reduceAdd, Nat.reduceMul, Nat.reduceSub, Nat.reduceLeDiff, Nat.reduceLT, Nat.reduceBEq, Nat.reduceBNe, reduceCtorEq, Int.reduceBEq, Int.reduceBNe, Int.reduceLT, Int.reduceLE, Int.reduceEq, Int.reduceToNat, Int.reduceAdd, Int.reduceSub, Int.reduceNeg, A0], by simp +contextual only [vq, vc, ve, vv, vn, vl, ↓reduceIte, Nat.reduceEqDiff, Nat.reduceAdd, Nat.reduceMul, Nat.reduceSub, Nat.reduceLeDiff, Nat.reduceLT, Nat.reduceBEq, Nat.reduceBNe, reduceCtorEq, Int.reduceBEq, Int.reduceBNe, Int.reduceLT, Int.reduceLE, Int.reduceEq, Int.reduceToNat, Int.reduceAdd, Int.reduceSub, Int.reduceNeg, A3], by simp +contextual only [vq, vc, ve, vv, vn, vl, ↓reduceIte, Nat.reduceEqDiff, Nat.reduceAdd, Nat.reduceMul, Nat.reduceSub, Nat.reduceLeDiff, Nat.reduceLT, Nat.reduceBEq, Nat.reduceBNe, reduceCtorEq, Int.reduceBEq, Int.reduceBNe, Int.reduceLT, Int.reduceLE, Int.reduceEq, Int.reduceToNat, Int.reduceAdd, Int.reduceSub, Int.reduceNeg, A4], ?_, by simp +contextual only [vq, vc, ve, vv, vn, vl, ↓reduceIte, Nat.reduceEqDiff, Nat.reduceAdd, Nat.reduceMul, Nat.reduceSub, Nat.reduceLeDiff, Nat.reduceLT, Nat.reduceBEq, Nat.reduceBNe, reduceCtorEq, Int.reduceBEq, Int.reduceBNe, Int.reduceLT, Int.reduceLE, Int.reduceEq, Int.reduceToNat, Int.reduceAdd, Int.reduceSub, Int.reduceNeg]; rfl⟩ fun J2 hJ2 n2 st2 hI2 => ?_
    · simp +contextual only [vq, vc, ve, vv, vn, vl, ↓reduceIte, Nat.reduceEqDiff, Nat.reduceAdd, Nat.reduceMul, Nat.reduceSub, Nat.reduceLeDiff, Nat.reduceLT, Nat.reduceBEq, Nat.reduceBNe, reduceCtorEq, Int.reduceBEq, Int.reduceBNe, Int.reduceLT, Int.reduceLE, Int.reduceEq, Int.reduceToNat, Int.reduceAdd, Int.reduceSub, Int.reduceNeg, show upJ 0 s[i] = s[i] from if_neg (by omega)]
    obtain ⟨k, A, rfl, rfl, hk, A0, A3, A4, A5, A6⟩ := hI2
    have e26 : ((k : Int) < 26) = (k < 26) := propext ⟨fun h => by omega, fun h => by omega⟩
    simp +contextual only [vq, vc, ve, vv, vn, vl, ↓reduceIte, Nat.reduceEqDiff, Nat.reduceAdd, Nat.reduceMul, Nat.reduceSub, Nat.reduceLeDiff, Nat.reduceLT, Nat.reduceBEq, Nat.reduceBNe, reduceCtorEq, Int.reduceBEq, Int.reduceBNe, Int.reduceLT, Int.reduceLE, Int.reduceEq, Int.reduceToNat, Int.reduceAdd, Int.reduceSub, Int.reduceNeg, A6, e26]
    refine br2_dec (fun hk26 => ?_) (fun hk26 => ?_)
    · obtain ⟨h1, h2, h3⟩ := smalls_at ⟨k, hk26⟩
      simp only at h1 h2 h3
      unfold smallsL at h1
      unfold capsL at h2
      simp +contextual only [vq, vc, ve, vv, vn, vl, ↓reduceIte, Nat.reduceEqDiff, Nat.reduceAdd, Nat.reduceMul, Nat.reduceSub, Nat.reduceLeDiff, Nat.reduceLT, Nat.reduceBEq, Nat.reduceBNe, reduceCtorEq, Int.reduceBEq, Int.reduceBNe, Int.reduceLT, Int.reduceLE, Int.reduceEq, Int.reduceToNat, Int.reduceAdd, Int.reduceSub, Int.reduceNeg, A0, A4, A6, get_byte hlt, h1, u8_eqN]
      refine br2_mk (fun hq => ?_) (fun hq => ?_)
      · simp +contextual only [vq, vc, ve, vv, vn, vl, ↓reduceIte, Nat.reduceEqDiff, Nat.reduceAdd, Nat.reduceMul, Nat.reduceSub, Nat.reduceLeDiff, Nat.reduceLT, Nat.reduceBEq, Nat.reduceBNe, reduceCtorEq, Int.reduceBEq, Int.reduceBNe, Int.reduceLT, Int.reduceLE, Int.reduceEq, Int.reduceToNat, Int.reduceAdd, Int.reduceSub, Int.reduceNeg, A6, h2, wsucc hk26 (by omega)]
        exact again2 hJ2 (26 - (k + 1)) (by omega) ⟨k + 1, _, rfl, rfl, by omega, by simp +contextual only [vq, vc, ve, vv, vn, vl, ↓reduceIte, Nat.reduceEqDiff, Nat.reduceAdd, Nat.reduceMul, Nat.reduceSub, Nat.reduceLeDiff, Nat.reduceLT, Nat.reduceBEq, Nat.reduceBNe, reduceCtorEq, Int.reduceBEq, Int.reduceBNe, Int.reduceLT, Int.reduceLE, Int.reduceEq, Int.reduceToNat, Int.reduceAdd, Int.reduceSub, Int.reduceNeg, A0], by simp +contextual only [vq, vc, ve, vv, vn, vl, ↓reduceIte, Nat.reduceEqDiff, Nat.reduceAdd, Nat.reduceMul, Nat.reduceSub, Nat.reduceLeDiff, Nat.reduceLT, Nat.reduceBEq, Nat.reduceBNe, reduceCtorEq, Int.reduceBEq, Int.reduceBNe, Int.reduceLT, Int.reduceLE, Int.reduceEq, Int.reduceToNat, Int.reduceAdd, Int.reduceSub, Int.reduceNeg, A3], by simp +contextual only [vq, vc, ve, vv, vn, vl, ↓reduceIte, Nat.reduceEqDiff, Nat.reduceAdd, Nat.reduceMul, Nat.reduceSub, Nat.reduceLeDiff, Nat.reduceLT, Nat.reduceBEq, Nat.reduceBNe, reduceCtorEq, Int.reduceBEq, Int.reduceBNe, Int.reduceLT, Int.reduceLE, Int.reduceEq, Int.reduceToNat, Int.reduceAdd, Int.reduceSub, Int.reduceNeg, A4], by simp +contextual only [vq, vc, ve, vv, vn, vl, ↓reduceIte, Nat.reduceEqDiff, Nat.reduceAdd, Nat.reduceMul, Nat.reduceSub, Nat.reduceLeDiff, Nat.reduceLT, Nat.reduceBEq, Nat.reduceBNe, reduceCtorEq, Int.reduceBEq, Int.reduceBNe, Int.reduceLT, Int.reduceLE, Int.reduceEq, Int.reduceToNat, Int.reduceAdd, Int.reduceSub, Int.reduceNeg, h3, hq], by simp +contextual only [vq, vc, ve, vv, vn, vl, ↓reduceIte, Nat.reduceEqDiff, Nat.reduceAdd, Nat.reduceMul, Nat.reduceSub, Nat.reduceLeDiff, Nat.reduceLT, Nat.reduceBEq, Nat.reduceBNe, reduceCtorEq, Int.reduceBEq, Int.reduceBNe, Int.reduceLT, Int.reduceLE, Int.reduceEq, Int.reduceToNat, Int.reduceAdd, Int.reduceSub, Int.reduceNeg]⟩
      · simp +contextual only [vq, vc, ve, vv, vn, vl, ↓reduceIte, Nat.reduceEqDiff, Nat.reduceAdd, Nat.reduceMul, Nat.reduceSub, Nat.reduceLeDiff, Nat.reduceLT, Nat.reduceBEq, Nat.reduceBNe, reduceCtorEq, Int.reduceBEq, Int.reduceBNe, Int.reduceLT, Int.reduceLE, Int.reduceEq, Int.reduceToNat, Int.reduceAdd, Int.reduceSub, Int.reduceNeg, A6, wsucc hk26 (by omega)]
        exact again2 hJ2 (26 - (k + 1)) (by omega) ⟨k + 1, _, rfl, rfl, by omega, by simp +contextual only [vq, vc, ve, vv, vn, vl, ↓reduceIte, Nat.reduceEqDiff, Nat.reduceAdd, Nat.reduceMul, Nat.reduceSub, Nat.reduceLeDiff, Nat.reduceLT, Nat.reduceBEq, Nat.reduceBNe, reduceCtorEq, Int.reduceBEq, Int.reduceBNe, Int.reduceLT, Int.reduceLE, Int.reduceEq, Int.reduceToNat, Int.reduceAdd, Int.reduceSub, Int.reduceNeg, A0], by simp +contextual only [vq, vc, ve, vv, vn, vl, ↓reduceIte, Nat.reduceEqDiff, Nat.reduceAdd, Nat.reduceMul, Nat.reduceSub, Nat.reduceLeDiff, Nat.reduceLT, Nat.reduceBEq, Nat.reduceBNe, reduceCtorEq, Int.reduceBEq, Int.reduceBNe, Int.reduceLT, Int.reduceLE, Int.reduceEq, Int.reduceToNat, Int.reduceAdd, Int.reduceSub, Int.reduceNeg, A3], by simp +contextual only [vq, vc, ve, vv, vn, vl, ↓reduceIte, Nat.reduceEqDiff, Nat.reduceAdd, Nat.reduceMul, Nat.reduceSub, Nat.reduceLeDiff, Nat.reduceLT, Nat.reduceBEq, Nat.reduceBNe, reduceCtorEq, Int.reduceBEq, Int.reduceBNe, Int.reduceLT, Int.reduceLE, Int.reduceEq, Int.reduceToNat, Int.reduceAdd, Int.reduceSub, Int.reduceNeg, A4], by simp +contextual only [vq, vc, ve, vv, vn, vl, ↓reduceIte, Nat.reduceEqDiff, Nat.reduceAdd, Nat.reduceMul, Nat.reduceSub, Nat.reduceLeDiff, Nat.reduceLT, Nat.reduceBEq, Nat.reduceBNe, reduceCtorEq, Int.reduceBEq, Int.reduceBNe, Int.reduceLT, Int.reduceLE, Int.reduceEq, Int.reduceToNat, Int.reduceAdd, Int.reduceSub, Int.reduceNeg, h3, hq, A5], by simp +contextual only [vq, vc, ve, vv, vn, vl, ↓reduceIte, Nat.reduceEqDiff, Nat.reduceAdd, Nat.reduceMul, Nat.reduceSub, Nat.reduceLeDiff, Nat.reduceLT, Nat.reduceBEq, Nat.reduceBNe, reduceCtorEq, Int.reduceBEq, Int.reduceBNe, Int.reduceLT, Int.reduceLE, Int.reduceEq, Int.reduceToNat, Int.reduceAdd, Int.reduceSub, Int.reduceNeg]⟩
    · have hk : k = 26 := by omega
      subst hk
      simp +contextual only [vq, vc, ve, vv, vn, vl, ↓reduceIte, Nat.reduceEqDiff, Nat.reduceAdd, Nat.reduceMul, Nat.reduceSub, Nat.reduceLeDiff, Nat.reduceLT, Nat.reduceBEq, Nat.reduceBNe, reduceCtorEq, Int.reduceBEq, Int.reduceBNe, Int.reduceLT, Int.reduceLE, Int.reduceEq, Int.reduceToNat, Int.reduceAdd, Int.reduceSub, Int.reduceNeg, A3, A5, upJ_26]
      refine new_mk fun N1 e1 => ?_
      obtain ⟨R1, v2, N2, ha, ON2, st2⟩ := own_lit (G := G) (bytes := 1) (cnt := 1) ON e1 bN (.inr ⟨6, by omega, rfl⟩) (by omega) rfl (by omega) (by omega)
      have b2 := st2.2.2
      simp +contextual only [vq, vc, ve, vv, vn, vl, ↓reduceIte, Nat.reduceEqDiff, Nat.reduceAdd, Nat.reduceMul, Nat.reduceSub, Nat.reduceLeDiff, Nat.reduceLT, Nat.reduceBEq, Nat.reduceBNe, reduceCtorEq, Int.reduceBEq, Int.reduceBNe, Int.reduceLT, Int.reduceLE, Int.reduceEq, Int.reduceToNat, Int.reduceAdd, Int.reduceSub, Int.reduceNeg, A4, R1.getN (G := G), ha, wsucc hlt (by omega)]
      refine again2 hJ (s.length - (i + 1)) (by omega) ⟨i + 1, _, N2, v2, rfl, st2.2.1 lN, by omega, rfl, by omega, by simp +contextual only [vq, vc, ve, vv, vn, vl, ↓reduceIte, Nat.reduceEqDiff, Nat.reduceAdd, Nat.reduceMul, Nat.reduceSub, Nat.reduceLeDiff, Nat.reduceLT, Nat.reduceBEq, Nat.reduceBNe, reduceCtorEq, Int.reduceBEq, Int.reduceBNe, Int.reduceLT, Int.reduceLE, Int.reduceEq, Int.reduceToNat, Int.reduceAdd, Int.reduceSub, Int.reduceNeg, A0], by simp +contextual only [vq, vc, ve, vv, vn, vl, ↓reduceIte, Nat.reduceEqDiff, Nat.reduceAdd, Nat.reduceMul, Nat.reduceSub, Nat.reduceLeDiff, Nat.reduceLT, Nat.reduceBEq, Nat.reduceBNe, reduceCtorEq, Int.reduceBEq, Int.reduceBNe, Int.reduceLT, Int.reduceLE, Int.reduceEq, Int.reduceToNat, Int.reduceAdd, Int.reduceSub, Int.reduceNeg], by simp +contextual only [vq, vc, ve, vv, vn, vl, ↓reduceIte, Nat.reduceEqDiff, Nat.reduceAdd, Nat.reduceMul, Nat.reduceSub, Nat.reduceLeDiff, Nat.reduceLT, Nat.reduceBEq, Nat.reduceBNe, reduceCtorEq, Int.reduceBEq, Int.reduceBNe, Int.reduceLT, Int.reduceLE, Int.reduceEq, Int.reduceToNat, Int.reduceAdd, Int.reduceSub, Int.reduceNeg], ?_⟩
      have e3 : bytesE (upS (s.take (i + 1))) = bytesE (upS (s.take i)) ++ [.int .u8 (up s[i]).toNat] := by simp only [upS, List.take_succ_eq_append_getElem hlt, List.map_append, bytes_app]; rfl
      rw [e3]
      exact ON2
  · have he : i = s.length := by omega
    subst he
    rw [List.take_length] at ON
    simp +contextual only [vq, vc, ve, vv, vn, vl, ↓reduceIte, Nat.reduceEqDiff, Nat.reduceAdd, Nat.reduceMul, Nat.reduceSub, Nat.reduceLeDiff, Nat.reduceLT, Nat.reduceBEq, Nat.reduceBNe, reduceCtorEq, Int.reduceBEq, Int.reduceBNe, Int.reduceLT, Int.reduceLE, Int.reduceEq, Int.reduceToNat, Int.reduceAdd, Int.reduceSub, Int.reduceNeg, A3, ON.tos, lN]
end Go.Proofs.YtmjoaiccbghijaaGreatDoor.paramBack

namespace Go.Proofs.YtmjoaiccbghijaaGreatDoor.paramBack
open Go.Ev hiding Comes
variable [GG]

/-- A variable of strings.Builder: its block, where its bytes lie, the bytes. -/
def Bld (k : Option Nat) (m : Mem) (b : Nat) (s : List UInt8) : Prop :=
  ∃ p v, RowG m b genB [p, v] ∧ (p = .ptr none ∨ p = .ptr (some ⟨.mem b genB, 0⟩)) ∧ (∀ j, k = some j → j ≠ b) ∧ OwnK k 1 tagB m v (bytesE s) s.length
theorem Bld.lt {k : Option Nat} {b : Nat} {m : Mem} {s : List UInt8} (h : Bld k m b s) : b < m.bl.length := by
  obtain ⟨_, _, h, _⟩ := h
  exact h.lt
theorem Bld.ltk {j : Nat} {b : Nat} {m : Mem} {s : List UInt8} (h : Bld (some j) m b s) : j < m.bl.length := by
  obtain ⟨_, _, _, _, _, h⟩ := h
  exact h.lt
theorem Bld.grown {k : Option Nat} {b : Nat} {m m' : Mem} {s : List UInt8} (h : Bld k m b s) (hg : Grown m m') : Bld k m' b s := by
  obtain ⟨p, v, h1, h2, h3, h4⟩ := h
  exact ⟨p, v, by unfold RowG; rw [hg.at h1.lt]; exact h1, h2, h3, h4.grown hg⟩
theorem Bld.new {m M : Mem} (e : M = m.push (.cells [.ptr none, .slice none 0 0 0] genB true)) : Bld none M m.bl.length [] := by
  rw [e]
  exact ⟨.ptr none, .slice none 0 0 0, by simp [RowG, Mem.push], .inl rfl, (fun j h => by cases h), OwnK.nil⟩
theorem tagB_ok : TagOk tagB := .inr ⟨tagB / typeK, by decide, rfl⟩
theorem c_abi_NoEscape (m : Mem) (x : EV) : Go.Ev.Comes T G f_abi_NoEscape [x] m none ⟨.val x, m, none⟩ := ⟨1, by simp only [evFun, T_abi_NoEscape, F_abi_NoEscape, Option.isSome_none, Bool.false_eq_true, if_false, primE, noeE, Option.map_some]⟩

theorem c_Builder_copyCheck (m : Mem) (b : Nat) (p v : EV) (h : RowG m b genB [p, v]) (hp : p = .ptr none ∨ p = .ptr (some ⟨.mem b genB, 0⟩)) :
    ∃ r, Go.Ev.Comes T G f_Builder_copyCheck [.ptr (some ⟨.mem b genB, 0⟩)] m none r ∧ ∃ m', r = ⟨.val (.tuple []), m', none⟩ ∧ RowG m' b genB [.ptr (some ⟨.mem b genB, 0⟩), v] ∧ But1 b m m' ∧ min m.low b ≤ m'.low := by
  refine comes2P T_Builder_copyCheck rfl fun M hg hlen hlow => ?_
  have hM := h.same (begin_bl hg hlen)
  have hb := h.lt
  simp only [F_Builder_copyCheck]
  rcases hp with rfl | rfl
  · obtain ⟨M1, p1, R1, t1, w1⟩ := hM.put1 (off := 0) (v := .ptr (some ⟨.mem b genB, 0⟩)) (by simp)
    simp +contextual only [vq, vc, ve, vv, vn, vl, ↓reduceIte, Nat.reduceEqDiff, Nat.reduceAdd, Nat.reduceMul, Nat.reduceSub, Nat.reduceLeDiff, Nat.reduceLT, Nat.reduceBEq, Nat.reduceBNe, reduceCtorEq, Int.reduceBEq, Int.reduceBNe, Int.reduceLT, Int.reduceLE, Int.reduceEq, Int.reduceToNat, Int.reduceAdd, Int.reduceSub, Int.reduceNeg, hM.get (G := G), ust_row hM (by simp), callR_val (c_abi_NoEscape _ _), usf_row hM, show usfE M genB 2 (.ptr (some ⟨.mem b genB, 0⟩)) = some (.ptr (some ⟨.mem b genB, 0⟩), M) from usf_row hM, p1]
    refine postX_wroteN (v := .tuple []) rfl (by omega) ⟨_, rfl, R1, ⟨by rw [t1.1]; exact hlen, fun j hj => ?_⟩, by simp only; omega⟩
    show M1.bl[j]? = _
    rw [t1.2 j hj, begin_bl hg hlen]
  · simp +contextual only [vq, vc, ve, vv, vn, vl, ↓reduceIte, Nat.reduceEqDiff, Nat.reduceAdd, Nat.reduceMul, Nat.reduceSub, Nat.reduceLeDiff, Nat.reduceLT, Nat.reduceBEq, Nat.reduceBNe, reduceCtorEq, Int.reduceBEq, Int.reduceBNe, Int.reduceLT, Int.reduceLE, Int.reduceEq, Int.reduceToNat, Int.reduceAdd, Int.reduceSub, Int.reduceNeg, hM.get (G := G), ptq_same hM]
    exact postX_sameN (v := .tuple []) rfl (by omega) rfl ⟨_, rfl, h, But1.rfl', by omega⟩
end Go.Proofs.YtmjoaiccbghijaaGreatDoor.paramBack

namespace Go.Proofs.YtmjoaiccbghijaaGreatDoor.paramBack
open Go.Ev hiding Comes
variable [GG]

theorem c_Builder_WriteString (m : Mem) (k : Option Nat) (b : Nat) (s t : List UInt8) (h : Bld k m b s) (hs : s.length + t.length ≤ 1000000000000) :
    ∃ k' m', Go.Ev.Comes T G f_Builder_WriteString [.ptr (some ⟨.mem b genB, 0⟩), .str t] m none ⟨.val (.tuple [.int .i64 t.length, .nilIface]), m', none⟩ ∧ Bld k' m' b (s ++ t) ∧ (k' = k ∨ k = none ∧ k' = some m.bl.length) ∧ Edit b k m m' := by
  have hlt := h.lt
  obtain ⟨p, v, hR, hp, hk, ho⟩ := h
  suffices H : ∃ r, Go.Ev.Comes T G f_Builder_WriteString [.ptr (some ⟨.mem b genB, 0⟩), .str t] m none r ∧ ∃ k' m', r = ⟨.val (.tuple [.int .i64 t.length, .nilIface]), m', none⟩ ∧ Bld k' m' b (s ++ t) ∧ (k' = k ∨ k = none ∧ k' = some m.bl.length) ∧ Edit b k m m' by
    obtain ⟨_, hc, k', m', rfl, h⟩ := H
    exact ⟨k', m', hc, h⟩
  refine comes2P T_Builder_WriteString rfl fun M hg hlen hlow => ?_
  have hM := begin_bl hg hlen
  obtain ⟨_, hc, M1, rfl, R1, t1, w1⟩ := c_Builder_copyCheck M b p v (hR.same hM) hp
  have b1 := t1.1
  have o1 : OwnK k 1 tagB M1 v (bytesE s) s.length := ho.keep fun j hj => by rw [t1.2 j (hk j hj), hM]
  have hb1 : s.length + t.length = (s ++ t).length := by simp
  have app : ∃ v2 M2 k2, appendE G M1 1 1 tagB v (bytesE t) t.length = some (v2, M2) ∧ OwnK k2 1 tagB M2 v2 (bytesE (s ++ t)) (s ++ t).length ∧ (∀ j, k2 = some j → j ≠ b) ∧ (k2 = k ∨ k = none ∧ k2 = some m.bl.length) ∧ RowG M2 b genB [.ptr (some ⟨.mem b genB, 0⟩), v] ∧ (∀ j, j < M1.bl.length → some j ≠ k → M2.bl[j]? = M1.bl[j]?) ∧ M1.bl.length ≤ M2.bl.length ∧ min M1.low (k.getD M1.bl.length) ≤ M2.low := by
    by_cases h0 : t = []
    · subst h0
      refine ⟨v, M1, k, ?_, by rw [List.append_nil]; exact o1, hk, .inl rfl, R1, fun _ _ _ => rfl, Nat.le_refl _, by omega⟩
      rcases o1.row with ⟨rfl, _, _⟩ | ⟨j, g, _, rfl, _⟩ <;> simp [appendE]
    · have ht : t.length ≠ 0 := fun e => h0 (List.length_eq_zero_iff.1 e)
      obtain ⟨v2, M2, k2, ha, o2, hkk, hj, hl2, w2⟩ := own_app (G := G) (bytes := 1) o1 tagB_ok (by omega) (show (bytesE t).length = t.length * 1 by simp [bytesE]) ht (by omega)
      have hlt1 := R1.lt
      refine ⟨v2, M2, some k2, ha, by rw [bytes_app, List.length_append]; exact o2, fun j hj => ?_, ?_, ?_, hj, hl2, ?_⟩
      · cases hj
        rcases hkk with e | ⟨_, e⟩
        · exact hk _ e
        · omega
      · rcases hkk with e | ⟨e1, e⟩
        · exact .inl e.symm
        · exact .inr ⟨e1, by rw [e, b1, hlen]⟩
      · unfold RowG
        rw [hj b R1.lt (fun e => hk b e.symm rfl)]
        exact R1
      · rcases hkk with e | ⟨e1, e⟩
        · rw [e]; exact w2
        · rw [e1, ← e]; exact w2
  obtain ⟨v2, M2, k2, ha, o2, hk2, hkk, R2, hsame, hl2, w2⟩ := app
  obtain ⟨a2, c2, e2, rfl⟩ := o2.slice
  obtain ⟨M3, p3, R3, t3, w3⟩ := R2.put1 (off := 1) (v := .slice a2 (s ++ t).length c2 e2) (by simp)
  have b3 := t3.1
  simp only [F_Builder_WriteString]
  simp +contextual only [vq, vc, ve, vv, vn, vl, ↓reduceIte, Nat.reduceEqDiff, Nat.reduceAdd, Nat.reduceMul, Nat.reduceSub, Nat.reduceLeDiff, Nat.reduceLT, Nat.reduceBEq, Nat.reduceBNe, reduceCtorEq, Int.reduceBEq, Int.reduceBNe, Int.reduceLT, Int.reduceLE, Int.reduceEq, Int.reduceToNat, Int.reduceAdd, Int.reduceSub, Int.reduceNeg, callR_val hc, R1.get (G := G), ha, p3]
  refine postX_wrote (v := .tuple [.int .i64 t.length, .nilIface]) (by simp +contextual only [vq, vc, ve, vv, vn, vl, ↓reduceIte, Nat.reduceEqDiff, Nat.reduceAdd, Nat.reduceMul, Nat.reduceSub, Nat.reduceLeDiff, Nat.reduceLT, Nat.reduceBEq, Nat.reduceBNe, reduceCtorEq, Int.reduceBEq, Int.reduceBNe, Int.reduceLT, Int.reduceLE, Int.reduceEq, Int.reduceToNat, Int.reduceAdd, Int.reduceSub, Int.reduceNeg]) (by omega) ⟨k2, _, rfl, ⟨_, _, R3, .inr rfl, hk2, o2.keep fun j hj => t3.2 j (hk2 j hj)⟩, hkk, fun j h1 h2 h3 => ?_, ?_, fun n0 h1 h2 h3 h4 => ?_⟩
  · show M3.bl[j]? = _
    rw [t3.2 j h2, hsame j (by omega) h3, t1.2 j h2, hM]
  · show m.bl.length ≤ M3.bl.length
    omega
  · show n0 ≤ min m.low M3.low
    have : n0 ≤ k.getD M1.bl.length := by
      cases k with
      | none => simp only [Option.getD_none]; omega
      | some j => exact h4 j rfl
    omega
end Go.Proofs.YtmjoaiccbghijaaGreatDoor.paramBack

namespace Go.Proofs.YtmjoaiccbghijaaGreatDoor.paramBack
open Go.Ev hiding Comes
variable [GG]

theorem c_Builder_String (m : Mem) (k : Option Nat) (b : Nat) (s : List UInt8) (h : Bld k m b s) (hs : s.length ≤ 1000000000000) :
    ∃ m', Go.Ev.Comes T G f_Builder_String [.ptr (some ⟨.mem b genB, 0⟩)] m none ⟨.val (.str s), m', none⟩ ∧ Edit b k m m' := by
  have hlt := h.lt
  obtain ⟨p, v, hR, hp, hk, ho⟩ := h
  suffices H : ∃ r, Go.Ev.Comes T G f_Builder_String [.ptr (some ⟨.mem b genB, 0⟩)] m none r ∧ ∃ m', r = ⟨.val (.str s), m', none⟩ ∧ Edit b k m m' by
    obtain ⟨_, hc, m', rfl, h2⟩ := H
    exact ⟨m', hc, h2⟩
  refine comes2P T_Builder_String rfl fun M hg hlen hlow => ?_
  have hM := begin_bl hg hlen
  have RM := hR.same hM
  have oM : OwnK k 1 tagB M v (bytesE s) s.length := ho.keep fun j hj => by rw [hM]
  have hold : (b < M.bl.length) = True := eq_true (by omega)
  simp only [F_Builder_String]
  rcases oM.row with ⟨rfl, h2, h3⟩ | ⟨j, g, rfl, rfl, h3, hr⟩
  · have : s = [] := List.length_eq_zero_iff.1 h3
    subst this
    have hu : unsE G ⟨M.bl, M.bl.length⟩ tagB (.ptr none) (.int .i64 ((0 : Nat) : Int)) = some (.str [], ⟨M.bl, M.bl.length⟩) := rfl
    simp +contextual only [vq, vc, ve, vv, vn, vl, ↓reduceIte, Nat.reduceEqDiff, Nat.reduceAdd, Nat.reduceMul, Nat.reduceSub, Nat.reduceLeDiff, Nat.reduceLT, Nat.reduceBEq, Nat.reduceBNe, reduceCtorEq, Int.reduceBEq, Int.reduceBNe, Int.reduceLT, Int.reduceLE, Int.reduceEq, Int.reduceToNat, Int.reduceAdd, Int.reduceSub, Int.reduceNeg, RM.get (G := G), hold, hu]
    exact postX_same (v := .str []) (by simp +contextual only [vq, vc, ve, vv, vn, vl, ↓reduceIte, Nat.reduceEqDiff, Nat.reduceAdd, Nat.reduceMul, Nat.reduceSub, Nat.reduceLeDiff, Nat.reduceLT, Nat.reduceBEq, Nat.reduceBNe, reduceCtorEq, Int.reduceBEq, Int.reduceBNe, Int.reduceLT, Int.reduceLE, Int.reduceEq, Int.reduceToNat, Int.reduceAdd, Int.reduceSub, Int.reduceNeg]) (by omega) rfl ⟨_, rfl, fun _ _ _ _ => rfl, Nat.le_refl _, fun _ h _ _ _ => h⟩
  · have hk2 := hk j rfl
    have hjl := oM.lt
    obtain ⟨g', _, he, hrl, hrow⟩ := oM
    have hg' : g' = g := by
      simp only [EV.slice.injEq, Option.some.injEq, Ad.mk.injEq, Base.mem.injEq] at he
      omega
    subst hg'
    have hu : unsE G ⟨M.bl, M.bl.length⟩ tagB (.ptr (some ⟨.mem j (tagB + g'), 0⟩)) (.int .i64 (s.length : Nat)) = some (.str s, ⟨M.bl.set j (.cells (bytesE s) (tagB + g') false), min M.bl.length j⟩) := by
      have hgN : Mem.getN G ⟨M.bl, M.bl.length⟩ ⟨.mem j (tagB + g'), 0⟩ s.length = some (bytesE s) := hr G 0 s.length (bytesE s) (sub_all bytes_len)
      have ht := tag_step (g := g') tagB_ok (by omega)
      have hty : typeK ≤ tagB := by decide
      simp only [unsE]
      rw [if_neg (by omega), if_neg (by omega)]
      simp only [hrow]
      rw [if_pos ⟨trivial, by rcases ht.2 with h | h; omega; exact h.1.symm, by omega, trivial⟩, Int.toNat_natCast, hgN]
      simp only [Option.bind_some, strE_of, Option.map_some]
    simp +contextual only [vq, vc, ve, vv, vn, vl, ↓reduceIte, Nat.reduceEqDiff, Nat.reduceAdd, Nat.reduceMul, Nat.reduceSub, Nat.reduceLeDiff, Nat.reduceLT, Nat.reduceBEq, Nat.reduceBNe, reduceCtorEq, Int.reduceBEq, Int.reduceBNe, Int.reduceLT, Int.reduceLE, Int.reduceEq, Int.reduceToNat, Int.reduceAdd, Int.reduceSub, Int.reduceNeg, RM.get (G := G), hold, h3, hu]
    rw [endD_wrote (by simp only; omega)]
    simp +contextual only [vq, vc, ve, vv, vn, vl, ↓reduceIte, Nat.reduceEqDiff, Nat.reduceAdd, Nat.reduceMul, Nat.reduceSub, Nat.reduceLeDiff, Nat.reduceLT, Nat.reduceBEq, Nat.reduceBNe, reduceCtorEq, Int.reduceBEq, Int.reduceBNe, Int.reduceLT, Int.reduceLE, Int.reduceEq, Int.reduceToNat, Int.reduceAdd, Int.reduceSub, Int.reduceNeg]
    have hj2 := hjl
    refine postX_wrote (v := .str s) (by simp +contextual only [vq, vc, ve, vv, vn, vl, ↓reduceIte, Nat.reduceEqDiff, Nat.reduceAdd, Nat.reduceMul, Nat.reduceSub, Nat.reduceLeDiff, Nat.reduceLT, Nat.reduceBEq, Nat.reduceBNe, reduceCtorEq, Int.reduceBEq, Int.reduceBNe, Int.reduceLT, Int.reduceLE, Int.reduceEq, Int.reduceToNat, Int.reduceAdd, Int.reduceSub, Int.reduceNeg]) (by simp only; omega) ⟨_, rfl, fun i h1 h2 h3 => ?_, ?_, fun n0 h1 h2 h3 h4 => ?_⟩
    · simp only
      rw [List.getElem?_set_ne (fun e => h3 (by rw [e])), hM]
    · simp only [List.length_set]; omega
    · have := h4 j rfl
      simp only
      omega
end Go.Proofs.YtmjoaiccbghijaaGreatDoor.paramBack

namespace Go.Proofs.YtmjoaiccbghijaaGreatDoor.paramBack
open Go.Ev hiding Comes
variable [GG]

theorem c_param_Print (m : Mem) (x : EV) (l : List Par) (hx : Pars G m x l) (hN : ParsOk l) : Go.Ev.Comes T G f_param_Print [x] m none ⟨.val (.tuple [.str (printP l).1, .int .i64 (printP l).2]), m, none⟩ := by
  refine comes2 T_param_Print rfl fun M hg hlen hlow => ?_
  have hl0 : m.bl.length ≤ M.low := by omega
  obtain ⟨a0, c0, e0, sx⟩ := hx.slice
  have e16 : ((16 : Int) < (l.length : Int)) = (16 < l.length) := propext ⟨fun h => by omega, fun h => by omega⟩
  simp only [F_param_Print]
  by_cases h16 : 16 < l.length
  · have hp : printP l = ([], 4) := if_pos h16
    simp +contextual only [vq, vc, ve, vv, vn, vl, ↓reduceIte, Nat.reduceEqDiff, Nat.reduceAdd, Nat.reduceMul, Nat.reduceSub, Nat.reduceLeDiff, Nat.reduceLT, Nat.reduceBEq, Nat.reduceBNe, reduceCtorEq, Int.reduceBEq, Int.reduceBNe, Int.reduceLT, Int.reduceLE, Int.reduceEq, Int.reduceToNat, Int.reduceAdd, Int.reduceSub, Int.reduceNeg, sx, e16, h16, hp, hl0]
  have hp : printP l = prs l := if_neg h16
  simp +contextual only [vq, vc, ve, vv, vn, vl, ↓reduceIte, Nat.reduceEqDiff, Nat.reduceAdd, Nat.reduceMul, Nat.reduceSub, Nat.reduceLeDiff, Nat.reduceLT, Nat.reduceBEq, Nat.reduceBNe, reduceCtorEq, Int.reduceBEq, Int.reduceBNe, Int.reduceLT, Int.reduceLE, Int.reduceEq, Int.reduceToNat, Int.reduceAdd, Int.reduceSub, Int.reduceNeg, sx, e16, h16]
  refine new_mk fun M1 e1 => ?_
  have B1 : Bld none M1 M.bl.length [] := Bld.new e1
  have l1 : M1.low = M.low := by rw [e1]; rfl
  have g1 : Grown m M1 := by rw [e1]; exact hg.push
  have b1 := B1.lt
  simp +contextual only [vq, vc, ve, vv, vn, vl, ↓reduceIte, Nat.reduceEqDiff, Nat.reduceAdd, Nat.reduceMul, Nat.reduceSub, Nat.reduceLeDiff, Nat.reduceLT, Nat.reduceBEq, Nat.reduceBNe, reduceCtorEq, Int.reduceBEq, Int.reduceBNe, Int.reduceLT, Int.reduceLE, Int.reduceEq, Int.reduceToNat, Int.reduceAdd, Int.reduceSub, Int.reduceNeg]
  refine loop2 (fun n st => ∃ i A N k, st = ⟨A, N, [], none⟩ ∧ Grown m N ∧ m.bl.length ≤ N.low ∧ n = l.length - i ∧ i ≤ l.length ∧ A 4 = .ptr (some ⟨.mem M.bl.length genB, 0⟩) ∧ A 11 = x ∧ A 12 = .int .i64 l.length ∧ A 13 = .int .i64 (i : Nat) ∧ Bld k N M.bl.length (wrote (l.take i)) ∧ (∀ j, k = some j → m.bl.length ≤ j) ∧ ∀ p ∈ l.take i, parBad p = 0) l.length ⟨0, _, M1, none, rfl, g1, by omega, by omega, by omega, by simp +contextual only [vq, vc, ve, vv, vn, vl, ↓reduceIte, Nat.reduceEqDiff, Nat.reduceAdd, Nat.reduceMul, Nat.reduceSub, Nat.reduceLeDiff, Nat.reduceLT, Nat.reduceBEq, Nat.reduceBNe, reduceCtorEq, Int.reduceBEq, Int.reduceBNe, Int.reduceLT, Int.reduceLE, Int.reduceEq, Int.reduceToNat, Int.reduceAdd, Int.reduceSub, Int.reduceNeg], by simp +contextual only [vq, vc, ve, vv, vn, vl, ↓reduceIte, Nat.reduceEqDiff, Nat.reduceAdd, Nat.reduceMul, Nat.reduceSub, Nat.reduceLeDiff, Nat.reduceLT, Nat.reduceBEq, Nat.reduceBNe, reduceCtorEq, Int.reduceBEq, Int.reduceBNe, Int.reduceLT, Int.reduceLE, Int.reduceEq, Int.reduceToNat, Int.reduceAdd, Int.reduceSub, Int.reduceNeg, sx], by simp +contextual only [vq, vc, ve, vv, vn, vl, ↓reduceIte, Nat.reduceEqDiff, Nat.reduceAdd, Nat.reduceMul, Nat.reduceSub, Nat.reduceLeDiff, Nat.reduceLT, Nat.reduceBEq, Nat.reduceBNe, reduceCtorEq, Int.reduceBEq, Int.reduceBNe, Int.reduceLT, Int.reduceLE, Int.reduceEq, Int.reduceToNat, Int.reduceAdd, Int.reduceSub, Int.reduceNeg], by simp +contextual only [vq, vc, ve, vv, vn, vl, ↓reduceIte, Nat.reduceEqDiff, Nat.reduceAdd, Nat.reduceMul, Nat.reduceSub, Nat.reduceLeDiff, Nat.reduceLT, Nat.reduceBEq, Nat.reduceBNe, reduceCtorEq, Int.reduceBEq, Int.reduceBNe, Int.reduceLT, Int.reduceLE, Int.reduceEq, Int.reduceToNat, Int.reduceAdd, Int.reduceSub, Int.reduceNeg]; rfl, B1, (fun j h => by cases h), by simp⟩ fun J hJ n st hI => ?_
  obtain ⟨i, A, N, k, rfl, gN, lN, rfl, hi, A4, A11, A12, A13, BN, hk, hok⟩ := hI
  have hwl := wrote_len (l := l.take i) fun q hq => hN q (List.mem_of_mem_take hq)
  rw [List.length_take] at hwl
  simp +contextual only [vq, vc, ve, vv, vn, vl, ↓reduceIte, Nat.reduceEqDiff, Nat.reduceAdd, Nat.reduceMul, Nat.reduceSub, Nat.reduceLeDiff, Nat.reduceLT, Nat.reduceBEq, Nat.reduceBNe, reduceCtorEq, Int.reduceBEq, Int.reduceBNe, Int.reduceLT, Int.reduceLE, Int.reduceEq, Int.reduceToNat, Int.reduceAdd, Int.reduceSub, Int.reduceNeg, A12, A13]
  refine br2_dec (fun hlt => ?_) (fun hge => ?_)
  · obtain ⟨a, cap, q1, _, hgp, _⟩ := (hx.grown gN).at hlt
    rw [q1] at A11
    have hpN := hN l[i] (List.getElem_mem hlt)
    simp +contextual only [vq, vc, ve, vv, vn, vl, ↓reduceIte, Nat.reduceEqDiff, Nat.reduceAdd, Nat.reduceMul, Nat.reduceSub, Nat.reduceLeDiff, Nat.reduceLT, Nat.reduceBEq, Nat.reduceBNe, reduceCtorEq, Int.reduceBEq, Int.reduceBNe, Int.reduceLT, Int.reduceLE, Int.reduceEq, Int.reduceToNat, Int.reduceAdd, Int.reduceSub, Int.reduceNeg, A11, A13, hlt, hgp, parE]
    refine new_mk fun N1 f1 => ?_
    obtain ⟨N2, p2, g2, R2, b2, w2⟩ := put_new f1 (cs := parE l[i]) rfl
    simp only [parE] at p2 R2
    have r2 := R2.lt
    have n2 : m.bl.length ≤ N2.low := by have := gN.le; omega
    simp +contextual only [vq, vc, ve, vv, vn, vl, ↓reduceIte, Nat.reduceEqDiff, Nat.reduceAdd, Nat.reduceMul, Nat.reduceSub, Nat.reduceLeDiff, Nat.reduceLT, Nat.reduceBEq, Nat.reduceBNe, reduceCtorEq, Int.reduceBEq, Int.reduceBNe, Int.reduceLT, Int.reduceLE, Int.reduceEq, Int.reduceToNat, Int.reduceAdd, Int.reduceSub, Int.reduceNeg, p2, R2.get (G := G), callR_val (c_param_keyword _ _ (show (l[i]).name.length ≤ _ by omega)), callR_val (c_octet_Upper _ _ (show (l[i]).name.length ≤ _ by omega)), r2, bad_kw]
    refine br2_dec (fun hb1 => ?_) (fun hb1 => ?_)
    · have e1 : parBad l[i] = 100 := if_pos hb1
      have e2 : prs l = ([], 100) := by rw [prs_bad hlt hok (by rw [e1]; omega), e1]
      simp +contextual only [vq, vc, ve, vv, vn, vl, ↓reduceIte, Nat.reduceEqDiff, Nat.reduceAdd, Nat.reduceMul, Nat.reduceSub, Nat.reduceLeDiff, Nat.reduceLT, Nat.reduceBEq, Nat.reduceBNe, reduceCtorEq, Int.reduceBEq, Int.reduceBNe, Int.reduceLT, Int.reduceLE, Int.reduceEq, Int.reduceToNat, Int.reduceAdd, Int.reduceSub, Int.reduceNeg, hp, e2, n2]
    simp +contextual only [vq, vc, ve, vv, vn, vl, ↓reduceIte, Nat.reduceEqDiff, Nat.reduceAdd, Nat.reduceMul, Nat.reduceSub, Nat.reduceLeDiff, Nat.reduceLT, Nat.reduceBEq, Nat.reduceBNe, reduceCtorEq, Int.reduceBEq, Int.reduceBNe, Int.reduceLT, Int.reduceLE, Int.reduceEq, Int.reduceToNat, Int.reduceAdd, Int.reduceSub, Int.reduceNeg, R2.get (G := G), callR_val (c_param_badValue _ _ _ (show (l[i]).value.length ≤ _ by omega))]
    refine br2_mk (fun hb2 => ?_) (fun hb2 => ?_)
    · have e1 : parBad l[i] = 101 := by rw [parBad, if_neg hb1, if_pos hb2]
      have e2 : prs l = ([], 101) := by rw [prs_bad hlt hok (by rw [e1]; omega), e1]
      simp +contextual only [vq, vc, ve, vv, vn, vl, ↓reduceIte, Nat.reduceEqDiff, Nat.reduceAdd, Nat.reduceMul, Nat.reduceSub, Nat.reduceLeDiff, Nat.reduceLT, Nat.reduceBEq, Nat.reduceBNe, reduceCtorEq, Int.reduceBEq, Int.reduceBNe, Int.reduceLT, Int.reduceLE, Int.reduceEq, Int.reduceToNat, Int.reduceAdd, Int.reduceSub, Int.reduceNeg, hp, e2, n2]
    have e1 : parBad l[i] = 0 := by rw [parBad, if_neg hb1, if_neg (by rw [hb2]; simp)]
    obtain ⟨k3, N3, hc3, B3, hk3, ed3⟩ := c_Builder_WriteString N2 k M.bl.length _ (32 :: l[i].name) (BN.grown g2) (by simp; omega)
    have hb : M.bl.length < N.bl.length := BN.lt
    have hkl : ∀ j, k = some j → j < N.bl.length := fun j hj => by subst hj; exact BN.ltk
    have hne : some N.bl.length ≠ k := fun e => by have := hkl _ e.symm; omega
    have R3 := ed3.row R2 (by omega) hne
    have gN3 : Grown m N3 := (ed3.stays (n0 := m.bl.length) (by omega) (by have := gN.le; omega) hk).grown (gN.trans g2) (Nat.le_refl _)
    have lN3 : m.bl.length ≤ N3.low := (ed3.stays (n0 := m.bl.length) (by omega) (by have := gN.le; omega) hk).2.1 n2
    have hk3' : ∀ j, k3 = some j → m.bl.length ≤ j := fun j hj => by
      rcases hk3 with e | ⟨_, e⟩
      · exact hk j (by rw [← e]; exact hj)
      · rw [e] at hj; cases hj; have := gN.le; omega
    have a1 : 1 + l[i].name.length ≤ 9223372036854775807 := by omega
    have a2 : 1 + l[i].value.length ≤ 9223372036854775807 := by omega
    cases hh : l[i].has with
    | false =>
      have ew : wrote (l.take (i + 1)) = wrote (l.take i) ++ (32 :: l[i].name) := by rw [wrote_next hlt, parW, if_neg (by simp [hh]), List.append_nil]
      simp +contextual only [vq, vc, ve, vv, vn, vl, ↓reduceIte, Nat.reduceEqDiff, Nat.reduceAdd, Nat.reduceMul, Nat.reduceSub, Nat.reduceLeDiff, Nat.reduceLT, Nat.reduceBEq, Nat.reduceBNe, reduceCtorEq, Int.reduceBEq, Int.reduceBNe, Int.reduceLT, Int.reduceLE, Int.reduceEq, Int.reduceToNat, Int.reduceAdd, Int.reduceSub, Int.reduceNeg, A4, R2.get (G := G), a1, callR_val hc3, R3.get (G := G), hh, A13, wsucc hlt (by omega)]
      refine again2 hJ (l.length - (i + 1)) (by omega) ⟨i + 1, _, N3, k3, rfl, gN3, lN3, rfl, by omega, by simp +contextual only [vq, vc, ve, vv, vn, vl, ↓reduceIte, Nat.reduceEqDiff, Nat.reduceAdd, Nat.reduceMul, Nat.reduceSub, Nat.reduceLeDiff, Nat.reduceLT, Nat.reduceBEq, Nat.reduceBNe, reduceCtorEq, Int.reduceBEq, Int.reduceBNe, Int.reduceLT, Int.reduceLE, Int.reduceEq, Int.reduceToNat, Int.reduceAdd, Int.reduceSub, Int.reduceNeg, A4], by simp +contextual only [vq, vc, ve, vv, vn, vl, ↓reduceIte, Nat.reduceEqDiff, Nat.reduceAdd, Nat.reduceMul, Nat.reduceSub, Nat.reduceLeDiff, Nat.reduceLT, Nat.reduceBEq, Nat.reduceBNe, reduceCtorEq, Int.reduceBEq, Int.reduceBNe, Int.reduceLT, Int.reduceLE, Int.reduceEq, Int.reduceToNat, Int.reduceAdd, Int.reduceSub, Int.reduceNeg, A11, q1], by simp +contextual only [vq, vc, ve, vv, vn, vl, ↓reduceIte, Nat.reduceEqDiff, Nat.reduceAdd, Nat.reduceMul, Nat.reduceSub, Nat.reduceLeDiff, Nat.reduceLT, Nat.reduceBEq, Nat.reduceBNe, reduceCtorEq, Int.reduceBEq, Int.reduceBNe, Int.reduceLT, Int.reduceLE, Int.reduceEq, Int.reduceToNat, Int.reduceAdd, Int.reduceSub, Int.reduceNeg, A12], by simp +contextual only [vq, vc, ve, vv, vn, vl, ↓reduceIte, Nat.reduceEqDiff, Nat.reduceAdd, Nat.reduceMul, Nat.reduceSub, Nat.reduceLeDiff, Nat.reduceLT, Nat.reduceBEq, Nat.reduceBNe, reduceCtorEq, Int.reduceBEq, Int.reduceBNe, Int.reduceLT, Int.reduceLE, Int.reduceEq, Int.reduceToNat, Int.reduceAdd, Int.reduceSub, Int.reduceNeg], by rw [ew]; exact B3, hk3', fun p hp => ?_⟩
      rw [List.take_succ_eq_append_getElem hlt] at hp
      rcases List.mem_append.1 hp with hp | hp
      · exact hok p hp
      · simp at hp; rw [hp]; exact e1
    | true =>
      have ew : wrote (l.take (i + 1)) = wrote (l.take i) ++ (32 :: l[i].name) ++ (61 :: l[i].value) := by rw [wrote_next hlt, parW, if_pos hh, List.append_assoc]
      obtain ⟨k4, N4, hc4, B4, hk4, ed4⟩ := c_Builder_WriteString N3 k3 M.bl.length _ (61 :: l[i].value) B3 (by simp; omega)
      have st4 := ed4.stays (n0 := m.bl.length) (by omega) gN3.le hk3'
      have hk4' : ∀ j, k4 = some j → m.bl.length ≤ j := fun j hj => by
        rcases hk4 with e | ⟨_, e⟩
        · exact hk3' j (by rw [← e]; exact hj)
        · rw [e] at hj; cases hj; exact gN3.le
      simp +contextual only [vq, vc, ve, vv, vn, vl, ↓reduceIte, Nat.reduceEqDiff, Nat.reduceAdd, Nat.reduceMul, Nat.reduceSub, Nat.reduceLeDiff, Nat.reduceLT, Nat.reduceBEq, Nat.reduceBNe, reduceCtorEq, Int.reduceBEq, Int.reduceBNe, Int.reduceLT, Int.reduceLE, Int.reduceEq, Int.reduceToNat, Int.reduceAdd, Int.reduceSub, Int.reduceNeg, A4, R2.get (G := G), a1, a2, callR_val hc3, R3.get (G := G), hh, callR_val hc4, A13, wsucc hlt (by omega)]
      refine again2 hJ (l.length - (i + 1)) (by omega) ⟨i + 1, _, N4, k4, rfl, st4.grown gN3 (Nat.le_refl _), st4.2.1 lN3, rfl, by omega, by simp +contextual only [vq, vc, ve, vv, vn, vl, ↓reduceIte, Nat.reduceEqDiff, Nat.reduceAdd, Nat.reduceMul, Nat.reduceSub, Nat.reduceLeDiff, Nat.reduceLT, Nat.reduceBEq, Nat.reduceBNe, reduceCtorEq, Int.reduceBEq, Int.reduceBNe, Int.reduceLT, Int.reduceLE, Int.reduceEq, Int.reduceToNat, Int.reduceAdd, Int.reduceSub, Int.reduceNeg, A4], by simp +contextual only [vq, vc, ve, vv, vn, vl, ↓reduceIte, Nat.reduceEqDiff, Nat.reduceAdd, Nat.reduceMul, Nat.reduceSub, Nat.reduceLeDiff, Nat.reduceLT, Nat.reduceBEq, Nat.reduceBNe, reduceCtorEq, Int.reduceBEq, Int.reduceBNe, Int.reduceLT, Int.reduceLE, Int.reduceEq, Int.reduceToNat, Int.reduceAdd, Int.reduceSub, Int.reduceNeg, A11, q1], by simp +contextual only [vq, vc, ve, vv, vn, vl, ↓reduceIte, Nat.reduceEqDiff, Nat.reduceAdd, Nat.reduceMul, Nat.reduceSub, Nat.reduceLeDiff, Nat.reduceLT, Nat.reduceBEq, Nat.reduceBNe, reduceCtorEq, Int.reduceBEq, Int.reduceBNe, Int.reduceLT, Int.reduceLE, Int.reduceEq, Int.reduceToNat, Int.reduceAdd, Int.reduceSub, Int.reduceNeg, A12], by simp +contextual only [vq, vc, ve, vv, vn, vl, ↓reduceIte, Nat.reduceEqDiff, Nat.reduceAdd, Nat.reduceMul, Nat.reduceSub, Nat.reduceLeDiff, Nat.reduceLT, Nat.reduceBEq, Nat.reduceBNe, reduceCtorEq, Int.reduceBEq, Int.reduceBNe, Int.reduceLT, Int.reduceLE, Int.reduceEq, Int.reduceToNat, Int.reduceAdd, Int.reduceSub, Int.reduceNeg], by rw [ew]; exact B4, hk4', fun p hp => ?_⟩
      rw [List.take_succ_eq_append_getElem hlt] at hp
      rcases List.mem_append.1 hp with hp | hp
      · exact hok p hp
      · simp at hp; rw [hp]; exact e1
  · have he : i = l.length := by omega
    subst he
    rw [List.take_length] at hok BN
    have e2 : prs l = (wrote l, 0) := prs_ok hok
    obtain ⟨N4, hc4, ed4⟩ := c_Builder_String N k M.bl.length (wrote l) BN (by have := wrote_len hN; omega)
    have st4 := (ed4.stays (n0 := m.bl.length) (by omega) gN.le hk).2.1 lN
    simp +contextual only [vq, vc, ve, vv, vn, vl, ↓reduceIte, Nat.reduceEqDiff, Nat.reduceAdd, Nat.reduceMul, Nat.reduceSub, Nat.reduceLeDiff, Nat.reduceLT, Nat.reduceBEq, Nat.reduceBNe, reduceCtorEq, Int.reduceBEq, Int.reduceBNe, Int.reduceLT, Int.reduceLE, Int.reduceEq, Int.reduceToNat, Int.reduceAdd, Int.reduceSub, Int.reduceNeg, A4, callR_val hc4, hp, e2, st4]
end Go.Proofs.YtmjoaiccbghijaaGreatDoor.paramBack
