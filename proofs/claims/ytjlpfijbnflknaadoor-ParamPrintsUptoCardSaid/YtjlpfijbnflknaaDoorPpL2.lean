/- A part of the proof of the statement that this claim hands in: what single functions come to. There are no conditions. -/
import Derived.Test.YtjlpfijbnflknaaDoorPpL1
import Derived.Test.YtjlpfijbnflknaaDoorPpEv20
import Derived.Test.YtjlpfijbnflknaaDoorPpEv30
set_option linter.unusedVariables false
set_option linter.unusedSimpArgs false
set_option linter.unusedSectionVars false
namespace Go.Proofs.YtjlpfijbnflknaaDoor.paramPrints
open Go.Ev hiding Comes

theorem wi {z : Int} (h : -2000000000000 ≤ z ∧ z ≤ 2000000000000) : IntKind.i64.wrap z = z := wrap64 (by omega) (by omega)
theorem w32 {z : Int} (h0 : 0 ≤ z) (h1 : z ≤ 1114111) : IntKind.i32.wrap z = z := by
  unfold IntKind.wrap
  simp [IntKind.bits, IntKind.signed]
  omega
theorem c_r05_made (m : Mem) (l : List UInt8) (a : Ad) (cap : Nat) (h1 : 1 ≤ l.length) (h4 : l.length ≤ 4) (hcap : l.length ≤ cap) (hg0 : m.getN G a l.length = some (bytesE l)) (ho : oldAd m.bl.length a = true) :
    Go.Ev.Comes T G f_r05_made [.slice (some a) l.length cap 1] m none ⟨.val (.tuple [.int .i32 (IntKind.i32.wrap (madeX l)), .bool (madeOk l)]), m, none⟩ := by
  refine comes2 T_r05_made rfl fun M hg hlen hlow => ?_
  have hgM := getN_grown hg hg0
  have oM := oldAd_le ho hg.le
  have hl0 : m.bl.length ≤ M.low := by omega
  have at_ : ∀ (i : Nat) (hi : i < l.length), M.get G (a.plus i) = some (byteE l[i]) := fun i hi => by
    have := get_part (a := a) (off := 0) (k := i) (v := byteE l[i]) (by rw [Ad.plus_zero]; exact hgM) (by omega) (sub_one (by simp [bytesE, hi]))
    rwa [Nat.zero_add] at this
  have d0 := at_ 0 (by omega)
  have hl := lead_le l.length
  have hb := l[0].toNat_lt
  have x0 : IntKind.i64.wrap ((l[0].toNat : Int)) = (l[0].toNat : Int) := wi (by omega)
  have x1 : IntKind.i64.wrap ((l[0].toNat : Int) - leadZ l.length) = madeK l 0 := by
    rw [wi (by omega)]
    match l, h1 with
    | b :: r, _ => rfl
  rw [Ad.plus_zero] at d0
  have p0 : 0 < l.length := by omega
  have h1' : (1 : Int) ≤ (l.length : Int) := by omega
  simp only [F_r05_made]
  simp +contextual only [vq, vc, ve, vv, vn, vl, ↓reduceIte, Nat.reduceEqDiff, Nat.reduceAdd, Nat.reduceMul, Nat.reduceSub, Nat.reduceLeDiff, Nat.reduceLT, reduceCtorEq, Int.reduceBEq, Int.reduceBNe, Int.reduceLT, Int.reduceLE, Int.reduceEq, Int.reduceToNat, Int.reduceAdd, Int.reduceSub, Int.reduceNeg, p0, d0, oM, x0, x1, callR_val (c_r05_lead _ _ (show l.length < 5 by omega)), h1', hcap]
  refine loop2 (fun n st => ∃ i A, st = ⟨A, M, [], none⟩ ∧ n = l.length - 1 - i ∧ i ≤ l.length - 1 ∧ A 0 = .slice (some a) l.length cap 1 ∧ A 4 = .int .i64 (madeK l i) ∧ A 16 = .slice (some (a.plus 1)) (l.length - 1) (cap - 1) 1 ∧ A 17 = .int .i64 (l.length - 1 : Nat) ∧ A 18 = .int .i64 (i : Nat)) (l.length - 1) ⟨0, _, rfl, by omega, by omega, by simp +contextual only [vq, vc, ve, vv, vn, vl, ↓reduceIte, Nat.reduceEqDiff, Nat.reduceAdd, Nat.reduceMul, Nat.reduceSub, Nat.reduceLeDiff, Nat.reduceLT, reduceCtorEq, Int.reduceBEq, Int.reduceBNe, Int.reduceLT, Int.reduceLE, Int.reduceEq, Int.reduceToNat, Int.reduceAdd, Int.reduceSub, Int.reduceNeg], by simp +contextual only [vq, vc, ve, vv, vn, vl, ↓reduceIte, Nat.reduceEqDiff, Nat.reduceAdd, Nat.reduceMul, Nat.reduceSub, Nat.reduceLeDiff, Nat.reduceLT, reduceCtorEq, Int.reduceBEq, Int.reduceBNe, Int.reduceLT, Int.reduceLE, Int.reduceEq, Int.reduceToNat, Int.reduceAdd, Int.reduceSub, Int.reduceNeg], by simp +contextual only [vq, vc, ve, vv, vn, vl, ↓reduceIte, Nat.reduceEqDiff, Nat.reduceAdd, Nat.reduceMul, Nat.reduceSub, Nat.reduceLeDiff, Nat.reduceLT, reduceCtorEq, Int.reduceBEq, Int.reduceBNe, Int.reduceLT, Int.reduceLE, Int.reduceEq, Int.reduceToNat, Int.reduceAdd, Int.reduceSub, Int.reduceNeg], by simp +contextual only [vq, vc, ve, vv, vn, vl, ↓reduceIte, Nat.reduceEqDiff, Nat.reduceAdd, Nat.reduceMul, Nat.reduceSub, Nat.reduceLeDiff, Nat.reduceLT, reduceCtorEq, Int.reduceBEq, Int.reduceBNe, Int.reduceLT, Int.reduceLE, Int.reduceEq, Int.reduceToNat, Int.reduceAdd, Int.reduceSub, Int.reduceNeg], by simp +contextual only [vq, vc, ve, vv, vn, vl, ↓reduceIte, Nat.reduceEqDiff, Nat.reduceAdd, Nat.reduceMul, Nat.reduceSub, Nat.reduceLeDiff, Nat.reduceLT, reduceCtorEq, Int.reduceBEq, Int.reduceBNe, Int.reduceLT, Int.reduceLE, Int.reduceEq, Int.reduceToNat, Int.reduceAdd, Int.reduceSub, Int.reduceNeg]; rfl⟩ fun J hJ n st hI => ?_
  obtain ⟨i, A, rfl, rfl, hi, A0, A4, A16, A17, A18⟩ := hI
  have hms := madeK_small h4 i
  simp +contextual only [vq, vc, ve, vv, vn, vl, ↓reduceIte, Nat.reduceEqDiff, Nat.reduceAdd, Nat.reduceMul, Nat.reduceSub, Nat.reduceLeDiff, Nat.reduceLT, reduceCtorEq, Int.reduceBEq, Int.reduceBNe, Int.reduceLT, Int.reduceLE, Int.reduceEq, Int.reduceToNat, Int.reduceAdd, Int.reduceSub, Int.reduceNeg, A17, A18]
  refine br2_dec (fun hlt => ?_) (fun hge => ?_)
  · have d1 := at_ (i + 1) (by omega)
    have hc := (l[i + 1]'(by omega)).toNat_lt
    have q1 : IntKind.i64.wrap (64 * madeK l i) = 64 * madeK l i := wi (by omega)
    have q2 : IntKind.i64.wrap (((l[i + 1]'(by omega)).toNat : Int)) = ((l[i + 1]'(by omega)).toNat : Int) := wi (by omega)
    have q3 : IntKind.i64.wrap (64 * madeK l i + ((l[i + 1]'(by omega)).toNat : Int)) = 64 * madeK l i + ((l[i + 1]'(by omega)).toNat : Int) := wi (by omega)
    have q4 : IntKind.i64.wrap (64 * madeK l i + ((l[i + 1]'(by omega)).toNat : Int) - 128) = madeK l (i + 1) := by
      rw [madeK_next (by omega)]
      exact wi (by omega)
    have pl : 1 + i = i + 1 := by omega
    simp +contextual only [vq, vc, ve, vv, vn, vl, ↓reduceIte, Nat.reduceEqDiff, Nat.reduceAdd, Nat.reduceMul, Nat.reduceSub, Nat.reduceLeDiff, Nat.reduceLT, reduceCtorEq, Int.reduceBEq, Int.reduceBNe, Int.reduceLT, Int.reduceLE, Int.reduceEq, Int.reduceToNat, Int.reduceAdd, Int.reduceSub, Int.reduceNeg, A4, A16, A18, hlt, pl, d1, q1, q2, q3, q4, wsucc hlt (by omega)]
    exact again2 hJ (l.length - 1 - (i + 1)) (by omega) ⟨i + 1, _, rfl, rfl, by omega, by simp +contextual only [vq, vc, ve, vv, vn, vl, ↓reduceIte, Nat.reduceEqDiff, Nat.reduceAdd, Nat.reduceMul, Nat.reduceSub, Nat.reduceLeDiff, Nat.reduceLT, reduceCtorEq, Int.reduceBEq, Int.reduceBNe, Int.reduceLT, Int.reduceLE, Int.reduceEq, Int.reduceToNat, Int.reduceAdd, Int.reduceSub, Int.reduceNeg, A0], by simp +contextual only [vq, vc, ve, vv, vn, vl, ↓reduceIte, Nat.reduceEqDiff, Nat.reduceAdd, Nat.reduceMul, Nat.reduceSub, Nat.reduceLeDiff, Nat.reduceLT, reduceCtorEq, Int.reduceBEq, Int.reduceBNe, Int.reduceLT, Int.reduceLE, Int.reduceEq, Int.reduceToNat, Int.reduceAdd, Int.reduceSub, Int.reduceNeg], by simp +contextual only [vq, vc, ve, vv, vn, vl, ↓reduceIte, Nat.reduceEqDiff, Nat.reduceAdd, Nat.reduceMul, Nat.reduceSub, Nat.reduceLeDiff, Nat.reduceLT, reduceCtorEq, Int.reduceBEq, Int.reduceBNe, Int.reduceLT, Int.reduceLE, Int.reduceEq, Int.reduceToNat, Int.reduceAdd, Int.reduceSub, Int.reduceNeg, A16], by simp +contextual only [vq, vc, ve, vv, vn, vl, ↓reduceIte, Nat.reduceEqDiff, Nat.reduceAdd, Nat.reduceMul, Nat.reduceSub, Nat.reduceLeDiff, Nat.reduceLT, reduceCtorEq, Int.reduceBEq, Int.reduceBNe, Int.reduceLT, Int.reduceLE, Int.reduceEq, Int.reduceToNat, Int.reduceAdd, Int.reduceSub, Int.reduceNeg, A17], by simp +contextual only [vq, vc, ve, vv, vn, vl, ↓reduceIte, Nat.reduceEqDiff, Nat.reduceAdd, Nat.reduceMul, Nat.reduceSub, Nat.reduceLeDiff, Nat.reduceLT, reduceCtorEq, Int.reduceBEq, Int.reduceBNe, Int.reduceLT, Int.reduceLE, Int.reduceEq, Int.reduceToNat, Int.reduceAdd, Int.reduceSub, Int.reduceNeg]⟩
  · have hie : i = l.length - 1 := by omega
    subst hie
    rw [madeK_end] at A4 hms
    cases hR : isR (madeX l) with
    | true =>
      obtain ⟨⟨r0, r1⟩, _⟩ := (isR_iff _).1 hR
      obtain ⟨N2, hcw, g2, l2, R2⟩ := c_r05_Write ⟨M.bl, M.bl.length⟩ (madeX l) r0 r1
      have lw : (bytesE (wr (madeX l))).length = (wr (madeX l)).length := by simp [bytesE]
      have k1 : N2.getN G ⟨.mem M.bl.length 0, 0⟩ (wr (madeX l)).length = some (bytesE (wr (madeX l))) := getN_row R2 (sub_all lw)
      have k2 : N2.getN G a l.length = some (bytesE l) := getN_grown (m := ⟨M.bl, M.bl.length⟩) g2 hgM
      have hm : madeOk l = (wr (madeX l) == l) := by simp [madeOk, hR]
      have l2' : M.bl.length ≤ N2.low := by
        have := l2
        simp only [Nat.min_self] at this
        exact this
      simp +contextual only [vq, vc, ve, vv, vn, vl, ↓reduceIte, Nat.reduceEqDiff, Nat.reduceAdd, Nat.reduceMul, Nat.reduceSub, Nat.reduceLeDiff, Nat.reduceLT, reduceCtorEq, Int.reduceBEq, Int.reduceBNe, Int.reduceLT, Int.reduceLE, Int.reduceEq, Int.reduceToNat, Int.reduceAdd, Int.reduceSub, Int.reduceNeg, A4, A0, callR_val (c_r05_Is _ _), hR, w32 r0 r1, callR_val hcw, k1, k2, oM]
      rw [cutD_new l2']
      simp +contextual only [vq, vc, ve, vv, vn, vl, ↓reduceIte, Nat.reduceEqDiff, Nat.reduceAdd, Nat.reduceMul, Nat.reduceSub, Nat.reduceLeDiff, Nat.reduceLT, reduceCtorEq, Int.reduceBEq, Int.reduceBNe, Int.reduceLT, Int.reduceLE, Int.reduceEq, Int.reduceToNat, Int.reduceAdd, Int.reduceSub, Int.reduceNeg]
      rw [endD_new l2']
      simp +contextual only [vq, vc, ve, vv, vn, vl, ↓reduceIte, Nat.reduceEqDiff, Nat.reduceAdd, Nat.reduceMul, Nat.reduceSub, Nat.reduceLeDiff, Nat.reduceLT, reduceCtorEq, Int.reduceBEq, Int.reduceBNe, Int.reduceLT, Int.reduceLE, Int.reduceEq, Int.reduceToNat, Int.reduceAdd, Int.reduceSub, Int.reduceNeg, hm, hl0]
    | false =>
      have hm : madeOk l = false := by simp [madeOk, hR]
      simp +contextual only [vq, vc, ve, vv, vn, vl, ↓reduceIte, Nat.reduceEqDiff, Nat.reduceAdd, Nat.reduceMul, Nat.reduceSub, Nat.reduceLeDiff, Nat.reduceLT, reduceCtorEq, Int.reduceBEq, Int.reduceBNe, Int.reduceLT, Int.reduceLE, Int.reduceEq, Int.reduceToNat, Int.reduceAdd, Int.reduceSub, Int.reduceNeg, A4, A0, callR_val (c_r05_Is _ _), hR, hm, hl0]
theorem wf_le : ∀ l : List UInt8, wf l ≤ 4 ∧ wf l ≤ l.length := by
  intro l
  unfold wf
  split
  · simp
  · rename_i b r
    repeat' split
    all_goals simp
    all_goals omega

/-- How many bytes the rune at a place has. -/
theorem c_r05_One (m : Mem) (s : List UInt8) (a : Ad) (cap k : Nat) (hk : k ≤ s.length) (hN : s.length ≤ 1000000000000) (hcap : s.length ≤ cap) (hg0 : m.getN G a s.length = some (bytesE s)) (ho : oldAd m.bl.length a = true) :
    ∃ x : Int, Go.Ev.Comes T G f_r05_One [.slice (some a) s.length cap 1, .int .i64 k] m none ⟨.val (.tuple [.int .i32 x, .int .i64 (wf (s.drop k) : Nat)]), m, none⟩ := by
  suffices H : ∃ r, Go.Ev.Comes T G f_r05_One [.slice (some a) s.length cap 1, .int .i64 k] m none r ∧ ∃ x : Int, r = ⟨.val (.tuple [.int .i32 x, .int .i64 (wf (s.drop k) : Nat)]), m, none⟩ by
    obtain ⟨_, hc, x, rfl⟩ := H
    exact ⟨x, hc⟩
  refine comes2P T_r05_One rfl fun M hg hlen hlow => ?_
  have hgM := getN_grown hg hg0
  have oM := oldAd_le ho hg.le
  have hwf := wf_le (s.drop k)
  have hl0 : m.bl.length ≤ M.low := by omega
  rw [List.length_drop] at hwf
  simp only [F_r05_One]
  simp +contextual only [vq, vc, ve, vv, vn, vl, ↓reduceIte, Nat.reduceEqDiff, Nat.reduceAdd, Nat.reduceMul, Nat.reduceSub, Nat.reduceLeDiff, Nat.reduceLT, reduceCtorEq, Int.reduceBEq, Int.reduceBNe, Int.reduceLT, Int.reduceLE, Int.reduceEq, Int.reduceToNat, Int.reduceAdd, Int.reduceSub, Int.reduceNeg]
  refine loop2 (fun q st => ∃ n A, st = ⟨A, M, [], none⟩ ∧ q = 5 - n ∧ 1 ≤ n ∧ n ≤ 5 ∧ A 0 = .slice (some a) s.length cap 1 ∧ A 1 = .int .i64 k ∧ A 6 = .int .i64 (n : Nat) ∧ (∀ j, 1 ≤ j → j < n → wf (s.drop k) ≠ j)) 4 ⟨1, _, rfl, rfl, by omega, by omega, by simp +contextual only [vq, vc, ve, vv, vn, vl, ↓reduceIte, Nat.reduceEqDiff, Nat.reduceAdd, Nat.reduceMul, Nat.reduceSub, Nat.reduceLeDiff, Nat.reduceLT, reduceCtorEq, Int.reduceBEq, Int.reduceBNe, Int.reduceLT, Int.reduceLE, Int.reduceEq, Int.reduceToNat, Int.reduceAdd, Int.reduceSub, Int.reduceNeg], by simp +contextual only [vq, vc, ve, vv, vn, vl, ↓reduceIte, Nat.reduceEqDiff, Nat.reduceAdd, Nat.reduceMul, Nat.reduceSub, Nat.reduceLeDiff, Nat.reduceLT, reduceCtorEq, Int.reduceBEq, Int.reduceBNe, Int.reduceLT, Int.reduceLE, Int.reduceEq, Int.reduceToNat, Int.reduceAdd, Int.reduceSub, Int.reduceNeg], by simp +contextual only [vq, vc, ve, vv, vn, vl, ↓reduceIte, Nat.reduceEqDiff, Nat.reduceAdd, Nat.reduceMul, Nat.reduceSub, Nat.reduceLeDiff, Nat.reduceLT, reduceCtorEq, Int.reduceBEq, Int.reduceBNe, Int.reduceLT, Int.reduceLE, Int.reduceEq, Int.reduceToNat, Int.reduceAdd, Int.reduceSub, Int.reduceNeg]; rfl, fun j h1 h2 => by omega⟩ fun J hJ q st hI => ?_
  obtain ⟨n, A, rfl, rfl, hn1, hn5, A0, A1, A6, hno⟩ := hI
  have hw : IntKind.i64.wrap ((k : Int) + (n : Int)) = ((k + n : Nat) : Int) := wrap_of (by omega) (by omega)
  have e4 : ((n : Int) ≤ 4) = (n ≤ 4) := propext ⟨fun h => by omega, fun h => by omega⟩
  by_cases hin : n ≤ 4 ∧ k + n ≤ s.length
  · obtain ⟨hn4, hkn⟩ := hin
    have hll : ((s.drop k).take n).length = n := by simp; omega
    have hgl : M.getN G (a.plus k) ((s.drop k).take n).length = some (bytesE ((s.drop k).take n)) := by
      have := getN_part (a := a) (off := 0) (k := k) (j := n) (ds := bytesE ((s.drop k).take n)) (by rw [Ad.plus_zero]; exact hgM) (by omega) ⟨by simp [bytesE]; omega, by simp [bytesE, List.map_take, List.map_drop]⟩
      rw [Nat.zero_add] at this
      rw [hll]
      exact this
    have hc := c_r05_made M ((s.drop k).take n) (a.plus k) (cap - k) (by omega) (by omega) (by omega) hgl oM
    rw [hll, made_wf (s.drop k) n hn1 hn4 (by rw [List.length_drop]; omega)] at hc
    have j2 : k + n ≤ cap := by omega
    have j3 : k + n - k = n := by omega
    have j4 : k ≤ k + n := by omega
    simp +contextual only [vq, vc, ve, vv, vn, vl, ↓reduceIte, Nat.reduceEqDiff, Nat.reduceAdd, Nat.reduceMul, Nat.reduceSub, Nat.reduceLeDiff, Nat.reduceLT, reduceCtorEq, Int.reduceBEq, Int.reduceBNe, Int.reduceLT, Int.reduceLE, Int.reduceEq, Int.reduceToNat, Int.reduceAdd, Int.reduceSub, Int.reduceNeg, A0, A1, A6, hw, e4, hn4, hkn, j2, j3, j4, callR_val hc]
    refine br2_dec (fun hy => ?_) (fun hno' => ?_)
    · simp +contextual only [vq, vc, ve, vv, vn, vl, ↓reduceIte, Nat.reduceEqDiff, Nat.reduceAdd, Nat.reduceMul, Nat.reduceSub, Nat.reduceLeDiff, Nat.reduceLT, reduceCtorEq, Int.reduceBEq, Int.reduceBNe, Int.reduceLT, Int.reduceLE, Int.reduceEq, Int.reduceToNat, Int.reduceAdd, Int.reduceSub, Int.reduceNeg, A6]
      exact postX_same (v := .tuple [.int .i32 (IntKind.i32.wrap (madeX ((s.drop k).take n))), .int .i64 (n : Nat)]) (by simp +contextual only [vq, vc, ve, vv, vn, vl, ↓reduceIte, Nat.reduceEqDiff, Nat.reduceAdd, Nat.reduceMul, Nat.reduceSub, Nat.reduceLeDiff, Nat.reduceLT, reduceCtorEq, Int.reduceBEq, Int.reduceBNe, Int.reduceLT, Int.reduceLE, Int.reduceEq, Int.reduceToNat, Int.reduceAdd, Int.reduceSub, Int.reduceNeg]) hl0 rfl ⟨_, by rw [hy]⟩
    · simp +contextual only [vq, vc, ve, vv, vn, vl, ↓reduceIte, Nat.reduceEqDiff, Nat.reduceAdd, Nat.reduceMul, Nat.reduceSub, Nat.reduceLeDiff, Nat.reduceLT, reduceCtorEq, Int.reduceBEq, Int.reduceBNe, Int.reduceLT, Int.reduceLE, Int.reduceEq, Int.reduceToNat, Int.reduceAdd, Int.reduceSub, Int.reduceNeg, A6, wsucc (n := 5) (show n < 5 by omega) (by omega)]
      exact again2 hJ (5 - (n + 1)) (by omega) ⟨n + 1, _, rfl, rfl, by omega, by omega, by simp +contextual only [vq, vc, ve, vv, vn, vl, ↓reduceIte, Nat.reduceEqDiff, Nat.reduceAdd, Nat.reduceMul, Nat.reduceSub, Nat.reduceLeDiff, Nat.reduceLT, reduceCtorEq, Int.reduceBEq, Int.reduceBNe, Int.reduceLT, Int.reduceLE, Int.reduceEq, Int.reduceToNat, Int.reduceAdd, Int.reduceSub, Int.reduceNeg, A0], by simp +contextual only [vq, vc, ve, vv, vn, vl, ↓reduceIte, Nat.reduceEqDiff, Nat.reduceAdd, Nat.reduceMul, Nat.reduceSub, Nat.reduceLeDiff, Nat.reduceLT, reduceCtorEq, Int.reduceBEq, Int.reduceBNe, Int.reduceLT, Int.reduceLE, Int.reduceEq, Int.reduceToNat, Int.reduceAdd, Int.reduceSub, Int.reduceNeg, A1], by simp +contextual only [vq, vc, ve, vv, vn, vl, ↓reduceIte, Nat.reduceEqDiff, Nat.reduceAdd, Nat.reduceMul, Nat.reduceSub, Nat.reduceLeDiff, Nat.reduceLT, reduceCtorEq, Int.reduceBEq, Int.reduceBNe, Int.reduceLT, Int.reduceLE, Int.reduceEq, Int.reduceToNat, Int.reduceAdd, Int.reduceSub, Int.reduceNeg], fun j h1 h2 => by
        by_cases hj : j = n
        · rw [hj]; exact hno'
        · exact hno j h1 (by omega)⟩
  · have h0 : wf (s.drop k) = 0 := by
      by_cases hz : wf (s.drop k) = 0
      · exact hz
      · have := hno (wf (s.drop k)) (by omega)
        omega
    have k1 : (decide (n ≤ 4) && decide (k + n ≤ s.length)) = false := by
      simp only [Bool.and_eq_false_iff, decide_eq_false_iff_not]
      omega
    simp +contextual only [vq, vc, ve, vv, vn, vl, ↓reduceIte, Nat.reduceEqDiff, Nat.reduceAdd, Nat.reduceMul, Nat.reduceSub, Nat.reduceLeDiff, Nat.reduceLT, reduceCtorEq, Int.reduceBEq, Int.reduceBNe, Int.reduceLT, Int.reduceLE, Int.reduceEq, Int.reduceToNat, Int.reduceAdd, Int.reduceSub, Int.reduceNeg, A0, A1, A6, hw, e4, k1]
    exact postX_same (v := .tuple [.int .i32 0, .int .i64 ((0 : Nat) : Int)]) (by simp +contextual only [vq, vc, ve, vv, vn, vl, ↓reduceIte, Nat.reduceEqDiff, Nat.reduceAdd, Nat.reduceMul, Nat.reduceSub, Nat.reduceLeDiff, Nat.reduceLT, reduceCtorEq, Int.reduceBEq, Int.reduceBNe, Int.reduceLT, Int.reduceLE, Int.reduceEq, Int.reduceToNat, Int.reduceAdd, Int.reduceSub, Int.reduceNeg]; rfl) hl0 rfl ⟨0, by rw [h0]⟩

theorem good_fuel {f g : Nat} {l : List UInt8} (hf : l.length ≤ f) (hg : l.length ≤ g) : good f l = good g l := by
  have h1 := pb_good f l 0 0 0 0 hf
  have h2 := pb_good g l 0 0 0 0 hg
  omega
theorem good_none {f : Nat} {l : List UInt8} (h : wf l = 0) : good f l = 0 := by
  cases f with
  | zero => rfl
  | succ f => simp only [good, h]
theorem good_next {f : Nat} {l : List UInt8} (h : wf l ≠ 0) : good (f + 1) l = wf l + good f (l.drop (wf l)) := by
  simp only [good]
  split
  · rename_i h0
    exact absurd h0 h
  · rename_i n hn
    rw [hn]
/-- Where the first wrong UTF-8 begins, by the reference. -/
theorem c_r05_Bad (m : Mem) (s : List UInt8) (a : Ad) (cap : Nat) (hN : s.length ≤ 1000000000000) (hcap : s.length ≤ cap) (hg0 : m.getN G a s.length = some (bytesE s)) (ho : oldAd m.bl.length a = true) :
    Go.Ev.Comes T G f_r05_Bad [.slice (some a) s.length cap 1] m none ⟨.val (.int .i64 (good s.length s : Nat)), m, none⟩ := by
  refine comes2 T_r05_Bad rfl fun M hg hlen hlow => ?_
  have hgM := getN_grown hg hg0
  have oM := oldAd_le ho hg.le
  have hl0 : m.bl.length ≤ M.low := by omega
  simp only [F_r05_Bad]
  simp +contextual only [vq, vc, ve, vv, vn, vl, ↓reduceIte, Nat.reduceEqDiff, Nat.reduceAdd, Nat.reduceMul, Nat.reduceSub, Nat.reduceLeDiff, Nat.reduceLT, reduceCtorEq, Int.reduceBEq, Int.reduceBNe, Int.reduceLT, Int.reduceLE, Int.reduceEq, Int.reduceToNat, Int.reduceAdd, Int.reduceSub, Int.reduceNeg]
  refine loop2 (fun q st => ∃ k A, st = ⟨A, M, [], none⟩ ∧ q = s.length - k ∧ k ≤ s.length ∧ A 0 = .slice (some a) s.length cap 1 ∧ A 3 = .int .i64 (k : Nat) ∧ k + good s.length (s.drop k) = good s.length s) s.length ⟨0, _, rfl, by omega, by omega, by simp +contextual only [vq, vc, ve, vv, vn, vl, ↓reduceIte, Nat.reduceEqDiff, Nat.reduceAdd, Nat.reduceMul, Nat.reduceSub, Nat.reduceLeDiff, Nat.reduceLT, reduceCtorEq, Int.reduceBEq, Int.reduceBNe, Int.reduceLT, Int.reduceLE, Int.reduceEq, Int.reduceToNat, Int.reduceAdd, Int.reduceSub, Int.reduceNeg], by simp +contextual only [vq, vc, ve, vv, vn, vl, ↓reduceIte, Nat.reduceEqDiff, Nat.reduceAdd, Nat.reduceMul, Nat.reduceSub, Nat.reduceLeDiff, Nat.reduceLT, reduceCtorEq, Int.reduceBEq, Int.reduceBNe, Int.reduceLT, Int.reduceLE, Int.reduceEq, Int.reduceToNat, Int.reduceAdd, Int.reduceSub, Int.reduceNeg]; rfl, by simp⟩ fun J hJ q st hI => ?_
  obtain ⟨k, A, rfl, rfl, hk, A0, A3, hR⟩ := hI
  have hwf := wf_le (s.drop k)
  rw [List.length_drop] at hwf
  obtain ⟨x, hc⟩ := c_r05_One M s a cap k hk hN hcap hgM oM
  simp +contextual only [vq, vc, ve, vv, vn, vl, ↓reduceIte, Nat.reduceEqDiff, Nat.reduceAdd, Nat.reduceMul, Nat.reduceSub, Nat.reduceLeDiff, Nat.reduceLT, reduceCtorEq, Int.reduceBEq, Int.reduceBNe, Int.reduceLT, Int.reduceLE, Int.reduceEq, Int.reduceToNat, Int.reduceAdd, Int.reduceSub, Int.reduceNeg, A0, A3, callR_val hc]
  refine br2_mk (fun h0 => ?_) (fun h0 => ?_)
  · have h0 : wf (s.drop k) = 0 := by simpa using h0
    rw [good_none h0, Nat.add_zero] at hR
    simp +contextual only [vq, vc, ve, vv, vn, vl, ↓reduceIte, Nat.reduceEqDiff, Nat.reduceAdd, Nat.reduceMul, Nat.reduceSub, Nat.reduceLeDiff, Nat.reduceLT, reduceCtorEq, Int.reduceBEq, Int.reduceBNe, Int.reduceLT, Int.reduceLE, Int.reduceEq, Int.reduceToNat, Int.reduceAdd, Int.reduceSub, Int.reduceNeg, A3, hl0, hR]
  · have h0 : wf (s.drop k) ≠ 0 := by simpa using h0
    simp +contextual only [vq, vc, ve, vv, vn, vl, ↓reduceIte, Nat.reduceEqDiff, Nat.reduceAdd, Nat.reduceMul, Nat.reduceSub, Nat.reduceLeDiff, Nat.reduceLT, reduceCtorEq, Int.reduceBEq, Int.reduceBNe, Int.reduceLT, Int.reduceLE, Int.reduceEq, Int.reduceToNat, Int.reduceAdd, Int.reduceSub, Int.reduceNeg, A3, wrap_of (show (k : Int) + (wf (s.drop k) : Int) = ((k + wf (s.drop k) : Nat) : Int) by omega) (by omega)]
    refine again2 hJ (s.length - (k + wf (s.drop k))) (by omega) ⟨k + wf (s.drop k), _, rfl, rfl, by omega, by simp +contextual only [vq, vc, ve, vv, vn, vl, ↓reduceIte, Nat.reduceEqDiff, Nat.reduceAdd, Nat.reduceMul, Nat.reduceSub, Nat.reduceLeDiff, Nat.reduceLT, reduceCtorEq, Int.reduceBEq, Int.reduceBNe, Int.reduceLT, Int.reduceLE, Int.reduceEq, Int.reduceToNat, Int.reduceAdd, Int.reduceSub, Int.reduceNeg, A0], by simp +contextual only [vq, vc, ve, vv, vn, vl, ↓reduceIte, Nat.reduceEqDiff, Nat.reduceAdd, Nat.reduceMul, Nat.reduceSub, Nat.reduceLeDiff, Nat.reduceLT, reduceCtorEq, Int.reduceBEq, Int.reduceBNe, Int.reduceLT, Int.reduceLE, Int.reduceEq, Int.reduceToNat, Int.reduceAdd, Int.reduceSub, Int.reduceNeg], ?_⟩
    rw [← hR]
    obtain ⟨f, hf⟩ : ∃ f, s.length = f + 1 := ⟨s.length - 1, by omega⟩
    have e1 : good s.length (s.drop k) = wf (s.drop k) + good f ((s.drop k).drop (wf (s.drop k))) := by rw [hf]; exact good_next h0
    rw [e1, List.drop_drop]
    have e2 : good s.length (s.drop (k + wf (s.drop k))) = good f (s.drop (k + wf (s.drop k))) := good_fuel (by rw [List.length_drop]; omega) (by rw [List.length_drop]; omega)
    omega
end Go.Proofs.YtjlpfijbnflknaaDoor.paramPrints

namespace Go.Proofs.YtjlpfijbnflknaaDoor.paramPrints
open Go.Ev hiding Comes

/-- A value's byte that may stand. -/
def okB (w : Bool) (b : UInt8) : Bool := isF 14 b.toNat && w || isF 8 b.toNat
/-- Where a value is wrong; -1: nowhere. -/
def badV (w : Bool) (s : List UInt8) : Int :=
  if s = [] then 0 else if (s.takeWhile (okB w)).length < s.length then (s.takeWhile (okB w)).length
  else if good s.length s < s.length then good s.length s else -1
theorem badV_at {w : Bool} {s : List UInt8} {i : Nat} (hi : i < s.length) (hall : ∀ x ∈ s.take i, okB w x = true) (hb : okB w s[i] = false) : badV w s = i := by
  have e := tw_at hall (List.getElem?_eq_getElem hi) hb
  have h0 : s ≠ [] := by rintro rfl; simp at hi
  rw [badV, if_neg h0, if_pos (by omega), e]
theorem badV_on {w : Bool} {s : List UInt8} (h0 : s ≠ []) (hall : ∀ x ∈ s, okB w x = true) : badV w s = if good s.length s < s.length then (good s.length s : Int) else -1 := by
  rw [badV, if_neg h0, if_neg (by rw [tw_end hall]; omega)]

theorem c_param_badValue (m : Mem) (s : List UInt8) (w : Bool) (hN : s.length ≤ 1000000000000) : Go.Ev.Comes T G f_param_badValue [.str s, .bool w] m none ⟨.val (.int .i64 (badV w s)), m, none⟩ := by
  refine comes2 T_param_badValue rfl fun M hg hlen hlow => ?_
  have hl : m.bl.length ≤ M.low := by omega
  simp only [F_param_badValue]
  simp +contextual only [vq, vc, ve, vv, vn, vl, ↓reduceIte, Nat.reduceEqDiff, Nat.reduceAdd, Nat.reduceMul, Nat.reduceSub, Nat.reduceLeDiff, Nat.reduceLT, reduceCtorEq, Int.reduceBEq, Int.reduceBNe, Int.reduceLT, Int.reduceLE, Int.reduceEq, Int.reduceToNat, Int.reduceAdd, Int.reduceSub, Int.reduceNeg]
  refine br2_mk (fun h => ?_) (fun h => ?_)
  · have h0 : s = [] := by simpa using h
    have hv : badV w s = 0 := if_pos h0
    simp +contextual only [vq, vc, ve, vv, vn, vl, ↓reduceIte, Nat.reduceEqDiff, Nat.reduceAdd, Nat.reduceMul, Nat.reduceSub, Nat.reduceLeDiff, Nat.reduceLT, reduceCtorEq, Int.reduceBEq, Int.reduceBNe, Int.reduceLT, Int.reduceLE, Int.reduceEq, Int.reduceToNat, Int.reduceAdd, Int.reduceSub, Int.reduceNeg, hv, hl]
  have h0 : s ≠ [] := by simpa using h
  simp +contextual only [vq, vc, ve, vv, vn, vl, ↓reduceIte, Nat.reduceEqDiff, Nat.reduceAdd, Nat.reduceMul, Nat.reduceSub, Nat.reduceLeDiff, Nat.reduceLT, reduceCtorEq, Int.reduceBEq, Int.reduceBNe, Int.reduceLT, Int.reduceLE, Int.reduceEq, Int.reduceToNat, Int.reduceAdd, Int.reduceSub, Int.reduceNeg]
  refine loop2 (fun n st => ∃ i A, st = ⟨A, M, [], none⟩ ∧ n = s.length - i ∧ i ≤ s.length ∧ A 0 = .str s ∧ A 1 = .bool w ∧ A 10 = .int .i64 s.length ∧ A 11 = .int .i64 i ∧ ∀ x ∈ s.take i, okB w x = true) s.length ⟨0, _, rfl, by omega, by omega, by simp +contextual only [vq, vc, ve, vv, vn, vl, ↓reduceIte, Nat.reduceEqDiff, Nat.reduceAdd, Nat.reduceMul, Nat.reduceSub, Nat.reduceLeDiff, Nat.reduceLT, reduceCtorEq, Int.reduceBEq, Int.reduceBNe, Int.reduceLT, Int.reduceLE, Int.reduceEq, Int.reduceToNat, Int.reduceAdd, Int.reduceSub, Int.reduceNeg], by simp +contextual only [vq, vc, ve, vv, vn, vl, ↓reduceIte, Nat.reduceEqDiff, Nat.reduceAdd, Nat.reduceMul, Nat.reduceSub, Nat.reduceLeDiff, Nat.reduceLT, reduceCtorEq, Int.reduceBEq, Int.reduceBNe, Int.reduceLT, Int.reduceLE, Int.reduceEq, Int.reduceToNat, Int.reduceAdd, Int.reduceSub, Int.reduceNeg], by simp +contextual only [vq, vc, ve, vv, vn, vl, ↓reduceIte, Nat.reduceEqDiff, Nat.reduceAdd, Nat.reduceMul, Nat.reduceSub, Nat.reduceLeDiff, Nat.reduceLT, reduceCtorEq, Int.reduceBEq, Int.reduceBNe, Int.reduceLT, Int.reduceLE, Int.reduceEq, Int.reduceToNat, Int.reduceAdd, Int.reduceSub, Int.reduceNeg], by simp +contextual only [vq, vc, ve, vv, vn, vl, ↓reduceIte, Nat.reduceEqDiff, Nat.reduceAdd, Nat.reduceMul, Nat.reduceSub, Nat.reduceLeDiff, Nat.reduceLT, reduceCtorEq, Int.reduceBEq, Int.reduceBNe, Int.reduceLT, Int.reduceLE, Int.reduceEq, Int.reduceToNat, Int.reduceAdd, Int.reduceSub, Int.reduceNeg]; rfl, by simp⟩ fun J hJ n st hI => ?_
  obtain ⟨i, A, rfl, rfl, hi, A0, A1, A10, A11, hall⟩ := hI
  simp +contextual only [vq, vc, ve, vv, vn, vl, ↓reduceIte, Nat.reduceEqDiff, Nat.reduceAdd, Nat.reduceMul, Nat.reduceSub, Nat.reduceLeDiff, Nat.reduceLT, reduceCtorEq, Int.reduceBEq, Int.reduceBNe, Int.reduceLT, Int.reduceLE, Int.reduceEq, Int.reduceToNat, Int.reduceAdd, Int.reduceSub, Int.reduceNeg, A10, A11]
  refine br2_dec (fun hlt => ?_) (fun hge => ?_)
  · have hb : s[i]? = some s[i] := List.getElem?_eq_getElem hlt
    have hw : IntKind.i64.wrap ((i : Int) + 1) = ((i + 1 : Nat) : Int) := wrap_of (by omega) (by omega)
    simp +contextual only [vq, vc, ve, vv, vn, vl, ↓reduceIte, Nat.reduceEqDiff, Nat.reduceAdd, Nat.reduceMul, Nat.reduceSub, Nat.reduceLeDiff, Nat.reduceLT, reduceCtorEq, Int.reduceBEq, Int.reduceBNe, Int.reduceLT, Int.reduceLE, Int.reduceEq, Int.reduceToNat, Int.reduceAdd, Int.reduceSub, Int.reduceNeg, A0, A1, A11, hb, callR_val (c_octet_Is _ _ _)]
    refine br2_mk (fun hk => ?_) (fun hk => ?_)
    · simp +contextual only [vq, vc, ve, vv, vn, vl, ↓reduceIte, Nat.reduceEqDiff, Nat.reduceAdd, Nat.reduceMul, Nat.reduceSub, Nat.reduceLeDiff, Nat.reduceLT, reduceCtorEq, Int.reduceBEq, Int.reduceBNe, Int.reduceLT, Int.reduceLE, Int.reduceEq, Int.reduceToNat, Int.reduceAdd, Int.reduceSub, Int.reduceNeg, A11, hw]
      exact again2 hJ (s.length - (i + 1)) (by omega) ⟨i + 1, _, rfl, rfl, by omega, by simp +contextual only [vq, vc, ve, vv, vn, vl, ↓reduceIte, Nat.reduceEqDiff, Nat.reduceAdd, Nat.reduceMul, Nat.reduceSub, Nat.reduceLeDiff, Nat.reduceLT, reduceCtorEq, Int.reduceBEq, Int.reduceBNe, Int.reduceLT, Int.reduceLE, Int.reduceEq, Int.reduceToNat, Int.reduceAdd, Int.reduceSub, Int.reduceNeg, A0], by simp +contextual only [vq, vc, ve, vv, vn, vl, ↓reduceIte, Nat.reduceEqDiff, Nat.reduceAdd, Nat.reduceMul, Nat.reduceSub, Nat.reduceLeDiff, Nat.reduceLT, reduceCtorEq, Int.reduceBEq, Int.reduceBNe, Int.reduceLT, Int.reduceLE, Int.reduceEq, Int.reduceToNat, Int.reduceAdd, Int.reduceSub, Int.reduceNeg, A1], by simp +contextual only [vq, vc, ve, vv, vn, vl, ↓reduceIte, Nat.reduceEqDiff, Nat.reduceAdd, Nat.reduceMul, Nat.reduceSub, Nat.reduceLeDiff, Nat.reduceLT, reduceCtorEq, Int.reduceBEq, Int.reduceBNe, Int.reduceLT, Int.reduceLE, Int.reduceEq, Int.reduceToNat, Int.reduceAdd, Int.reduceSub, Int.reduceNeg, A10], by simp +contextual only [vq, vc, ve, vv, vn, vl, ↓reduceIte, Nat.reduceEqDiff, Nat.reduceAdd, Nat.reduceMul, Nat.reduceSub, Nat.reduceLeDiff, Nat.reduceLT, reduceCtorEq, Int.reduceBEq, Int.reduceBNe, Int.reduceLT, Int.reduceLE, Int.reduceEq, Int.reduceToNat, Int.reduceAdd, Int.reduceSub, Int.reduceNeg], take_next hlt hall hk⟩
    · simp +contextual only [vq, vc, ve, vv, vn, vl, ↓reduceIte, Nat.reduceEqDiff, Nat.reduceAdd, Nat.reduceMul, Nat.reduceSub, Nat.reduceLeDiff, Nat.reduceLT, reduceCtorEq, Int.reduceBEq, Int.reduceBNe, Int.reduceLT, Int.reduceLE, Int.reduceEq, Int.reduceToNat, Int.reduceAdd, Int.reduceSub, Int.reduceNeg, A11, hl, badV_at hlt hall hk]
  · have he : i = s.length := by omega
    subst he
    rw [List.take_length] at hall
    simp +contextual only [vq, vc, ve, vv, vn, vl, ↓reduceIte, Nat.reduceEqDiff, Nat.reduceAdd, Nat.reduceMul, Nat.reduceSub, Nat.reduceLeDiff, Nat.reduceLT, reduceCtorEq, Int.reduceBEq, Int.reduceBNe, Int.reduceLT, Int.reduceLE, Int.reduceEq, Int.reduceToNat, Int.reduceAdd, Int.reduceSub, Int.reduceNeg, A0, callR_val (c_runes_Bad_string _ _ hN)]
    refine br2_dec (fun hk => ?_) (fun hk => ?_)
    · simp +contextual only [vq, vc, ve, vv, vn, vl, ↓reduceIte, Nat.reduceEqDiff, Nat.reduceAdd, Nat.reduceMul, Nat.reduceSub, Nat.reduceLeDiff, Nat.reduceLT, reduceCtorEq, Int.reduceBEq, Int.reduceBNe, Int.reduceLT, Int.reduceLE, Int.reduceEq, Int.reduceToNat, Int.reduceAdd, Int.reduceSub, Int.reduceNeg, hl, badV_on h0 hall, hk]
    · simp +contextual only [vq, vc, ve, vv, vn, vl, ↓reduceIte, Nat.reduceEqDiff, Nat.reduceAdd, Nat.reduceMul, Nat.reduceSub, Nat.reduceLeDiff, Nat.reduceLT, reduceCtorEq, Int.reduceBEq, Int.reduceBNe, Int.reduceLT, Int.reduceLE, Int.reduceEq, Int.reduceToNat, Int.reduceAdd, Int.reduceSub, Int.reduceNeg, hl, badV_on h0 hall, hk]

theorem okR (w : Bool) (b : UInt8) : ((decide ((b.toNat : Int) < 128) && !isF 8 b.toNat) || (decide (128 ≤ (b.toNat : Int)) && !w)) = !okB w b := by
  have h : ∀ (w : Bool) (n : Fin 256), ((decide ((n.val : Int) < 128) && !isF 8 n.val) || (decide (128 ≤ (n.val : Int)) && !w)) = !(isF 14 n.val && w || isF 8 n.val) := by decide +kernel
  exact h w ⟨b.toNat, b.toNat_lt⟩

theorem c_r10_value (m : Mem) (s : List UInt8) (w : Bool) (hN : s.length ≤ 1000000000000) : Go.Ev.Comes T G f_r10_value [.str s, .bool w] m none ⟨.val (.int .i64 (badV w s)), m, none⟩ := by
  have c8 := fun m b => c_r01_Is m 8 b (by omega)
  refine comes2 T_r10_value rfl fun M hg hlen hlow => ?_
  have hl : m.bl.length ≤ M.low := by omega
  simp only [F_r10_value]
  simp +contextual only [vq, vc, ve, vv, vn, vl, ↓reduceIte, Nat.reduceEqDiff, Nat.reduceAdd, Nat.reduceMul, Nat.reduceSub, Nat.reduceLeDiff, Nat.reduceLT, reduceCtorEq, Int.reduceBEq, Int.reduceBNe, Int.reduceLT, Int.reduceLE, Int.reduceEq, Int.reduceToNat, Int.reduceAdd, Int.reduceSub, Int.reduceNeg]
  refine br2_mk (fun h => ?_) (fun h => ?_)
  · have h0 : s = [] := by simpa using h
    have hv : badV w s = 0 := if_pos h0
    simp +contextual only [vq, vc, ve, vv, vn, vl, ↓reduceIte, Nat.reduceEqDiff, Nat.reduceAdd, Nat.reduceMul, Nat.reduceSub, Nat.reduceLeDiff, Nat.reduceLT, reduceCtorEq, Int.reduceBEq, Int.reduceBNe, Int.reduceLT, Int.reduceLE, Int.reduceEq, Int.reduceToNat, Int.reduceAdd, Int.reduceSub, Int.reduceNeg, hv, hl]
  have h0 : s ≠ [] := by simpa using h
  simp +contextual only [vq, vc, ve, vv, vn, vl, ↓reduceIte, Nat.reduceEqDiff, Nat.reduceAdd, Nat.reduceMul, Nat.reduceSub, Nat.reduceLeDiff, Nat.reduceLT, reduceCtorEq, Int.reduceBEq, Int.reduceBNe, Int.reduceLT, Int.reduceLE, Int.reduceEq, Int.reduceToNat, Int.reduceAdd, Int.reduceSub, Int.reduceNeg]
  refine loop2 (fun n st => ∃ i A, st = ⟨A, M, [], none⟩ ∧ n = s.length - i ∧ i ≤ s.length ∧ A 0 = .str s ∧ A 1 = .bool w ∧ A 5 = .int .i64 i ∧ ∀ x ∈ s.take i, okB w x = true) s.length ⟨0, _, rfl, by omega, by omega, by simp +contextual only [vq, vc, ve, vv, vn, vl, ↓reduceIte, Nat.reduceEqDiff, Nat.reduceAdd, Nat.reduceMul, Nat.reduceSub, Nat.reduceLeDiff, Nat.reduceLT, reduceCtorEq, Int.reduceBEq, Int.reduceBNe, Int.reduceLT, Int.reduceLE, Int.reduceEq, Int.reduceToNat, Int.reduceAdd, Int.reduceSub, Int.reduceNeg], by simp +contextual only [vq, vc, ve, vv, vn, vl, ↓reduceIte, Nat.reduceEqDiff, Nat.reduceAdd, Nat.reduceMul, Nat.reduceSub, Nat.reduceLeDiff, Nat.reduceLT, reduceCtorEq, Int.reduceBEq, Int.reduceBNe, Int.reduceLT, Int.reduceLE, Int.reduceEq, Int.reduceToNat, Int.reduceAdd, Int.reduceSub, Int.reduceNeg], by simp +contextual only [vq, vc, ve, vv, vn, vl, ↓reduceIte, Nat.reduceEqDiff, Nat.reduceAdd, Nat.reduceMul, Nat.reduceSub, Nat.reduceLeDiff, Nat.reduceLT, reduceCtorEq, Int.reduceBEq, Int.reduceBNe, Int.reduceLT, Int.reduceLE, Int.reduceEq, Int.reduceToNat, Int.reduceAdd, Int.reduceSub, Int.reduceNeg]; rfl, by simp⟩ fun J hJ n st hI => ?_
  obtain ⟨i, A, rfl, rfl, hi, A0, A1, A5, hall⟩ := hI
  simp +contextual only [vq, vc, ve, vv, vn, vl, ↓reduceIte, Nat.reduceEqDiff, Nat.reduceAdd, Nat.reduceMul, Nat.reduceSub, Nat.reduceLeDiff, Nat.reduceLT, reduceCtorEq, Int.reduceBEq, Int.reduceBNe, Int.reduceLT, Int.reduceLE, Int.reduceEq, Int.reduceToNat, Int.reduceAdd, Int.reduceSub, Int.reduceNeg, A0, A5]
  refine br2_dec (fun hlt => ?_) (fun hge => ?_)
  · have hb : s[i]? = some s[i] := List.getElem?_eq_getElem hlt
    have hw : IntKind.i64.wrap ((i : Int) + 1) = ((i + 1 : Nat) : Int) := wrap_of (by omega) (by omega)
    simp +contextual only [vq, vc, ve, vv, vn, vl, ↓reduceIte, Nat.reduceEqDiff, Nat.reduceAdd, Nat.reduceMul, Nat.reduceSub, Nat.reduceLeDiff, Nat.reduceLT, reduceCtorEq, Int.reduceBEq, Int.reduceBNe, Int.reduceLT, Int.reduceLE, Int.reduceEq, Int.reduceToNat, Int.reduceAdd, Int.reduceSub, Int.reduceNeg, A0, A1, A5, hb, callR_val (c8 _ _), okR]
    refine br2_mk (fun hk => ?_) (fun hk => ?_)
    · have hk : okB w s[i] = false := by simpa using hk
      simp +contextual only [vq, vc, ve, vv, vn, vl, ↓reduceIte, Nat.reduceEqDiff, Nat.reduceAdd, Nat.reduceMul, Nat.reduceSub, Nat.reduceLeDiff, Nat.reduceLT, reduceCtorEq, Int.reduceBEq, Int.reduceBNe, Int.reduceLT, Int.reduceLE, Int.reduceEq, Int.reduceToNat, Int.reduceAdd, Int.reduceSub, Int.reduceNeg, A5, hl, badV_at hlt hall hk]
    · have hk : okB w s[i] = true := by simpa using hk
      simp +contextual only [vq, vc, ve, vv, vn, vl, ↓reduceIte, Nat.reduceEqDiff, Nat.reduceAdd, Nat.reduceMul, Nat.reduceSub, Nat.reduceLeDiff, Nat.reduceLT, reduceCtorEq, Int.reduceBEq, Int.reduceBNe, Int.reduceLT, Int.reduceLE, Int.reduceEq, Int.reduceToNat, Int.reduceAdd, Int.reduceSub, Int.reduceNeg, A5, hw]
      exact again2 hJ (s.length - (i + 1)) (by omega) ⟨i + 1, _, rfl, rfl, by omega, by simp +contextual only [vq, vc, ve, vv, vn, vl, ↓reduceIte, Nat.reduceEqDiff, Nat.reduceAdd, Nat.reduceMul, Nat.reduceSub, Nat.reduceLeDiff, Nat.reduceLT, reduceCtorEq, Int.reduceBEq, Int.reduceBNe, Int.reduceLT, Int.reduceLE, Int.reduceEq, Int.reduceToNat, Int.reduceAdd, Int.reduceSub, Int.reduceNeg, A0], by simp +contextual only [vq, vc, ve, vv, vn, vl, ↓reduceIte, Nat.reduceEqDiff, Nat.reduceAdd, Nat.reduceMul, Nat.reduceSub, Nat.reduceLeDiff, Nat.reduceLT, reduceCtorEq, Int.reduceBEq, Int.reduceBNe, Int.reduceLT, Int.reduceLE, Int.reduceEq, Int.reduceToNat, Int.reduceAdd, Int.reduceSub, Int.reduceNeg, A1], by simp +contextual only [vq, vc, ve, vv, vn, vl, ↓reduceIte, Nat.reduceEqDiff, Nat.reduceAdd, Nat.reduceMul, Nat.reduceSub, Nat.reduceLeDiff, Nat.reduceLT, reduceCtorEq, Int.reduceBEq, Int.reduceBNe, Int.reduceLT, Int.reduceLE, Int.reduceEq, Int.reduceToNat, Int.reduceAdd, Int.reduceSub, Int.reduceNeg], take_next hlt hall hk⟩
  · have he : i = s.length := by omega
    subst he
    rw [List.take_length] at hall
    simp +contextual only [vq, vc, ve, vv, vn, vl, ↓reduceIte, Nat.reduceEqDiff, Nat.reduceAdd, Nat.reduceMul, Nat.reduceSub, Nat.reduceLeDiff, Nat.reduceLT, reduceCtorEq, Int.reduceBEq, Int.reduceBNe, Int.reduceLT, Int.reduceLE, Int.reduceEq, Int.reduceToNat, Int.reduceAdd, Int.reduceSub, Int.reduceNeg, A0]
    refine new_mk fun M2 e2 => ?_
    have g2 : M2.getN G ⟨.mem M.bl.length 0, 0⟩ s.length = some (bytesE s) := by rw [e2]; exact getN_row (row_push _ _) (sub_all bytes_len)
    have hl2 : m.bl.length ≤ M2.low := by rw [e2]; exact hl
    have ho : oldAd M2.bl.length ⟨.mem M.bl.length 0, 0⟩ = true := by rw [e2]; simp [oldAd, Mem.push]
    simp +contextual only [vq, vc, ve, vv, vn, vl, ↓reduceIte, Nat.reduceEqDiff, Nat.reduceAdd, Nat.reduceMul, Nat.reduceSub, Nat.reduceLeDiff, Nat.reduceLT, reduceCtorEq, Int.reduceBEq, Int.reduceBNe, Int.reduceLT, Int.reduceLE, Int.reduceEq, Int.reduceToNat, Int.reduceAdd, Int.reduceSub, Int.reduceNeg, callR_val (c_r05_Bad M2 s _ _ hN (Nat.le_refl _) g2 ho), A0]
    refine br2_dec (fun hk => ?_) (fun hk => ?_)
    · simp +contextual only [vq, vc, ve, vv, vn, vl, ↓reduceIte, Nat.reduceEqDiff, Nat.reduceAdd, Nat.reduceMul, Nat.reduceSub, Nat.reduceLeDiff, Nat.reduceLT, reduceCtorEq, Int.reduceBEq, Int.reduceBNe, Int.reduceLT, Int.reduceLE, Int.reduceEq, Int.reduceToNat, Int.reduceAdd, Int.reduceSub, Int.reduceNeg, hl2, badV_on h0 hall, hk]
    · simp +contextual only [vq, vc, ve, vv, vn, vl, ↓reduceIte, Nat.reduceEqDiff, Nat.reduceAdd, Nat.reduceMul, Nat.reduceSub, Nat.reduceLeDiff, Nat.reduceLT, reduceCtorEq, Int.reduceBEq, Int.reduceBNe, Int.reduceLT, Int.reduceLE, Int.reduceEq, Int.reduceToNat, Int.reduceAdd, Int.reduceSub, Int.reduceNeg, hl2, badV_on h0 hall, hk]
end Go.Proofs.YtjlpfijbnflknaaDoor.paramPrints

namespace Go.Proofs.YtjlpfijbnflknaaDoor.paramPrints
open Go.Ev hiding Comes

/-- A variable of strings.Builder: its block, where its bytes lie, the bytes. -/
def Bld (k : Option Nat) (m : Mem) (b : Nat) (s : List UInt8) : Prop :=
  ∃ p v, RowG m b genB [p, v] ∧ (p = .ptr none ∨ p = .ptr (some ⟨.mem b genB, 0⟩)) ∧ (∀ j, k = some j → j ≠ b) ∧ OwnK k 1 tagB m v (bytesE s) s.length
theorem Bld.lt {k : Option Nat} {b : Nat} {m : Mem} {s : List UInt8} (h : Bld k m b s) : b < m.bl.length := by
  obtain ⟨_, _, h, _⟩ := h
  exact h.lt
theorem Bld.ltk {j : Nat} {b : Nat} {m : Mem} {s : List UInt8} (h : Bld (some j) m b s) : j < m.bl.length := by
  obtain ⟨_, _, _, _, _, h⟩ := h
  exact h.lt
theorem Bld.grown {k : Option Nat} {b : Nat} {m m' : Mem} {s : List UInt8} (h : Bld k m b s) (hg : Grown m m') : Bld k m' b s := by
  obtain ⟨p, v, h1, h2, h3, h4⟩ := h
  exact ⟨p, v, by unfold RowG; rw [hg.at h1.lt]; exact h1, h2, h3, h4.grown hg⟩
theorem Bld.new {m M : Mem} (e : M = m.push (.cells [.ptr none, .slice none 0 0 0] genB true)) : Bld none M m.bl.length [] := by
  rw [e]
  exact ⟨.ptr none, .slice none 0 0 0, by simp [RowG, Mem.push], .inl rfl, (fun j h => by cases h), OwnK.nil⟩
theorem tagB_ok : TagOk tagB := .inr ⟨tagB / typeK, by decide, rfl⟩
theorem c_abi_NoEscape (m : Mem) (x : EV) : Go.Ev.Comes T G f_abi_NoEscape [x] m none ⟨.val x, m, none⟩ := ⟨1, by simp only [evFun, T_abi_NoEscape, F_abi_NoEscape, Option.isSome_none, Bool.false_eq_true, if_false, primE, noeE, Option.map_some]⟩

theorem c_Builder_copyCheck (m : Mem) (b : Nat) (p v : EV) (h : RowG m b genB [p, v]) (hp : p = .ptr none ∨ p = .ptr (some ⟨.mem b genB, 0⟩)) :
    ∃ r, Go.Ev.Comes T G f_Builder_copyCheck [.ptr (some ⟨.mem b genB, 0⟩)] m none r ∧ ∃ m', r = ⟨.val (.tuple []), m', none⟩ ∧ RowG m' b genB [.ptr (some ⟨.mem b genB, 0⟩), v] ∧ But1 b m m' ∧ min m.low b ≤ m'.low := by
  refine comes2P T_Builder_copyCheck rfl fun M hg hlen hlow => ?_
  have hM := h.same (begin_bl hg hlen)
  have hb := h.lt
  simp only [F_Builder_copyCheck]
  rcases hp with rfl | rfl
  · obtain ⟨M1, p1, R1, t1, w1⟩ := hM.put1 (off := 0) (v := .ptr (some ⟨.mem b genB, 0⟩)) (by simp)
    simp +contextual only [vq, vc, ve, vv, vn, vl, ↓reduceIte, Nat.reduceEqDiff, Nat.reduceAdd, Nat.reduceMul, Nat.reduceSub, Nat.reduceLeDiff, Nat.reduceLT, reduceCtorEq, Int.reduceBEq, Int.reduceBNe, Int.reduceLT, Int.reduceLE, Int.reduceEq, Int.reduceToNat, Int.reduceAdd, Int.reduceSub, Int.reduceNeg, hM.get (G := G), ust_row hM (by simp), callR_val (c_abi_NoEscape _ _), usf_row hM, show usfE M genB 2 (.ptr (some ⟨.mem b genB, 0⟩)) = some (.ptr (some ⟨.mem b genB, 0⟩), M) from usf_row hM, p1]
    refine postX_wroteN (v := .tuple []) rfl (by omega) ⟨_, rfl, R1, ⟨by rw [t1.1]; exact hlen, fun j hj => ?_⟩, by simp only; omega⟩
    show M1.bl[j]? = _
    rw [t1.2 j hj, begin_bl hg hlen]
  · simp +contextual only [vq, vc, ve, vv, vn, vl, ↓reduceIte, Nat.reduceEqDiff, Nat.reduceAdd, Nat.reduceMul, Nat.reduceSub, Nat.reduceLeDiff, Nat.reduceLT, reduceCtorEq, Int.reduceBEq, Int.reduceBNe, Int.reduceLT, Int.reduceLE, Int.reduceEq, Int.reduceToNat, Int.reduceAdd, Int.reduceSub, Int.reduceNeg, hM.get (G := G), ptq_same hM]
    exact postX_sameN (v := .tuple []) rfl (by omega) rfl ⟨_, rfl, h, But1.rfl', by omega⟩
end Go.Proofs.YtjlpfijbnflknaaDoor.paramPrints

namespace Go.Proofs.YtjlpfijbnflknaaDoor.paramPrints
open Go.Ev hiding Comes

theorem c_Builder_WriteString (m : Mem) (k : Option Nat) (b : Nat) (s t : List UInt8) (h : Bld k m b s) (hs : s.length + t.length ≤ 1000000000000) :
    ∃ k' m', Go.Ev.Comes T G f_Builder_WriteString [.ptr (some ⟨.mem b genB, 0⟩), .str t] m none ⟨.val (.tuple [.int .i64 t.length, .nilIface]), m', none⟩ ∧ Bld k' m' b (s ++ t) ∧ (k' = k ∨ k = none ∧ k' = some m.bl.length) ∧ Edit b k m m' := by
  have hlt := h.lt
  obtain ⟨p, v, hR, hp, hk, ho⟩ := h
  suffices H : ∃ r, Go.Ev.Comes T G f_Builder_WriteString [.ptr (some ⟨.mem b genB, 0⟩), .str t] m none r ∧ ∃ k' m', r = ⟨.val (.tuple [.int .i64 t.length, .nilIface]), m', none⟩ ∧ Bld k' m' b (s ++ t) ∧ (k' = k ∨ k = none ∧ k' = some m.bl.length) ∧ Edit b k m m' by
    obtain ⟨_, hc, k', m', rfl, h⟩ := H
    exact ⟨k', m', hc, h⟩
  refine comes2P T_Builder_WriteString rfl fun M hg hlen hlow => ?_
  have hM := begin_bl hg hlen
  obtain ⟨_, hc, M1, rfl, R1, t1, w1⟩ := c_Builder_copyCheck M b p v (hR.same hM) hp
  have b1 := t1.1
  have o1 : OwnK k 1 tagB M1 v (bytesE s) s.length := ho.keep fun j hj => by rw [t1.2 j (hk j hj), hM]
  have hb1 : s.length + t.length = (s ++ t).length := by simp
  have app : ∃ v2 M2 k2, appendE G M1 1 1 tagB v (bytesE t) t.length = some (v2, M2) ∧ OwnK k2 1 tagB M2 v2 (bytesE (s ++ t)) (s ++ t).length ∧ (∀ j, k2 = some j → j ≠ b) ∧ (k2 = k ∨ k = none ∧ k2 = some m.bl.length) ∧ RowG M2 b genB [.ptr (some ⟨.mem b genB, 0⟩), v] ∧ (∀ j, j < M1.bl.length → some j ≠ k → M2.bl[j]? = M1.bl[j]?) ∧ M1.bl.length ≤ M2.bl.length ∧ min M1.low (k.getD M1.bl.length) ≤ M2.low := by
    by_cases h0 : t = []
    · subst h0
      refine ⟨v, M1, k, ?_, by rw [List.append_nil]; exact o1, hk, .inl rfl, R1, fun _ _ _ => rfl, Nat.le_refl _, by omega⟩
      rcases o1.row with ⟨rfl, _, _⟩ | ⟨j, g, _, rfl, _⟩ <;> simp [appendE]
    · have ht : t.length ≠ 0 := fun e => h0 (List.length_eq_zero_iff.1 e)
      obtain ⟨v2, M2, k2, ha, o2, hkk, hj, hl2, w2⟩ := own_app (G := G) (bytes := 1) o1 tagB_ok (by omega) (show (bytesE t).length = t.length * 1 by simp [bytesE]) ht (by omega)
      have hlt1 := R1.lt
      refine ⟨v2, M2, some k2, ha, by rw [bytes_app, List.length_append]; exact o2, fun j hj => ?_, ?_, ?_, hj, hl2, ?_⟩
      · cases hj
        rcases hkk with e | ⟨_, e⟩
        · exact hk _ e
        · omega
      · rcases hkk with e | ⟨e1, e⟩
        · exact .inl e.symm
        · exact .inr ⟨e1, by rw [e, b1, hlen]⟩
      · unfold RowG
        rw [hj b R1.lt (fun e => hk b e.symm rfl)]
        exact R1
      · rcases hkk with e | ⟨e1, e⟩
        · rw [e]; exact w2
        · rw [e1, ← e]; exact w2
  obtain ⟨v2, M2, k2, ha, o2, hk2, hkk, R2, hsame, hl2, w2⟩ := app
  obtain ⟨a2, c2, e2, rfl⟩ := o2.slice
  obtain ⟨M3, p3, R3, t3, w3⟩ := R2.put1 (off := 1) (v := .slice a2 (s ++ t).length c2 e2) (by simp)
  have b3 := t3.1
  simp only [F_Builder_WriteString]
  simp +contextual only [vq, vc, ve, vv, vn, vl, ↓reduceIte, Nat.reduceEqDiff, Nat.reduceAdd, Nat.reduceMul, Nat.reduceSub, Nat.reduceLeDiff, Nat.reduceLT, reduceCtorEq, Int.reduceBEq, Int.reduceBNe, Int.reduceLT, Int.reduceLE, Int.reduceEq, Int.reduceToNat, Int.reduceAdd, Int.reduceSub, Int.reduceNeg, callR_val hc, R1.get (G := G), ha, p3]
  refine postX_wrote (v := .tuple [.int .i64 t.length, .nilIface]) (by simp +contextual only [vq, vc, ve, vv, vn, vl, ↓reduceIte, Nat.reduceEqDiff, Nat.reduceAdd, Nat.reduceMul, Nat.reduceSub, Nat.reduceLeDiff, Nat.reduceLT, reduceCtorEq, Int.reduceBEq, Int.reduceBNe, Int.reduceLT, Int.reduceLE, Int.reduceEq, Int.reduceToNat, Int.reduceAdd, Int.reduceSub, Int.reduceNeg]) (by omega) ⟨k2, _, rfl, ⟨_, _, R3, .inr rfl, hk2, o2.keep fun j hj => t3.2 j (hk2 j hj)⟩, hkk, fun j h1 h2 h3 => ?_, ?_, fun n0 h1 h2 h3 h4 => ?_⟩
  · show M3.bl[j]? = _
    rw [t3.2 j h2, hsame j (by omega) h3, t1.2 j h2, hM]
  · show m.bl.length ≤ M3.bl.length
    omega
  · show n0 ≤ min m.low M3.low
    have : n0 ≤ k.getD M1.bl.length := by
      cases k with
      | none => simp only [Option.getD_none]; omega
      | some j => exact h4 j rfl
    omega
end Go.Proofs.YtjlpfijbnflknaaDoor.paramPrints

namespace Go.Proofs.YtjlpfijbnflknaaDoor.paramPrints
open Go.Ev hiding Comes

theorem c_Builder_String (m : Mem) (k : Option Nat) (b : Nat) (s : List UInt8) (h : Bld k m b s) (hs : s.length ≤ 1000000000000) :
    ∃ m', Go.Ev.Comes T G f_Builder_String [.ptr (some ⟨.mem b genB, 0⟩)] m none ⟨.val (.str s), m', none⟩ ∧ Edit b k m m' := by
  have hlt := h.lt
  obtain ⟨p, v, hR, hp, hk, ho⟩ := h
  suffices H : ∃ r, Go.Ev.Comes T G f_Builder_String [.ptr (some ⟨.mem b genB, 0⟩)] m none r ∧ ∃ m', r = ⟨.val (.str s), m', none⟩ ∧ Edit b k m m' by
    obtain ⟨_, hc, m', rfl, h2⟩ := H
    exact ⟨m', hc, h2⟩
  refine comes2P T_Builder_String rfl fun M hg hlen hlow => ?_
  have hM := begin_bl hg hlen
  have RM := hR.same hM
  have oM : OwnK k 1 tagB M v (bytesE s) s.length := ho.keep fun j hj => by rw [hM]
  have hold : (b < M.bl.length) = True := eq_true (by omega)
  simp only [F_Builder_String]
  rcases oM.row with ⟨rfl, h2, h3⟩ | ⟨j, g, rfl, rfl, h3, hr⟩
  · have : s = [] := List.length_eq_zero_iff.1 h3
    subst this
    have hu : unsE G ⟨M.bl, M.bl.length⟩ tagB (.ptr none) (.int .i64 ((0 : Nat) : Int)) = some (.str [], ⟨M.bl, M.bl.length⟩) := rfl
    simp +contextual only [vq, vc, ve, vv, vn, vl, ↓reduceIte, Nat.reduceEqDiff, Nat.reduceAdd, Nat.reduceMul, Nat.reduceSub, Nat.reduceLeDiff, Nat.reduceLT, reduceCtorEq, Int.reduceBEq, Int.reduceBNe, Int.reduceLT, Int.reduceLE, Int.reduceEq, Int.reduceToNat, Int.reduceAdd, Int.reduceSub, Int.reduceNeg, RM.get (G := G), hold, hu]
    exact postX_same (v := .str []) (by simp +contextual only [vq, vc, ve, vv, vn, vl, ↓reduceIte, Nat.reduceEqDiff, Nat.reduceAdd, Nat.reduceMul, Nat.reduceSub, Nat.reduceLeDiff, Nat.reduceLT, reduceCtorEq, Int.reduceBEq, Int.reduceBNe, Int.reduceLT, Int.reduceLE, Int.reduceEq, Int.reduceToNat, Int.reduceAdd, Int.reduceSub, Int.reduceNeg]) (by omega) rfl ⟨_, rfl, fun _ _ _ _ => rfl, Nat.le_refl _, fun _ h _ _ _ => h⟩
  · have hk2 := hk j rfl
    have hjl := oM.lt
    obtain ⟨g', _, he, hrl, hrow⟩ := oM
    have hg' : g' = g := by
      simp only [EV.slice.injEq, Option.some.injEq, Ad.mk.injEq, Base.mem.injEq] at he
      omega
    subst hg'
    have hu : unsE G ⟨M.bl, M.bl.length⟩ tagB (.ptr (some ⟨.mem j (tagB + g'), 0⟩)) (.int .i64 (s.length : Nat)) = some (.str s, ⟨M.bl.set j (.cells (bytesE s) (tagB + g') false), min M.bl.length j⟩) := by
      have hgN : Mem.getN G ⟨M.bl, M.bl.length⟩ ⟨.mem j (tagB + g'), 0⟩ s.length = some (bytesE s) := hr G 0 s.length (bytesE s) (sub_all bytes_len)
      have ht := tag_step (g := g') tagB_ok (by omega)
      have hty : typeK ≤ tagB := by decide
      simp only [unsE]
      rw [if_neg (by omega), if_neg (by omega)]
      simp only [hrow]
      rw [if_pos ⟨trivial, by rcases ht.2 with h | h; omega; exact h.1.symm, by omega, trivial⟩, Int.toNat_natCast, hgN]
      simp only [Option.bind_some, strE_of, Option.map_some]
    simp +contextual only [vq, vc, ve, vv, vn, vl, ↓reduceIte, Nat.reduceEqDiff, Nat.reduceAdd, Nat.reduceMul, Nat.reduceSub, Nat.reduceLeDiff, Nat.reduceLT, reduceCtorEq, Int.reduceBEq, Int.reduceBNe, Int.reduceLT, Int.reduceLE, Int.reduceEq, Int.reduceToNat, Int.reduceAdd, Int.reduceSub, Int.reduceNeg, RM.get (G := G), hold, h3, hu]
    rw [endD_wrote (by simp only; omega)]
    simp +contextual only [vq, vc, ve, vv, vn, vl, ↓reduceIte, Nat.reduceEqDiff, Nat.reduceAdd, Nat.reduceMul, Nat.reduceSub, Nat.reduceLeDiff, Nat.reduceLT, reduceCtorEq, Int.reduceBEq, Int.reduceBNe, Int.reduceLT, Int.reduceLE, Int.reduceEq, Int.reduceToNat, Int.reduceAdd, Int.reduceSub, Int.reduceNeg]
    have hj2 := hjl
    refine postX_wrote (v := .str s) (by simp +contextual only [vq, vc, ve, vv, vn, vl, ↓reduceIte, Nat.reduceEqDiff, Nat.reduceAdd, Nat.reduceMul, Nat.reduceSub, Nat.reduceLeDiff, Nat.reduceLT, reduceCtorEq, Int.reduceBEq, Int.reduceBNe, Int.reduceLT, Int.reduceLE, Int.reduceEq, Int.reduceToNat, Int.reduceAdd, Int.reduceSub, Int.reduceNeg]) (by simp only; omega) ⟨_, rfl, fun i h1 h2 h3 => ?_, ?_, fun n0 h1 h2 h3 h4 => ?_⟩
    · simp only
      rw [List.getElem?_set_ne (fun e => h3 (by rw [e])), hM]
    · simp only [List.length_set]; omega
    · have := h4 j rfl
      simp only
      omega
end Go.Proofs.YtjlpfijbnflknaaDoor.paramPrints

namespace Go.Proofs.YtjlpfijbnflknaaDoor.paramPrints
open Go.Ev hiding Comes

/-- What is wrong with a parameter that is to be written: 0: nothing. -/
def parBad (p : Par) : Int := if kwd p.name = 0 ∨ kwd p.name ≠ p.name.length ∨ upS p.name ≠ p.name then 100 else if (p.has && decide (0 ≤ badV true p.value)) || (!p.has && !(p.value == [])) then 101 else 0
def parW (p : Par) : List UInt8 := 32 :: p.name ++ (if p.has = true then 61 :: p.value else [])
/-- Parameters written: the text, and what is wrong. -/
def prs : List Par → List UInt8 × Int
  | [] => ([], 0)
  | p :: l => if parBad p = 0 then (match prs l with
    | (t, 0) => (parW p ++ t, 0)
    | (_, e) => ([], e)) else ([], parBad p)
def printP (l : List Par) : List UInt8 × Int := if 16 < l.length then ([], 4) else prs l
def wrote (l : List Par) : List UInt8 := l.flatMap parW
theorem prs_ok : ∀ {l : List Par}, (∀ p ∈ l, parBad p = 0) → prs l = (wrote l, 0)
  | [], _ => rfl
  | p :: l, h => by
    rw [prs, if_pos (h p (List.mem_cons_self ..)), prs_ok (fun q hq => h q (List.mem_cons_of_mem _ hq))]
    rfl
theorem prs_bad : ∀ {l : List Par} {i : Nat} (hi : i < l.length), (∀ p ∈ l.take i, parBad p = 0) → parBad l[i] ≠ 0 → prs l = ([], parBad l[i])
  | [], _, hi, _, _ => by simp at hi
  | p :: l, 0, _, _, hb => by
    have hb : parBad p ≠ 0 := hb
    show prs (p :: l) = ([], parBad p)
    rw [prs, if_neg hb]
  | p :: l, i + 1, hi, h, hb => by
    rw [prs, if_pos (h p (by simp)), prs_bad (l := l) (i := i) (by simpa using hi) (fun q hq => h q (by simp [hq])) hb]
    split
    · rename_i h0
      simp only [Prod.mk.injEq] at h0
      exact absurd h0.2 hb
    · rename_i t e h0 h1
      simp only [Prod.mk.injEq] at h1
      rw [← h1.2]
      rfl
theorem wrote_next {l : List Par} {i : Nat} (hi : i < l.length) : wrote (l.take (i + 1)) = wrote (l.take i) ++ parW l[i] := by
  rw [List.take_succ_eq_append_getElem hi, wrote, List.flatMap_append]
  simp [wrote]

def ParsOk (l : List Par) : Prop := ∀ p ∈ l, p.name.length ≤ 1000000000 ∧ p.value.length ≤ 1000000000
theorem parW_len {p : Par} (h : p.name.length ≤ 1000000000 ∧ p.value.length ≤ 1000000000) : (parW p).length ≤ 2000000002 := by
  unfold parW
  split <;> simp <;> omega
theorem wrote_len : ∀ {l : List Par}, ParsOk l → (wrote l).length ≤ l.length * 2000000002
  | [], _ => by simp [wrote]
  | p :: l, h => by
    have h1 := parW_len (h p (List.mem_cons_self ..))
    have h2 := wrote_len (l := l) (fun q hq => h q (List.mem_cons_of_mem _ hq))
    simp only [wrote, List.flatMap_cons, List.length_append, List.length_cons] at h2 ⊢
    omega
theorem bad_kw (p : Par) : ((kwd p.name == 0) || (kwd p.name != p.name.length) || !(upS p.name == p.name)) = decide (kwd p.name = 0 ∨ kwd p.name ≠ p.name.length ∨ upS p.name ≠ p.name) := by
  rw [Bool.eq_iff_iff]
  simp [or_assoc]

theorem c_param_Print (m : Mem) (x : EV) (l : List Par) (hx : Pars G m x l) (hN : ParsOk l) : Go.Ev.Comes T G f_param_Print [x] m none ⟨.val (.tuple [.str (printP l).1, .int .i64 (printP l).2]), m, none⟩ := by
  refine comes2 T_param_Print rfl fun M hg hlen hlow => ?_
  have hl0 : m.bl.length ≤ M.low := by omega
  obtain ⟨a0, c0, e0, sx⟩ := hx.slice
  have e16 : ((16 : Int) < (l.length : Int)) = (16 < l.length) := propext ⟨fun h => by omega, fun h => by omega⟩
  simp only [F_param_Print]
  by_cases h16 : 16 < l.length
  · have hp : printP l = ([], 4) := if_pos h16
    simp +contextual only [vq, vc, ve, vv, vn, vl, ↓reduceIte, Nat.reduceEqDiff, Nat.reduceAdd, Nat.reduceMul, Nat.reduceSub, Nat.reduceLeDiff, Nat.reduceLT, reduceCtorEq, Int.reduceBEq, Int.reduceBNe, Int.reduceLT, Int.reduceLE, Int.reduceEq, Int.reduceToNat, Int.reduceAdd, Int.reduceSub, Int.reduceNeg, sx, e16, h16, hp, hl0]
  have hp : printP l = prs l := if_neg h16
  simp +contextual only [vq, vc, ve, vv, vn, vl, ↓reduceIte, Nat.reduceEqDiff, Nat.reduceAdd, Nat.reduceMul, Nat.reduceSub, Nat.reduceLeDiff, Nat.reduceLT, reduceCtorEq, Int.reduceBEq, Int.reduceBNe, Int.reduceLT, Int.reduceLE, Int.reduceEq, Int.reduceToNat, Int.reduceAdd, Int.reduceSub, Int.reduceNeg, sx, e16, h16]
  refine new_mk fun M1 e1 => ?_
  have B1 : Bld none M1 M.bl.length [] := Bld.new e1
  have l1 : M1.low = M.low := by rw [e1]; rfl
  have g1 : Grown m M1 := by rw [e1]; exact hg.push
  have b1 := B1.lt
  simp +contextual only [vq, vc, ve, vv, vn, vl, ↓reduceIte, Nat.reduceEqDiff, Nat.reduceAdd, Nat.reduceMul, Nat.reduceSub, Nat.reduceLeDiff, Nat.reduceLT, reduceCtorEq, Int.reduceBEq, Int.reduceBNe, Int.reduceLT, Int.reduceLE, Int.reduceEq, Int.reduceToNat, Int.reduceAdd, Int.reduceSub, Int.reduceNeg]
  refine loop2 (fun n st => ∃ i A N k, st = ⟨A, N, [], none⟩ ∧ Grown m N ∧ m.bl.length ≤ N.low ∧ n = l.length - i ∧ i ≤ l.length ∧ A 4 = .ptr (some ⟨.mem M.bl.length genB, 0⟩) ∧ A 11 = x ∧ A 12 = .int .i64 l.length ∧ A 13 = .int .i64 (i : Nat) ∧ Bld k N M.bl.length (wrote (l.take i)) ∧ (∀ j, k = some j → m.bl.length ≤ j) ∧ ∀ p ∈ l.take i, parBad p = 0) l.length ⟨0, _, M1, none, rfl, g1, by omega, by omega, by omega, by simp +contextual only [vq, vc, ve, vv, vn, vl, ↓reduceIte, Nat.reduceEqDiff, Nat.reduceAdd, Nat.reduceMul, Nat.reduceSub, Nat.reduceLeDiff, Nat.reduceLT, reduceCtorEq, Int.reduceBEq, Int.reduceBNe, Int.reduceLT, Int.reduceLE, Int.reduceEq, Int.reduceToNat, Int.reduceAdd, Int.reduceSub, Int.reduceNeg], by simp +contextual only [vq, vc, ve, vv, vn, vl, ↓reduceIte, Nat.reduceEqDiff, Nat.reduceAdd, Nat.reduceMul, Nat.reduceSub, Nat.reduceLeDiff, Nat.reduceLT, reduceCtorEq, Int.reduceBEq, Int.reduceBNe, Int.reduceLT, Int.reduceLE, Int.reduceEq, Int.reduceToNat, Int.reduceAdd, Int.reduceSub, Int.reduceNeg, sx], by simp +contextual only [vq, vc, ve, vv, vn, vl, ↓reduceIte, Nat.reduceEqDiff, Nat.reduceAdd, Nat.reduceMul, Nat.reduceSub, Nat.reduceLeDiff, Nat.reduceLT, reduceCtorEq, Int.reduceBEq, Int.reduceBNe, Int.reduceLT, Int.reduceLE, Int.reduceEq, Int.reduceToNat, Int.reduceAdd, Int.reduceSub, Int.reduceNeg], by simp +contextual only [vq, vc, ve, vv, vn, vl, ↓reduceIte, Nat.reduceEqDiff, Nat.reduceAdd, Nat.reduceMul, Nat.reduceSub, Nat.reduceLeDiff, Nat.reduceLT, reduceCtorEq, Int.reduceBEq, Int.reduceBNe, Int.reduceLT, Int.reduceLE, Int.reduceEq, Int.reduceToNat, Int.reduceAdd, Int.reduceSub, Int.reduceNeg]; rfl, B1, (fun j h => by cases h), by simp⟩ fun J hJ n st hI => ?_
  obtain ⟨i, A, N, k, rfl, gN, lN, rfl, hi, A4, A11, A12, A13, BN, hk, hok⟩ := hI
  have hwl := wrote_len (l := l.take i) fun q hq => hN q (List.mem_of_mem_take hq)
  rw [List.length_take] at hwl
  simp +contextual only [vq, vc, ve, vv, vn, vl, ↓reduceIte, Nat.reduceEqDiff, Nat.reduceAdd, Nat.reduceMul, Nat.reduceSub, Nat.reduceLeDiff, Nat.reduceLT, reduceCtorEq, Int.reduceBEq, Int.reduceBNe, Int.reduceLT, Int.reduceLE, Int.reduceEq, Int.reduceToNat, Int.reduceAdd, Int.reduceSub, Int.reduceNeg, A12, A13]
  refine br2_dec (fun hlt => ?_) (fun hge => ?_)
  · obtain ⟨a, cap, q1, _, hgp, _⟩ := (hx.grown gN).at hlt
    rw [q1] at A11
    have hpN := hN l[i] (List.getElem_mem hlt)
    simp +contextual only [vq, vc, ve, vv, vn, vl, ↓reduceIte, Nat.reduceEqDiff, Nat.reduceAdd, Nat.reduceMul, Nat.reduceSub, Nat.reduceLeDiff, Nat.reduceLT, reduceCtorEq, Int.reduceBEq, Int.reduceBNe, Int.reduceLT, Int.reduceLE, Int.reduceEq, Int.reduceToNat, Int.reduceAdd, Int.reduceSub, Int.reduceNeg, A11, A13, hlt, hgp, parE]
    refine new_mk fun N1 f1 => ?_
    obtain ⟨N2, p2, g2, R2, b2, w2⟩ := put_new f1 (cs := parE l[i]) rfl
    simp only [parE] at p2 R2
    have r2 := R2.lt
    have n2 : m.bl.length ≤ N2.low := by have := gN.le; omega
    simp +contextual only [vq, vc, ve, vv, vn, vl, ↓reduceIte, Nat.reduceEqDiff, Nat.reduceAdd, Nat.reduceMul, Nat.reduceSub, Nat.reduceLeDiff, Nat.reduceLT, reduceCtorEq, Int.reduceBEq, Int.reduceBNe, Int.reduceLT, Int.reduceLE, Int.reduceEq, Int.reduceToNat, Int.reduceAdd, Int.reduceSub, Int.reduceNeg, p2, R2.get (G := G), callR_val (c_param_keyword _ _ (show (l[i]).name.length ≤ _ by omega)), callR_val (c_octet_Upper _ _ (show (l[i]).name.length ≤ _ by omega)), r2, bad_kw]
    refine br2_dec (fun hb1 => ?_) (fun hb1 => ?_)
    · have e1 : parBad l[i] = 100 := if_pos hb1
      have e2 : prs l = ([], 100) := by rw [prs_bad hlt hok (by rw [e1]; omega), e1]
      simp +contextual only [vq, vc, ve, vv, vn, vl, ↓reduceIte, Nat.reduceEqDiff, Nat.reduceAdd, Nat.reduceMul, Nat.reduceSub, Nat.reduceLeDiff, Nat.reduceLT, reduceCtorEq, Int.reduceBEq, Int.reduceBNe, Int.reduceLT, Int.reduceLE, Int.reduceEq, Int.reduceToNat, Int.reduceAdd, Int.reduceSub, Int.reduceNeg, hp, e2, n2]
    simp +contextual only [vq, vc, ve, vv, vn, vl, ↓reduceIte, Nat.reduceEqDiff, Nat.reduceAdd, Nat.reduceMul, Nat.reduceSub, Nat.reduceLeDiff, Nat.reduceLT, reduceCtorEq, Int.reduceBEq, Int.reduceBNe, Int.reduceLT, Int.reduceLE, Int.reduceEq, Int.reduceToNat, Int.reduceAdd, Int.reduceSub, Int.reduceNeg, R2.get (G := G), callR_val (c_param_badValue _ _ _ (show (l[i]).value.length ≤ _ by omega))]
    refine br2_mk (fun hb2 => ?_) (fun hb2 => ?_)
    · have e1 : parBad l[i] = 101 := by rw [parBad, if_neg hb1, if_pos hb2]
      have e2 : prs l = ([], 101) := by rw [prs_bad hlt hok (by rw [e1]; omega), e1]
      simp +contextual only [vq, vc, ve, vv, vn, vl, ↓reduceIte, Nat.reduceEqDiff, Nat.reduceAdd, Nat.reduceMul, Nat.reduceSub, Nat.reduceLeDiff, Nat.reduceLT, reduceCtorEq, Int.reduceBEq, Int.reduceBNe, Int.reduceLT, Int.reduceLE, Int.reduceEq, Int.reduceToNat, Int.reduceAdd, Int.reduceSub, Int.reduceNeg, hp, e2, n2]
    have e1 : parBad l[i] = 0 := by rw [parBad, if_neg hb1, if_neg (by rw [hb2]; simp)]
    obtain ⟨k3, N3, hc3, B3, hk3, ed3⟩ := c_Builder_WriteString N2 k M.bl.length _ (32 :: l[i].name) (BN.grown g2) (by simp; omega)
    have hb : M.bl.length < N.bl.length := BN.lt
    have hkl : ∀ j, k = some j → j < N.bl.length := fun j hj => by subst hj; exact BN.ltk
    have hne : some N.bl.length ≠ k := fun e => by have := hkl _ e.symm; omega
    have R3 := ed3.row R2 (by omega) hne
    have gN3 : Grown m N3 := (ed3.stays (n0 := m.bl.length) (by omega) (by have := gN.le; omega) hk).grown (gN.trans g2) (Nat.le_refl _)
    have lN3 : m.bl.length ≤ N3.low := (ed3.stays (n0 := m.bl.length) (by omega) (by have := gN.le; omega) hk).2.1 n2
    have hk3' : ∀ j, k3 = some j → m.bl.length ≤ j := fun j hj => by
      rcases hk3 with e | ⟨_, e⟩
      · exact hk j (by rw [← e]; exact hj)
      · rw [e] at hj; cases hj; have := gN.le; omega
    have a1 : 1 + l[i].name.length ≤ 9223372036854775807 := by omega
    have a2 : 1 + l[i].value.length ≤ 9223372036854775807 := by omega
    cases hh : l[i].has with
    | false =>
      have ew : wrote (l.take (i + 1)) = wrote (l.take i) ++ (32 :: l[i].name) := by rw [wrote_next hlt, parW, if_neg (by simp [hh]), List.append_nil]
      simp +contextual only [vq, vc, ve, vv, vn, vl, ↓reduceIte, Nat.reduceEqDiff, Nat.reduceAdd, Nat.reduceMul, Nat.reduceSub, Nat.reduceLeDiff, Nat.reduceLT, reduceCtorEq, Int.reduceBEq, Int.reduceBNe, Int.reduceLT, Int.reduceLE, Int.reduceEq, Int.reduceToNat, Int.reduceAdd, Int.reduceSub, Int.reduceNeg, A4, R2.get (G := G), a1, callR_val hc3, R3.get (G := G), hh, A13, wsucc hlt (by omega)]
      refine again2 hJ (l.length - (i + 1)) (by omega) ⟨i + 1, _, N3, k3, rfl, gN3, lN3, rfl, by omega, by simp +contextual only [vq, vc, ve, vv, vn, vl, ↓reduceIte, Nat.reduceEqDiff, Nat.reduceAdd, Nat.reduceMul, Nat.reduceSub, Nat.reduceLeDiff, Nat.reduceLT, reduceCtorEq, Int.reduceBEq, Int.reduceBNe, Int.reduceLT, Int.reduceLE, Int.reduceEq, Int.reduceToNat, Int.reduceAdd, Int.reduceSub, Int.reduceNeg, A4], by simp +contextual only [vq, vc, ve, vv, vn, vl, ↓reduceIte, Nat.reduceEqDiff, Nat.reduceAdd, Nat.reduceMul, Nat.reduceSub, Nat.reduceLeDiff, Nat.reduceLT, reduceCtorEq, Int.reduceBEq, Int.reduceBNe, Int.reduceLT, Int.reduceLE, Int.reduceEq, Int.reduceToNat, Int.reduceAdd, Int.reduceSub, Int.reduceNeg, A11, q1], by simp +contextual only [vq, vc, ve, vv, vn, vl, ↓reduceIte, Nat.reduceEqDiff, Nat.reduceAdd, Nat.reduceMul, Nat.reduceSub, Nat.reduceLeDiff, Nat.reduceLT, reduceCtorEq, Int.reduceBEq, Int.reduceBNe, Int.reduceLT, Int.reduceLE, Int.reduceEq, Int.reduceToNat, Int.reduceAdd, Int.reduceSub, Int.reduceNeg, A12], by simp +contextual only [vq, vc, ve, vv, vn, vl, ↓reduceIte, Nat.reduceEqDiff, Nat.reduceAdd, Nat.reduceMul, Nat.reduceSub, Nat.reduceLeDiff, Nat.reduceLT, reduceCtorEq, Int.reduceBEq, Int.reduceBNe, Int.reduceLT, Int.reduceLE, Int.reduceEq, Int.reduceToNat, Int.reduceAdd, Int.reduceSub, Int.reduceNeg], by rw [ew]; exact B3, hk3', fun p hp => ?_⟩
      rw [List.take_succ_eq_append_getElem hlt] at hp
      rcases List.mem_append.1 hp with hp | hp
      · exact hok p hp
      · simp at hp; rw [hp]; exact e1
    | true =>
      have ew : wrote (l.take (i + 1)) = wrote (l.take i) ++ (32 :: l[i].name) ++ (61 :: l[i].value) := by rw [wrote_next hlt, parW, if_pos hh, List.append_assoc]
      obtain ⟨k4, N4, hc4, B4, hk4, ed4⟩ := c_Builder_WriteString N3 k3 M.bl.length _ (61 :: l[i].value) B3 (by simp; omega)
      have st4 := ed4.stays (n0 := m.bl.length) (by omega) gN3.le hk3'
      have hk4' : ∀ j, k4 = some j → m.bl.length ≤ j := fun j hj => by
        rcases hk4 with e | ⟨_, e⟩
        · exact hk3' j (by rw [← e]; exact hj)
        · rw [e] at hj; cases hj; exact gN3.le
      simp +contextual only [vq, vc, ve, vv, vn, vl, ↓reduceIte, Nat.reduceEqDiff, Nat.reduceAdd, Nat.reduceMul, Nat.reduceSub, Nat.reduceLeDiff, Nat.reduceLT, reduceCtorEq, Int.reduceBEq, Int.reduceBNe, Int.reduceLT, Int.reduceLE, Int.reduceEq, Int.reduceToNat, Int.reduceAdd, Int.reduceSub, Int.reduceNeg, A4, R2.get (G := G), a1, a2, callR_val hc3, R3.get (G := G), hh, callR_val hc4, A13, wsucc hlt (by omega)]
      refine again2 hJ (l.length - (i + 1)) (by omega) ⟨i + 1, _, N4, k4, rfl, st4.grown gN3 (Nat.le_refl _), st4.2.1 lN3, rfl, by omega, by simp +contextual only [vq, vc, ve, vv, vn, vl, ↓reduceIte, Nat.reduceEqDiff, Nat.reduceAdd, Nat.reduceMul, Nat.reduceSub, Nat.reduceLeDiff, Nat.reduceLT, reduceCtorEq, Int.reduceBEq, Int.reduceBNe, Int.reduceLT, Int.reduceLE, Int.reduceEq, Int.reduceToNat, Int.reduceAdd, Int.reduceSub, Int.reduceNeg, A4], by simp +contextual only [vq, vc, ve, vv, vn, vl, ↓reduceIte, Nat.reduceEqDiff, Nat.reduceAdd, Nat.reduceMul, Nat.reduceSub, Nat.reduceLeDiff, Nat.reduceLT, reduceCtorEq, Int.reduceBEq, Int.reduceBNe, Int.reduceLT, Int.reduceLE, Int.reduceEq, Int.reduceToNat, Int.reduceAdd, Int.reduceSub, Int.reduceNeg, A11, q1], by simp +contextual only [vq, vc, ve, vv, vn, vl, ↓reduceIte, Nat.reduceEqDiff, Nat.reduceAdd, Nat.reduceMul, Nat.reduceSub, Nat.reduceLeDiff, Nat.reduceLT, reduceCtorEq, Int.reduceBEq, Int.reduceBNe, Int.reduceLT, Int.reduceLE, Int.reduceEq, Int.reduceToNat, Int.reduceAdd, Int.reduceSub, Int.reduceNeg, A12], by simp +contextual only [vq, vc, ve, vv, vn, vl, ↓reduceIte, Nat.reduceEqDiff, Nat.reduceAdd, Nat.reduceMul, Nat.reduceSub, Nat.reduceLeDiff, Nat.reduceLT, reduceCtorEq, Int.reduceBEq, Int.reduceBNe, Int.reduceLT, Int.reduceLE, Int.reduceEq, Int.reduceToNat, Int.reduceAdd, Int.reduceSub, Int.reduceNeg], by rw [ew]; exact B4, hk4', fun p hp => ?_⟩
      rw [List.take_succ_eq_append_getElem hlt] at hp
      rcases List.mem_append.1 hp with hp | hp
      · exact hok p hp
      · simp at hp; rw [hp]; exact e1
  · have he : i = l.length := by omega
    subst he
    rw [List.take_length] at hok BN
    have e2 : prs l = (wrote l, 0) := prs_ok hok
    obtain ⟨N4, hc4, ed4⟩ := c_Builder_String N k M.bl.length (wrote l) BN (by have := wrote_len hN; omega)
    have st4 := (ed4.stays (n0 := m.bl.length) (by omega) gN.le hk).2.1 lN
    simp +contextual only [vq, vc, ve, vv, vn, vl, ↓reduceIte, Nat.reduceEqDiff, Nat.reduceAdd, Nat.reduceMul, Nat.reduceSub, Nat.reduceLeDiff, Nat.reduceLT, reduceCtorEq, Int.reduceBEq, Int.reduceBNe, Int.reduceLT, Int.reduceLE, Int.reduceEq, Int.reduceToNat, Int.reduceAdd, Int.reduceSub, Int.reduceNeg, A4, callR_val hc4, hp, e2, st4]
end Go.Proofs.YtjlpfijbnflknaaDoor.paramPrints

namespace Go.Proofs.YtjlpfijbnflknaaDoor.paramPrints
open Go.Ev hiding Comes

theorem bad_kw2 (p : Par) : ((p.name == []) || (kwd p.name != p.name.length) || !(upS p.name == p.name)) = decide (kwd p.name = 0 ∨ kwd p.name ≠ p.name.length ∨ upS p.name ≠ p.name) := by
  rw [Bool.eq_iff_iff]
  have h0 : p.name = [] → kwd p.name = 0 := fun h => by rw [h]; rfl
  have h1 : p.name = [] ↔ p.name.length = 0 := List.length_eq_zero_iff.symm
  simp only [Bool.or_eq_true, beq_iff_eq, bne_iff_ne, Bool.not_eq_true', beq_eq_false_iff_ne, decide_eq_true_eq, or_assoc]
  constructor
  · rintro (h | h | h)
    · exact .inl (h0 h)
    · exact .inr (.inl h)
    · exact .inr (.inr h)
  · rintro (h | h | h)
    · by_cases hk : kwd p.name = p.name.length
      · exact .inl (h1.2 (by omega))
      · exact .inr (.inl hk)
    · exact .inr (.inl h)
    · exact .inr (.inr h)

theorem c_r10_Print (m : Mem) (x : EV) (l : List Par) (hx : Pars G m x l) (hN : ParsOk l) : Go.Ev.Comes T G f_r10_Print [x] m none ⟨.val (.tuple [.str (printP l).1, .int .i64 (printP l).2]), m, none⟩ := by
  refine comes2 T_r10_Print rfl fun M hg hlen hlow => ?_
  have hl0 : m.bl.length ≤ M.low := by omega
  obtain ⟨a0, c0, e0, sx⟩ := hx.slice
  have e16 : ((16 : Int) < (l.length : Int)) = (16 < l.length) := propext ⟨fun h => by omega, fun h => by omega⟩
  simp only [F_r10_Print]
  by_cases h16 : 16 < l.length
  · have hp : printP l = ([], 4) := if_pos h16
    simp +contextual only [vq, vc, ve, vv, vn, vl, ↓reduceIte, Nat.reduceEqDiff, Nat.reduceAdd, Nat.reduceMul, Nat.reduceSub, Nat.reduceLeDiff, Nat.reduceLT, reduceCtorEq, Int.reduceBEq, Int.reduceBNe, Int.reduceLT, Int.reduceLE, Int.reduceEq, Int.reduceToNat, Int.reduceAdd, Int.reduceSub, Int.reduceNeg, sx, e16, h16, hp, hl0]
  have hp : printP l = prs l := if_neg h16
  simp +contextual only [vq, vc, ve, vv, vn, vl, ↓reduceIte, Nat.reduceEqDiff, Nat.reduceAdd, Nat.reduceMul, Nat.reduceSub, Nat.reduceLeDiff, Nat.reduceLT, reduceCtorEq, Int.reduceBEq, Int.reduceBNe, Int.reduceLT, Int.reduceLE, Int.reduceEq, Int.reduceToNat, Int.reduceAdd, Int.reduceSub, Int.reduceNeg, sx, e16, h16]
  refine loop2 (fun n st => ∃ i A N, st = ⟨A, N, [], none⟩ ∧ Grown m N ∧ m.bl.length ≤ N.low ∧ n = l.length - i ∧ i ≤ l.length ∧ A 4 = .str (wrote (l.take i)) ∧ A 0 = x ∧ A 5 = .int .i64 (i : Nat) ∧ ∀ p ∈ l.take i, parBad p = 0) l.length ⟨0, _, M, rfl, hg, by omega, by omega, by omega, by simp +contextual only [vq, vc, ve, vv, vn, vl, ↓reduceIte, Nat.reduceEqDiff, Nat.reduceAdd, Nat.reduceMul, Nat.reduceSub, Nat.reduceLeDiff, Nat.reduceLT, reduceCtorEq, Int.reduceBEq, Int.reduceBNe, Int.reduceLT, Int.reduceLE, Int.reduceEq, Int.reduceToNat, Int.reduceAdd, Int.reduceSub, Int.reduceNeg]; rfl, by simp +contextual only [vq, vc, ve, vv, vn, vl, ↓reduceIte, Nat.reduceEqDiff, Nat.reduceAdd, Nat.reduceMul, Nat.reduceSub, Nat.reduceLeDiff, Nat.reduceLT, reduceCtorEq, Int.reduceBEq, Int.reduceBNe, Int.reduceLT, Int.reduceLE, Int.reduceEq, Int.reduceToNat, Int.reduceAdd, Int.reduceSub, Int.reduceNeg, sx], by simp +contextual only [vq, vc, ve, vv, vn, vl, ↓reduceIte, Nat.reduceEqDiff, Nat.reduceAdd, Nat.reduceMul, Nat.reduceSub, Nat.reduceLeDiff, Nat.reduceLT, reduceCtorEq, Int.reduceBEq, Int.reduceBNe, Int.reduceLT, Int.reduceLE, Int.reduceEq, Int.reduceToNat, Int.reduceAdd, Int.reduceSub, Int.reduceNeg]; rfl, by simp⟩ fun J hJ n st hI => ?_
  obtain ⟨i, A, N, rfl, gN, lN, rfl, hi, A4, A0, A5, hok⟩ := hI
  have hwl := wrote_len (l := l.take i) fun q hq => hN q (List.mem_of_mem_take hq)
  rw [List.length_take] at hwl
  rw [sx] at A0
  simp +contextual only [vq, vc, ve, vv, vn, vl, ↓reduceIte, Nat.reduceEqDiff, Nat.reduceAdd, Nat.reduceMul, Nat.reduceSub, Nat.reduceLeDiff, Nat.reduceLT, reduceCtorEq, Int.reduceBEq, Int.reduceBNe, Int.reduceLT, Int.reduceLE, Int.reduceEq, Int.reduceToNat, Int.reduceAdd, Int.reduceSub, Int.reduceNeg, A0, A5]
  refine br2_dec (fun hlt => ?_) (fun hge => ?_)
  · obtain ⟨a, cap, q1, _, hgp, _⟩ := (hx.grown gN).at hlt
    rw [← sx, q1] at A0
    have hpN := hN l[i] (List.getElem_mem hlt)
    simp +contextual only [vq, vc, ve, vv, vn, vl, ↓reduceIte, Nat.reduceEqDiff, Nat.reduceAdd, Nat.reduceMul, Nat.reduceSub, Nat.reduceLeDiff, Nat.reduceLT, reduceCtorEq, Int.reduceBEq, Int.reduceBNe, Int.reduceLT, Int.reduceLE, Int.reduceEq, Int.reduceToNat, Int.reduceAdd, Int.reduceSub, Int.reduceNeg, A0, A5, hlt, hgp, parE]
    refine new_mk fun N1 f1 => ?_
    obtain ⟨N2, p2, g2, R2, b2, w2⟩ := put_new f1 (cs := parE l[i]) rfl
    simp only [parE] at p2 R2
    have r2 := R2.lt
    have n2 : m.bl.length ≤ N2.low := by have := gN.le; omega
    have hkw := c_r10_keyword ⟨N2.bl, N2.bl.length⟩ l[i].name 0 (by omega) (by omega)
    rw [List.drop_zero] at hkw
    have hkw : Go.Ev.Comes T G f_r10_keyword [.str l[i].name, .int .i64 0] ⟨N2.bl, N2.bl.length⟩ none ⟨.val (.int .i64 (kwd l[i].name : Nat)), ⟨N2.bl, N2.bl.length⟩, none⟩ := hkw
    simp +contextual only [vq, vc, ve, vv, vn, vl, ↓reduceIte, Nat.reduceEqDiff, Nat.reduceAdd, Nat.reduceMul, Nat.reduceSub, Nat.reduceLeDiff, Nat.reduceLT, reduceCtorEq, Int.reduceBEq, Int.reduceBNe, Int.reduceLT, Int.reduceLE, Int.reduceEq, Int.reduceToNat, Int.reduceAdd, Int.reduceSub, Int.reduceNeg, p2, R2.get (G := G), callR_val hkw, callR_val (c_r01_Upper _ _ (show (l[i]).name.length ≤ _ by omega)), r2, bad_kw2]
    refine br2_dec (fun hb1 => ?_) (fun hb1 => ?_)
    · have e1 : parBad l[i] = 100 := if_pos hb1
      have e2 : prs l = ([], 100) := by rw [prs_bad hlt hok (by rw [e1]; omega), e1]
      simp +contextual only [vq, vc, ve, vv, vn, vl, ↓reduceIte, Nat.reduceEqDiff, Nat.reduceAdd, Nat.reduceMul, Nat.reduceSub, Nat.reduceLeDiff, Nat.reduceLT, reduceCtorEq, Int.reduceBEq, Int.reduceBNe, Int.reduceLT, Int.reduceLE, Int.reduceEq, Int.reduceToNat, Int.reduceAdd, Int.reduceSub, Int.reduceNeg, hp, e2, n2]
    simp +contextual only [vq, vc, ve, vv, vn, vl, ↓reduceIte, Nat.reduceEqDiff, Nat.reduceAdd, Nat.reduceMul, Nat.reduceSub, Nat.reduceLeDiff, Nat.reduceLT, reduceCtorEq, Int.reduceBEq, Int.reduceBNe, Int.reduceLT, Int.reduceLE, Int.reduceEq, Int.reduceToNat, Int.reduceAdd, Int.reduceSub, Int.reduceNeg, R2.get (G := G), callR_val (c_r10_value _ _ _ (show (l[i]).value.length ≤ _ by omega))]
    refine br2_mk (fun hb2 => ?_) (fun hb2 => ?_)
    · have e1 : parBad l[i] = 101 := by rw [parBad, if_neg hb1, if_pos hb2]
      have e2 : prs l = ([], 101) := by rw [prs_bad hlt hok (by rw [e1]; omega), e1]
      simp +contextual only [vq, vc, ve, vv, vn, vl, ↓reduceIte, Nat.reduceEqDiff, Nat.reduceAdd, Nat.reduceMul, Nat.reduceSub, Nat.reduceLeDiff, Nat.reduceLT, reduceCtorEq, Int.reduceBEq, Int.reduceBNe, Int.reduceLT, Int.reduceLE, Int.reduceEq, Int.reduceToNat, Int.reduceAdd, Int.reduceSub, Int.reduceNeg, hp, e2, n2]
    have e1 : parBad l[i] = 0 := by rw [parBad, if_neg hb1, if_neg (by rw [hb2]; simp)]
    have hok' : ∀ p ∈ l.take (i + 1), parBad p = 0 := fun p hp => by
      rw [List.take_succ_eq_append_getElem hlt] at hp
      rcases List.mem_append.1 hp with hp | hp
      · exact hok p hp
      · simp at hp; rw [hp]; exact e1
    have a1 : (wrote (l.take i)).length + 1 ≤ 9223372036854775807 := by omega
    have a2 : (wrote (l.take i) ++ [32]).length + l[i].name.length ≤ 9223372036854775807 := by simp; omega
    have a3 : (wrote (l.take i) ++ [32] ++ l[i].name).length + 1 ≤ 9223372036854775807 := by simp; omega
    have a4 : (wrote (l.take i) ++ [32] ++ l[i].name ++ [61]).length + l[i].value.length ≤ 9223372036854775807 := by simp; omega
    cases hh : l[i].has with
    | false =>
      have ew : wrote (l.take (i + 1)) = wrote (l.take i) ++ [32] ++ l[i].name := by rw [wrote_next hlt, parW, if_neg (by simp [hh]), List.append_nil]; simp
      simp +contextual only [vq, vc, ve, vv, vn, vl, ↓reduceIte, Nat.reduceEqDiff, Nat.reduceAdd, Nat.reduceMul, Nat.reduceSub, Nat.reduceLeDiff, Nat.reduceLT, reduceCtorEq, Int.reduceBEq, Int.reduceBNe, Int.reduceLT, Int.reduceLE, Int.reduceEq, Int.reduceToNat, Int.reduceAdd, Int.reduceSub, Int.reduceNeg, A4, R2.get (G := G), a1, a2, hh, A5, wsucc hlt (by omega)]
      exact again2 hJ (l.length - (i + 1)) (by omega) ⟨i + 1, _, N2, rfl, gN.trans g2, n2, rfl, by omega, by simp +contextual only [vq, vc, ve, vv, vn, vl, ↓reduceIte, Nat.reduceEqDiff, Nat.reduceAdd, Nat.reduceMul, Nat.reduceSub, Nat.reduceLeDiff, Nat.reduceLT, reduceCtorEq, Int.reduceBEq, Int.reduceBNe, Int.reduceLT, Int.reduceLE, Int.reduceEq, Int.reduceToNat, Int.reduceAdd, Int.reduceSub, Int.reduceNeg, ew], by simp +contextual only [vq, vc, ve, vv, vn, vl, ↓reduceIte, Nat.reduceEqDiff, Nat.reduceAdd, Nat.reduceMul, Nat.reduceSub, Nat.reduceLeDiff, Nat.reduceLT, reduceCtorEq, Int.reduceBEq, Int.reduceBNe, Int.reduceLT, Int.reduceLE, Int.reduceEq, Int.reduceToNat, Int.reduceAdd, Int.reduceSub, Int.reduceNeg, A0, q1], by simp +contextual only [vq, vc, ve, vv, vn, vl, ↓reduceIte, Nat.reduceEqDiff, Nat.reduceAdd, Nat.reduceMul, Nat.reduceSub, Nat.reduceLeDiff, Nat.reduceLT, reduceCtorEq, Int.reduceBEq, Int.reduceBNe, Int.reduceLT, Int.reduceLE, Int.reduceEq, Int.reduceToNat, Int.reduceAdd, Int.reduceSub, Int.reduceNeg], hok'⟩
    | true =>
      have ew : wrote (l.take (i + 1)) = wrote (l.take i) ++ [32] ++ l[i].name ++ [61] ++ l[i].value := by rw [wrote_next hlt, parW, if_pos hh]; simp
      simp +contextual only [vq, vc, ve, vv, vn, vl, ↓reduceIte, Nat.reduceEqDiff, Nat.reduceAdd, Nat.reduceMul, Nat.reduceSub, Nat.reduceLeDiff, Nat.reduceLT, reduceCtorEq, Int.reduceBEq, Int.reduceBNe, Int.reduceLT, Int.reduceLE, Int.reduceEq, Int.reduceToNat, Int.reduceAdd, Int.reduceSub, Int.reduceNeg, A4, R2.get (G := G), a1, a2, a3, a4, hh, A5, wsucc hlt (by omega)]
      exact again2 hJ (l.length - (i + 1)) (by omega) ⟨i + 1, _, N2, rfl, gN.trans g2, n2, rfl, by omega, by simp +contextual only [vq, vc, ve, vv, vn, vl, ↓reduceIte, Nat.reduceEqDiff, Nat.reduceAdd, Nat.reduceMul, Nat.reduceSub, Nat.reduceLeDiff, Nat.reduceLT, reduceCtorEq, Int.reduceBEq, Int.reduceBNe, Int.reduceLT, Int.reduceLE, Int.reduceEq, Int.reduceToNat, Int.reduceAdd, Int.reduceSub, Int.reduceNeg, ew], by simp +contextual only [vq, vc, ve, vv, vn, vl, ↓reduceIte, Nat.reduceEqDiff, Nat.reduceAdd, Nat.reduceMul, Nat.reduceSub, Nat.reduceLeDiff, Nat.reduceLT, reduceCtorEq, Int.reduceBEq, Int.reduceBNe, Int.reduceLT, Int.reduceLE, Int.reduceEq, Int.reduceToNat, Int.reduceAdd, Int.reduceSub, Int.reduceNeg, A0, q1], by simp +contextual only [vq, vc, ve, vv, vn, vl, ↓reduceIte, Nat.reduceEqDiff, Nat.reduceAdd, Nat.reduceMul, Nat.reduceSub, Nat.reduceLeDiff, Nat.reduceLT, reduceCtorEq, Int.reduceBEq, Int.reduceBNe, Int.reduceLT, Int.reduceLE, Int.reduceEq, Int.reduceToNat, Int.reduceAdd, Int.reduceSub, Int.reduceNeg], hok'⟩
  · have he : i = l.length := by omega
    subst he
    rw [List.take_length] at hok A4
    have e2 : prs l = (wrote l, 0) := prs_ok hok
    simp +contextual only [vq, vc, ve, vv, vn, vl, ↓reduceIte, Nat.reduceEqDiff, Nat.reduceAdd, Nat.reduceMul, Nat.reduceSub, Nat.reduceLeDiff, Nat.reduceLT, reduceCtorEq, Int.reduceBEq, Int.reduceBNe, Int.reduceLT, Int.reduceLE, Int.reduceEq, Int.reduceToNat, Int.reduceAdd, Int.reduceSub, Int.reduceNeg, A4, hp, e2, lN]
end Go.Proofs.YtjlpfijbnflknaaDoor.paramPrints

namespace Go.Proofs.YtjlpfijbnflknaaDoor.paramPrints
open Go.Ev hiding Comes

theorem c_r10_Same (m : Mem) (x y : EV) (k l : List Par) (hx : Pars G m x k) (hy : Pars G m y l) (hk : k.length ≤ 1000000000000) :
    Go.Ev.Comes T G f_r10_Same [x, y] m none ⟨.val (.bool (decide (k = l))), m, none⟩ := by
  refine comes2 T_r10_Same rfl fun M hg hlen hlow => ?_
  have hl0 : m.bl.length ≤ M.low := by omega
  have hx := hx.grown hg
  have hy := hy.grown hg
  obtain ⟨a1, c1, e1, s1⟩ := hx.slice
  obtain ⟨a2, c2, e2, s2⟩ := hy.slice
  simp only [F_r10_Same]
  by_cases hne : k.length = l.length
  · simp +contextual only [vq, vc, ve, vv, vn, vl, ↓reduceIte, Nat.reduceEqDiff, Nat.reduceAdd, Nat.reduceMul, Nat.reduceSub, Nat.reduceLeDiff, Nat.reduceLT, reduceCtorEq, Int.reduceBEq, Int.reduceBNe, Int.reduceLT, Int.reduceLE, Int.reduceEq, Int.reduceToNat, Int.reduceAdd, Int.reduceSub, Int.reduceNeg, s1, s2, hne]
    have I : ∀ i : Nat, k.take i = l.take i → i < k.length → (hik : i < k.length) → (hil : i < l.length) → k[i] = l[i] → k.take (i + 1) = l.take (i + 1) := fun i h _ hik hil e => by
      rw [List.take_succ_eq_append_getElem hik, List.take_succ_eq_append_getElem hil, h, e]
    refine loop2 (fun n st => ∃ i A, st = ⟨A, M, [], none⟩ ∧ n = k.length - i ∧ i ≤ k.length ∧ A 0 = x ∧ A 1 = y ∧ A 5 = .int .i64 i ∧ k.take i = l.take i) k.length ⟨0, _, rfl, by omega, by omega, by simp +contextual only [vq, vc, ve, vv, vn, vl, ↓reduceIte, Nat.reduceEqDiff, Nat.reduceAdd, Nat.reduceMul, Nat.reduceSub, Nat.reduceLeDiff, Nat.reduceLT, reduceCtorEq, Int.reduceBEq, Int.reduceBNe, Int.reduceLT, Int.reduceLE, Int.reduceEq, Int.reduceToNat, Int.reduceAdd, Int.reduceSub, Int.reduceNeg, s1, hne], by simp +contextual only [vq, vc, ve, vv, vn, vl, ↓reduceIte, Nat.reduceEqDiff, Nat.reduceAdd, Nat.reduceMul, Nat.reduceSub, Nat.reduceLeDiff, Nat.reduceLT, reduceCtorEq, Int.reduceBEq, Int.reduceBNe, Int.reduceLT, Int.reduceLE, Int.reduceEq, Int.reduceToNat, Int.reduceAdd, Int.reduceSub, Int.reduceNeg, s2, hne], by simp +contextual only [vq, vc, ve, vv, vn, vl, ↓reduceIte, Nat.reduceEqDiff, Nat.reduceAdd, Nat.reduceMul, Nat.reduceSub, Nat.reduceLeDiff, Nat.reduceLT, reduceCtorEq, Int.reduceBEq, Int.reduceBNe, Int.reduceLT, Int.reduceLE, Int.reduceEq, Int.reduceToNat, Int.reduceAdd, Int.reduceSub, Int.reduceNeg]; rfl, by simp⟩ fun J hJ n st hI => ?_
    obtain ⟨i, A, rfl, rfl, hi, A0, A1, A5, hall⟩ := hI
    by_cases hlt : i < k.length
    · have hil : i < l.length := by omega
      obtain ⟨b1, d1, q1, _, g1, o1⟩ := hx.at hlt
      obtain ⟨b2, d2, q2, _, g2, o2⟩ := hy.at hil
      rw [q1] at A0
      rw [q2] at A1
      simp +contextual only [vq, vc, ve, vv, vn, vl, ↓reduceIte, Nat.reduceEqDiff, Nat.reduceAdd, Nat.reduceMul, Nat.reduceSub, Nat.reduceLeDiff, Nat.reduceLT, reduceCtorEq, Int.reduceBEq, Int.reduceBNe, Int.reduceLT, Int.reduceLE, Int.reduceEq, Int.reduceToNat, Int.reduceAdd, Int.reduceSub, Int.reduceNeg, A0, A1, A5, hlt, hil, g1, g2, o1, o2, par_eq]
      refine br2_mk (fun hp => ?_) (fun hp => ?_)
      · have hp : k[i] ≠ l[i] := by simpa using hp
        have e : decide (k = l) = false := by
          rw [decide_eq_false_iff_not]
          rintro rfl
          exact hp rfl
        simp +contextual only [vq, vc, ve, vv, vn, vl, ↓reduceIte, Nat.reduceEqDiff, Nat.reduceAdd, Nat.reduceMul, Nat.reduceSub, Nat.reduceLeDiff, Nat.reduceLT, reduceCtorEq, Int.reduceBEq, Int.reduceBNe, Int.reduceLT, Int.reduceLE, Int.reduceEq, Int.reduceToNat, Int.reduceAdd, Int.reduceSub, Int.reduceNeg, e, hl0]
      · have hp : k[i] = l[i] := by simpa using hp
        simp +contextual only [vq, vc, ve, vv, vn, vl, ↓reduceIte, Nat.reduceEqDiff, Nat.reduceAdd, Nat.reduceMul, Nat.reduceSub, Nat.reduceLeDiff, Nat.reduceLT, reduceCtorEq, Int.reduceBEq, Int.reduceBNe, Int.reduceLT, Int.reduceLE, Int.reduceEq, Int.reduceToNat, Int.reduceAdd, Int.reduceSub, Int.reduceNeg, A5, wsucc hlt (by omega)]
        exact again2 hJ (k.length - (i + 1)) (by omega) ⟨i + 1, _, rfl, rfl, by omega, by simp +contextual only [vq, vc, ve, vv, vn, vl, ↓reduceIte, Nat.reduceEqDiff, Nat.reduceAdd, Nat.reduceMul, Nat.reduceSub, Nat.reduceLeDiff, Nat.reduceLT, reduceCtorEq, Int.reduceBEq, Int.reduceBNe, Int.reduceLT, Int.reduceLE, Int.reduceEq, Int.reduceToNat, Int.reduceAdd, Int.reduceSub, Int.reduceNeg, A0, q1], by simp +contextual only [vq, vc, ve, vv, vn, vl, ↓reduceIte, Nat.reduceEqDiff, Nat.reduceAdd, Nat.reduceMul, Nat.reduceSub, Nat.reduceLeDiff, Nat.reduceLT, reduceCtorEq, Int.reduceBEq, Int.reduceBNe, Int.reduceLT, Int.reduceLE, Int.reduceEq, Int.reduceToNat, Int.reduceAdd, Int.reduceSub, Int.reduceNeg, A1, q2], by simp +contextual only [vq, vc, ve, vv, vn, vl, ↓reduceIte, Nat.reduceEqDiff, Nat.reduceAdd, Nat.reduceMul, Nat.reduceSub, Nat.reduceLeDiff, Nat.reduceLT, reduceCtorEq, Int.reduceBEq, Int.reduceBNe, Int.reduceLT, Int.reduceLE, Int.reduceEq, Int.reduceToNat, Int.reduceAdd, Int.reduceSub, Int.reduceNeg], I i hall hlt hlt hil hp⟩
    · have he : i = k.length := by omega
      subst he
      rw [List.take_length, hne, List.take_length] at hall
      rw [s1] at A0
      have e : decide (k = l) = true := by simpa using hall
      simp +contextual only [vq, vc, ve, vv, vn, vl, ↓reduceIte, Nat.reduceEqDiff, Nat.reduceAdd, Nat.reduceMul, Nat.reduceSub, Nat.reduceLeDiff, Nat.reduceLT, reduceCtorEq, Int.reduceBEq, Int.reduceBNe, Int.reduceLT, Int.reduceLE, Int.reduceEq, Int.reduceToNat, Int.reduceAdd, Int.reduceSub, Int.reduceNeg, A0, A5, e, hl0]
  · have e : decide (k = l) = false := by
      rw [decide_eq_false_iff_not]
      rintro rfl
      exact hne rfl
    have k1 : (k.length != l.length) = true := by simpa using hne
    simp +contextual only [vq, vc, ve, vv, vn, vl, ↓reduceIte, Nat.reduceEqDiff, Nat.reduceAdd, Nat.reduceMul, Nat.reduceSub, Nat.reduceLeDiff, Nat.reduceLT, reduceCtorEq, Int.reduceBEq, Int.reduceBNe, Int.reduceLT, Int.reduceLE, Int.reduceEq, Int.reduceToNat, Int.reduceAdd, Int.reduceSub, Int.reduceNeg, s1, s2, k1, e, hl0]
end Go.Proofs.YtjlpfijbnflknaaDoor.paramPrints

namespace Go.Proofs.YtjlpfijbnflknaaDoor.paramPrints
open Go.Ev hiding Comes

theorem c_l10_kept (m : Mem) (n0 n1 : Nat) (x y : EV) (l : List Par) (hx : LentP m n0 n1 x l) (hn : n1 ≤ m.bl.length) (hy : Pars G m y l) (hk : l.length ≤ 1000000000) :
    Go.Ev.Comes T G f_l10_kept [x, y] m none ⟨.val (.bool true), m, none⟩ := by
  refine comes2 T_l10_kept rfl fun M hg hlen hlow => ?_
  have hl0 : m.bl.length ≤ M.low := by omega
  have hs := c_r10_Same M x y l l ((hx.pars hn).grown hg) (hy.grown hg) (by omega)
  rw [show decide (l = l) = true by simp] at hs
  obtain ⟨b, h1, h2, rfl, h3⟩ := hx.grown hg
  rw [List.length_map] at hs ⊢
  have hw : IntKind.i64.wrap ((l.length : Int) + 70) = ((l.length + 70 : Nat) : Int) := wrap_of (by omega) (by omega)
  simp only [F_l10_kept]
  simp +contextual only [vq, vc, ve, vv, vn, vl, ↓reduceIte, Nat.reduceEqDiff, Nat.reduceAdd, Nat.reduceMul, Nat.reduceSub, Nat.reduceLeDiff, Nat.reduceLT, reduceCtorEq, Int.reduceBEq, Int.reduceBNe, Int.reduceLT, Int.reduceLE, Int.reduceEq, Int.reduceToNat, Int.reduceAdd, Int.reduceSub, Int.reduceNeg, callR_val hs, hw]
  refine loop2 (fun n st => ∃ i A, st = ⟨A, M, [], none⟩ ∧ n = l.length + 70 - i ∧ l.length ≤ i ∧ i ≤ l.length + 70 ∧ A 5 = .slice (some ⟨.mem b 0, 0⟩) (l.length + 70) (l.length + 70) 3 ∧ A 6 = .int .i64 (i : Nat)) 70 ⟨l.length, _, rfl, by omega, by omega, by omega, by simp +contextual only [vq, vc, ve, vv, vn, vl, ↓reduceIte, Nat.reduceEqDiff, Nat.reduceAdd, Nat.reduceMul, Nat.reduceSub, Nat.reduceLeDiff, Nat.reduceLT, reduceCtorEq, Int.reduceBEq, Int.reduceBNe, Int.reduceLT, Int.reduceLE, Int.reduceEq, Int.reduceToNat, Int.reduceAdd, Int.reduceSub, Int.reduceNeg], by simp +contextual only [vq, vc, ve, vv, vn, vl, ↓reduceIte, Nat.reduceEqDiff, Nat.reduceAdd, Nat.reduceMul, Nat.reduceSub, Nat.reduceLeDiff, Nat.reduceLT, reduceCtorEq, Int.reduceBEq, Int.reduceBNe, Int.reduceLT, Int.reduceLE, Int.reduceEq, Int.reduceToNat, Int.reduceAdd, Int.reduceSub, Int.reduceNeg]⟩ fun J hJ n st hI => ?_
  obtain ⟨i, A, rfl, rfl, hi, hi2, A5, A6⟩ := hI
  simp +contextual only [vq, vc, ve, vv, vn, vl, ↓reduceIte, Nat.reduceEqDiff, Nat.reduceAdd, Nat.reduceMul, Nat.reduceSub, Nat.reduceLeDiff, Nat.reduceLT, reduceCtorEq, Int.reduceBEq, Int.reduceBNe, Int.reduceLT, Int.reduceLE, Int.reduceEq, Int.reduceToNat, Int.reduceAdd, Int.reduceSub, Int.reduceNeg, A5, A6]
  refine br2_dec (fun hlt => ?_) (fun hge => ?_)
  · have hg : M.getN G ⟨.mem b 0, i * 3⟩ 3 = some (parE tilde) := h3 i _ (by
      rw [List.getElem?_append_right (by simp; omega), List.getElem?_replicate, if_pos (by simp; omega)])
    simp +contextual only [vq, vc, ve, vv, vn, vl, ↓reduceIte, Nat.reduceEqDiff, Nat.reduceAdd, Nat.reduceMul, Nat.reduceSub, Nat.reduceLeDiff, Nat.reduceLT, reduceCtorEq, Int.reduceBEq, Int.reduceBNe, Int.reduceLT, Int.reduceLE, Int.reduceEq, Int.reduceToNat, Int.reduceAdd, Int.reduceSub, Int.reduceNeg, A5, A6, hlt, hg, show parE tilde = [.str [126], .str [], .bool false] from rfl, wsucc hlt (by omega)]
    exact again2 hJ (l.length + 70 - (i + 1)) (by omega) ⟨i + 1, _, rfl, rfl, by omega, by omega, by simp +contextual only [vq, vc, ve, vv, vn, vl, ↓reduceIte, Nat.reduceEqDiff, Nat.reduceAdd, Nat.reduceMul, Nat.reduceSub, Nat.reduceLeDiff, Nat.reduceLT, reduceCtorEq, Int.reduceBEq, Int.reduceBNe, Int.reduceLT, Int.reduceLE, Int.reduceEq, Int.reduceToNat, Int.reduceAdd, Int.reduceSub, Int.reduceNeg, A5], by simp +contextual only [vq, vc, ve, vv, vn, vl, ↓reduceIte, Nat.reduceEqDiff, Nat.reduceAdd, Nat.reduceMul, Nat.reduceSub, Nat.reduceLeDiff, Nat.reduceLT, reduceCtorEq, Int.reduceBEq, Int.reduceBNe, Int.reduceLT, Int.reduceLE, Int.reduceEq, Int.reduceToNat, Int.reduceAdd, Int.reduceSub, Int.reduceNeg]⟩
  · simp +contextual only [vq, vc, ve, vv, vn, vl, ↓reduceIte, Nat.reduceEqDiff, Nat.reduceAdd, Nat.reduceMul, Nat.reduceSub, Nat.reduceLeDiff, Nat.reduceLT, reduceCtorEq, Int.reduceBEq, Int.reduceBNe, Int.reduceLT, Int.reduceLE, Int.reduceEq, Int.reduceToNat, Int.reduceAdd, Int.reduceSub, Int.reduceNeg, hl0]
end Go.Proofs.YtjlpfijbnflknaaDoor.paramPrints

namespace Go.Proofs.YtjlpfijbnflknaaDoor.paramPrints
open Go.Ev hiding Comes

theorem c_l10_lent (m : Mem) (x : EV) (l : List Par) (hx : Pars G m x l) (hN : l.length ≤ 1000000000) :
    ∃ v m', Go.Ev.Comes T G f_l10_lent [x] m none ⟨.val v, m', none⟩ ∧ Grown m m' ∧ min m.low m.bl.length ≤ m'.low ∧ LentP m' m.bl.length m'.bl.length v l := by
  suffices H : ∃ r, Go.Ev.Comes T G f_l10_lent [x] m none r ∧ ∃ v m', r = ⟨.val v, m', none⟩ ∧ Grown m m' ∧ min m.low m.bl.length ≤ m'.low ∧ LentP m' m.bl.length m'.bl.length v l by
    obtain ⟨_, hc, v, m', rfl, h⟩ := H
    exact ⟨v, m', hc, h⟩
  refine comes2P T_l10_lent rfl fun M hg hlen hlow => ?_
  obtain ⟨a0, c0, e0, sx⟩ := hx.slice
  have hw : IntKind.i64.wrap ((l.length : Int) + 70) = ((l.length + 70 : Nat) : Int) := wrap_of (by omega) (by omega)
  have hw2 : (40 : Int) * ((l.length + 70 : Nat) : Int) ≤ 281474976710656 := by omega
  have hw3 : ((40 : Nat) : Int) * ((l.length + 70 : Nat) : Int) ≤ 281474976710656 := by omega
  simp only [F_l10_lent]
  simp +contextual only [vq, vc, ve, vv, vn, vl, ↓reduceIte, Nat.reduceEqDiff, Nat.reduceAdd, Nat.reduceMul, Nat.reduceSub, Nat.reduceLeDiff, Nat.reduceLT, reduceCtorEq, Int.reduceBEq, Int.reduceBNe, Int.reduceLT, Int.reduceLE, Int.reduceEq, Int.reduceToNat, Int.reduceAdd, Int.reduceSub, Int.reduceNeg, sx, hw, hw2, hw3]
  refine new_mk fun M1 e1 => ?_
  have B1 : Buf M1 M.bl.length 3 (l.length + 70) [] := by rw [e1]; exact buf_mk rfl (by omega)
  have l1 : M1.low = M.low := by rw [e1]; rfl
  have b1 : M1.bl.length = M.bl.length + 1 := by rw [e1]; simp [Mem.push]
  have g1 : Grown M M1 := by rw [e1]; exact Grown.rfl'.push
  have hs : srcCells G M1 3 (.slice a0 l.length c0 e0) = some ((l.map parE).flatten, l.length) := by
    have := RowsAt.src (by omega) ((hx.grown hg).grown g1)
    rw [sx, List.length_map] at this
    exact this
  obtain ⟨M2, p2, B2, t2, w2⟩ := buf_append (G := G) (bytes := 40) (tag := 0) (nr := l.map parE) B1 par_len (by simp) (by omega)
  simp only [List.length_nil, Nat.zero_add, List.length_map, List.nil_append] at p2 B2
  simp +contextual only [vq, vc, ve, vv, vn, vl, ↓reduceIte, Nat.reduceEqDiff, Nat.reduceAdd, Nat.reduceMul, Nat.reduceSub, Nat.reduceLeDiff, Nat.reduceLT, reduceCtorEq, Int.reduceBEq, Int.reduceBNe, Int.reduceLT, Int.reduceLE, Int.reduceEq, Int.reduceToNat, Int.reduceAdd, Int.reduceSub, Int.reduceNeg, sx, hs, p2]
  refine loop2 (fun n st => ∃ i A N, st = ⟨A, N, [], none⟩ ∧ Grown m N ∧ m.bl.length ≤ N.low ∧ n = 70 - i ∧ i ≤ 70 ∧ A 0 = .slice a0 l.length c0 e0 ∧ A 3 = .slice (some ⟨.mem M.bl.length 0, 0⟩) (l.length + i) (l.length + 70) 3 ∧ A 11 = .int .i64 (i : Nat) ∧ Buf N M.bl.length 3 (l.length + 70) (l.map parE ++ List.replicate i (parE tilde))) 70 ⟨0, _, M2, rfl, grown_but (hg.trans g1) t2 (by omega), by omega, by omega, by omega, by simp +contextual only [vq, vc, ve, vv, vn, vl, ↓reduceIte, Nat.reduceEqDiff, Nat.reduceAdd, Nat.reduceMul, Nat.reduceSub, Nat.reduceLeDiff, Nat.reduceLT, reduceCtorEq, Int.reduceBEq, Int.reduceBNe, Int.reduceLT, Int.reduceLE, Int.reduceEq, Int.reduceToNat, Int.reduceAdd, Int.reduceSub, Int.reduceNeg, sx], by simp +contextual only [vq, vc, ve, vv, vn, vl, ↓reduceIte, Nat.reduceEqDiff, Nat.reduceAdd, Nat.reduceMul, Nat.reduceSub, Nat.reduceLeDiff, Nat.reduceLT, reduceCtorEq, Int.reduceBEq, Int.reduceBNe, Int.reduceLT, Int.reduceLE, Int.reduceEq, Int.reduceToNat, Int.reduceAdd, Int.reduceSub, Int.reduceNeg], by simp +contextual only [vq, vc, ve, vv, vn, vl, ↓reduceIte, Nat.reduceEqDiff, Nat.reduceAdd, Nat.reduceMul, Nat.reduceSub, Nat.reduceLeDiff, Nat.reduceLT, reduceCtorEq, Int.reduceBEq, Int.reduceBNe, Int.reduceLT, Int.reduceLE, Int.reduceEq, Int.reduceToNat, Int.reduceAdd, Int.reduceSub, Int.reduceNeg]; rfl, by simpa using B2⟩ fun J hJ n st hI => ?_
  obtain ⟨i, A, N, rfl, gN, lN, rfl, hi, A0, A3, A11, BN⟩ := hI
  have e70 : ((i : Int) < 70) = (i < 70) := propext ⟨fun h => by omega, fun h => by omega⟩
  simp +contextual only [vq, vc, ve, vv, vn, vl, ↓reduceIte, Nat.reduceEqDiff, Nat.reduceAdd, Nat.reduceMul, Nat.reduceSub, Nat.reduceLeDiff, Nat.reduceLT, reduceCtorEq, Int.reduceBEq, Int.reduceBNe, Int.reduceLT, Int.reduceLE, Int.reduceEq, Int.reduceToNat, Int.reduceAdd, Int.reduceSub, Int.reduceNeg, A11, e70]
  refine br2_dec (fun hlt => ?_) (fun hge => ?_)
  · simp +contextual only [vq, vc, ve, vv, vn, vl, ↓reduceIte, Nat.reduceEqDiff, Nat.reduceAdd, Nat.reduceMul, Nat.reduceSub, Nat.reduceLeDiff, Nat.reduceLT, reduceCtorEq, Int.reduceBEq, Int.reduceBNe, Int.reduceLT, Int.reduceLE, Int.reduceEq, Int.reduceToNat, Int.reduceAdd, Int.reduceSub, Int.reduceNeg, A3]
    refine new_mk fun N1 f1 => ?_
    have gN1 : Grown N N1 := by rw [f1]; exact Grown.rfl'.push
    have R1 : RowIs N1 N.bl.length [.str [126], .str [], .bool false] := by rw [f1]; exact row_push _ _
    obtain ⟨N2, p, B, t, w⟩ := buf_append (G := G) (bytes := 40) (tag := 0) (nr := [parE tilde]) (BN.grown gN1) (by simp [parE]) (by simp; omega) (by omega)
    simp only [List.length_append, List.length_map, List.length_replicate, List.flatten_cons, List.flatten_nil, List.append_nil, List.length_singleton] at p
    simp only [parE, tilde] at p
    have lN1 : N1.low = N.low := by rw [f1]; rfl
    simp +contextual only [vq, vc, ve, vv, vn, vl, ↓reduceIte, Nat.reduceEqDiff, Nat.reduceAdd, Nat.reduceMul, Nat.reduceSub, Nat.reduceLeDiff, Nat.reduceLT, reduceCtorEq, Int.reduceBEq, Int.reduceBNe, Int.reduceLT, Int.reduceLE, Int.reduceEq, Int.reduceToNat, Int.reduceAdd, Int.reduceSub, Int.reduceNeg, R1.getN (G := G), p, A11, wsucc hlt (by omega)]
    refine again2 hJ (70 - (i + 1)) (by omega) ⟨i + 1, _, N2, rfl, grown_but (gN.trans gN1) t (by omega), by omega, rfl, by omega, by simp +contextual only [vq, vc, ve, vv, vn, vl, ↓reduceIte, Nat.reduceEqDiff, Nat.reduceAdd, Nat.reduceMul, Nat.reduceSub, Nat.reduceLeDiff, Nat.reduceLT, reduceCtorEq, Int.reduceBEq, Int.reduceBNe, Int.reduceLT, Int.reduceLE, Int.reduceEq, Int.reduceToNat, Int.reduceAdd, Int.reduceSub, Int.reduceNeg, A0], by simp +contextual only [vq, vc, ve, vv, vn, vl, ↓reduceIte, Nat.reduceEqDiff, Nat.reduceAdd, Nat.reduceMul, Nat.reduceSub, Nat.reduceLeDiff, Nat.reduceLT, reduceCtorEq, Int.reduceBEq, Int.reduceBNe, Int.reduceLT, Int.reduceLE, Int.reduceEq, Int.reduceToNat, Int.reduceAdd, Int.reduceSub, Int.reduceNeg, Nat.add_assoc], by simp +contextual only [vq, vc, ve, vv, vn, vl, ↓reduceIte, Nat.reduceEqDiff, Nat.reduceAdd, Nat.reduceMul, Nat.reduceSub, Nat.reduceLeDiff, Nat.reduceLT, reduceCtorEq, Int.reduceBEq, Int.reduceBNe, Int.reduceLT, Int.reduceLE, Int.reduceEq, Int.reduceToNat, Int.reduceAdd, Int.reduceSub, Int.reduceNeg], ?_⟩
    rw [List.append_assoc] at B
    rw [List.replicate_succ']
    exact B
  · have hie : i = 70 := by omega
    subst hie
    have k1 : l.length ≤ l.length + 70 := by omega
    simp +contextual only [vq, vc, ve, vv, vn, vl, ↓reduceIte, Nat.reduceEqDiff, Nat.reduceAdd, Nat.reduceMul, Nat.reduceSub, Nat.reduceLeDiff, Nat.reduceLT, reduceCtorEq, Int.reduceBEq, Int.reduceBNe, Int.reduceLT, Int.reduceLE, Int.reduceEq, Int.reduceToNat, Int.reduceAdd, Int.reduceSub, Int.reduceNeg, A3, A0, k1]
    refine postX_new (v := .slice (some ⟨.mem M.bl.length 0, 0⟩) l.length (l.length + 70) 3) (by simp +contextual only [vq, vc, ve, vv, vn, vl, ↓reduceIte, Nat.reduceEqDiff, Nat.reduceAdd, Nat.reduceMul, Nat.reduceSub, Nat.reduceLeDiff, Nat.reduceLT, reduceCtorEq, Int.reduceBEq, Int.reduceBNe, Int.reduceLT, Int.reduceLE, Int.reduceEq, Int.reduceToNat, Int.reduceAdd, Int.reduceSub, Int.reduceNeg]) (by simp +contextual only [vq, vc, ve, vv, vn, vl, ↓reduceIte, Nat.reduceEqDiff, Nat.reduceAdd, Nat.reduceMul, Nat.reduceSub, Nat.reduceLeDiff, Nat.reduceLT, reduceCtorEq, Int.reduceBEq, Int.reduceBNe, Int.reduceLT, Int.reduceLE, Int.reduceEq, Int.reduceToNat, Int.reduceAdd, Int.reduceSub, Int.reduceNeg, hlen]) ⟨_, _, rfl, ?_, ?_, ?_⟩
    · exact gN
    · simp only; omega
    · have := lent_of_buf (G := G) (m := N) (n0 := m.bl.length) (b := M.bl.length) (esz := 3) (rows := l.map parE) (mark := parE tilde) (by omega) (by omega) (by rw [List.length_map]; exact BN)
      rw [List.length_map] at this
      exact this
end Go.Proofs.YtjlpfijbnflknaaDoor.paramPrints

namespace Go.Proofs.YtjlpfijbnflknaaDoor.paramPrints
open Go.Ev hiding Comes

theorem one_A : printP [⟨[65], [], false⟩] = ([32, 65], 0) := by decide +kernel
theorem law (m : Mem) (x : EV) (l : List Par) (hx : Pars G m x l) (hN : ParsOk l) (hl : l.length ≤ 1000000000) : Go.Ev.Comes T G f_l10_ParamPrints [x] m none ⟨.val (.bool true), m, none⟩ := by
  refine comes2 T_l10_ParamPrints rfl fun M hg hlen hlow => ?_
  have hxM := hx.grown hg
  obtain ⟨v, M1, hc1, g1, l1, L1⟩ := c_l10_lent M x l hxM hl
  have p1 := L1.pars (Nat.le_refl _)
  have hc2 := c_param_Print M1 v l p1 hN
  have hc3 := c_r10_Print M1 x l (hxM.grown g1) hN
  simp only [F_l10_ParamPrints]
  simp +contextual only [vq, vc, ve, vv, vn, vl, ↓reduceIte, Nat.reduceEqDiff, Nat.reduceAdd, Nat.reduceMul, Nat.reduceSub, Nat.reduceLeDiff, Nat.reduceLT, reduceCtorEq, Int.reduceBEq, Int.reduceBNe, Int.reduceLT, Int.reduceLE, Int.reduceEq, Int.reduceToNat, Int.reduceAdd, Int.reduceSub, Int.reduceNeg, callR_val hc1, callR_val hc2, callR_val hc3]
  refine new_mk fun M2 e2 => ?_
  have g2 : Grown M1 M2 := by rw [e2]; exact Grown.rfl'.push
  have l2 : M2.low = M1.low := by rw [e2]; rfl
  have pA : Pars G M2 (.slice (some ⟨.mem M1.bl.length 0, 0⟩) 1 1 3) [⟨[65], [], false⟩] := lit_rowsAt e2 rfl par_len
  have hc4 := c_param_Print M2 _ _ pA (by intro p hp; simp at hp; subst hp; simp)
  rw [one_A] at hc4
  have hc5 := c_l10_kept M2 M.bl.length M1.bl.length v x l (LentRows.grown g2 L1) g2.le ((hxM.grown g1).grown g2) hl
  have hlo : m.bl.length ≤ M2.low := by omega
  simp +contextual only [vq, vc, ve, vv, vn, vl, ↓reduceIte, Nat.reduceEqDiff, Nat.reduceAdd, Nat.reduceMul, Nat.reduceSub, Nat.reduceLeDiff, Nat.reduceLT, reduceCtorEq, Int.reduceBEq, Int.reduceBNe, Int.reduceLT, Int.reduceLE, Int.reduceEq, Int.reduceToNat, Int.reduceAdd, Int.reduceSub, Int.reduceNeg, callR_val hc4, callR_val hc5, hlo]

/-- A row of three cells that is a parameter. -/
theorem sits_par {N : Nat} {m : Mem} {r : List EV} (h : Sits N m (.struct [.str, .str, .bool]) r) : ∃ p : Par, r = parE p ∧ (p.name.length ≤ N ∧ p.value.length ≤ N) := by
  obtain ⟨a, b, rfl, _, h1, h2⟩ := sits_cons (sits_struct h)
  obtain ⟨c, d, rfl, _, h3, h4⟩ := sits_cons h2
  obtain ⟨e, f, rfl, _, h5, h6⟩ := sits_cons h4
  obtain rfl := sits_nil h6
  obtain ⟨s, rfl, hs⟩ := sits_str h1
  obtain ⟨t, rfl, ht⟩ := sits_str h3
  obtain ⟨u, rfl⟩ := sits_bool h5
  exact ⟨⟨s, t, u⟩, rfl, hs, ht⟩
theorem sits_pars {N : Nat} {m : Mem} {xs : List EV} (h : Sits N m (.slice (.struct [.str, .str, .bool])) xs) : ∃ v l, xs = [v] ∧ Pars G m v l ∧ l.length ≤ N ∧ ∀ p ∈ l, p.name.length ≤ N ∧ p.value.length ≤ N := by
  obtain ⟨v, rows, rfl, h1, h2, h3⟩ := sits_slice (G := G) h
  obtain ⟨l, rfl, h4⟩ := rows_of (fun r hr => sits_par (h3 r hr))
  exact ⟨v, l, rfl, h1, by simpa using h2, h4⟩
theorem lawAll (m : Mem) (xs : List EV) (hro : RO m) (hs : SitArgs 1048576 m [.slice (.struct [.str, .str, .bool])] xs) : ∃ m' p', Go.Ev.Comes T G f_l10_ParamPrints xs m none ⟨.val (.bool true), m', p'⟩ := by
  obtain ⟨ys, r, rfl, h1, _, rfl⟩ := hs
  obtain ⟨v, l, rfl, hp, hl, hb⟩ := sits_pars h1
  exact ⟨m, none, law m v l hp (fun p hp => by have := hb p hp; omega) (by omega)⟩
end Go.Proofs.YtjlpfijbnflknaaDoor.paramPrints
