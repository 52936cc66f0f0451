/- A part of the proof of the statement that this claim hands in: what single functions come to. There are no conditions. -/
import Derived.Test.YtmjoaiccbghijaaGreatDoorBkL2
import Derived.KernelRfl
import Derived.Test.YtmjoaiccbghijaaGreatDoorXEv20
import Derived.Test.YtmjoaiccbghijaaGreatDoorXEv25
import Derived.Test.YtmjoaiccbghijaaGreatDoorXEv30
set_option linter.unusedVariables false
set_option linter.unusedSimpArgs false
set_option linter.unusedSectionVars false
namespace Go.Proofs.YtmjoaiccbghijaaGreatDoor.paramBack
open Go.Ev hiding Comes
variable [GG]

theorem bad_kw2 (p : Par) : ((p.name == []) || (kwd p.name != p.name.length) || !(upS p.name == p.name)) = decide (kwd p.name = 0 ∨ kwd p.name ≠ p.name.length ∨ upS p.name ≠ p.name) := by
  rw [Bool.eq_iff_iff]
  have h0 : p.name = [] → kwd p.name = 0 := fun h => by rw [h]; rfl
  have h1 : p.name = [] ↔ p.name.length = 0 := List.length_eq_zero_iff.symm
  simp only [Bool.or_eq_true, beq_iff_eq, bne_iff_ne, Bool.not_eq_true', beq_eq_false_iff_ne, decide_eq_true_eq, or_assoc]
  constructor
  · rintro (h | h | h)
    · exact .inl (h0 h)
    · exact .inr (.inl h)
    · exact .inr (.inr h)
  · rintro (h | h | h)
    · by_cases hk : kwd p.name = p.name.length
      · exact .inl (h1.2 (by omega))
      · exact .inr (.inl hk)
    · exact .inr (.inl h)
    · exact .inr (.inr h)

theorem c_r10_Print (m : Mem) (x : EV) (l : List Par) (hx : Pars G m x l) (hN : ParsOk l) : Go.Ev.Comes T G f_r10_Print [x] m none ⟨.val (.tuple [.str (printP l).1, .int .i64 (printP l).2]), m, none⟩ := by
  refine comes2 T_r10_Print rfl fun M hg hlen hlow => ?_
  have hl0 : m.bl.length ≤ M.low := by omega
  obtain ⟨a0, c0, e0, sx⟩ := hx.slice
  have e16 : ((16 : Int) < (l.length : Int)) = (16 < l.length) := propext ⟨fun h => by omega, fun h => by omega⟩
  simp only [F_r10_Print]
  by_cases h16 : 16 < l.length
  · have hp : printP l = ([], 4) := if_pos h16
    simp +contextual only [vq, vc, ve, vv, vn, vl, ↓reduceIte, Nat.reduceEqDiff, Nat.reduceAdd, Nat.reduceMul, Nat.reduceSub, Nat.reduceLeDiff, Nat.reduceLT, Nat.reduceBEq, Nat.reduceBNe, reduceCtorEq, Int.reduceBEq, Int.reduceBNe, Int.reduceLT, Int.reduceLE, Int.reduceEq, Int.reduceToNat, Int.reduceAdd, Int.reduceSub, Int.reduceNeg, sx, e16, h16, hp, hl0]
  have hp : printP l = prs l := if_neg h16
  simp +contextual only [vq, vc, ve, vv, vn, vl, ↓reduceIte, Nat.reduceEqDiff, Nat.reduceAdd, Nat.reduceMul, Nat.reduceSub, Nat.reduceLeDiff, Nat.reduceLT, Nat.reduceBEq, Nat.reduceBNe, reduceCtorEq, Int.reduceBEq, Int.reduceBNe, Int.reduceLT, Int.reduceLE, Int.reduceEq, Int.reduceToNat, Int.reduceAdd, Int.reduceSub, Int.reduceNeg, sx, e16, h16]
  refine loop2 (fun n st => ∃ i A N, st = ⟨A, N, [], none⟩ ∧ Grown m N ∧ m.bl.length ≤ N.low ∧ n = l.length - i ∧ i ≤ l.length ∧ A 4 = .str (wrote (l.take i)) ∧ A 0 = x ∧ A 5 = .int .i64 (i : Nat) ∧ ∀ p ∈ l.take i, parBad p = 0) l.length ⟨0, _, M, rfl, hg, by omega, by omega, by omega, by simp +contextual only [vq, vc, ve, vv, vn, vl, ↓reduceIte, Nat.reduceEqDiff, Nat.reduceAdd, Nat.reduceMul, Nat.reduceSub, Nat.reduceLeDiff, Nat.reduceLT, Nat.reduceBEq, Nat.reduceBNe, reduceCtorEq, Int.reduceBEq, Int.reduceBNe, Int.reduceLT, Int.reduceLE, Int.reduceEq, Int.reduceToNat, Int.reduceAdd, Int.reduceSub, Int.reduceNeg]; rfl, by simp +contextual only [vq, vc, ve, vv, vn, vl, ↓reduceIte, Nat.reduceEqDiff, Nat.reduceAdd, Nat.reduceMul, Nat.reduceSub, Nat.reduceLeDiff, Nat.reduceLT, Nat.reduceBEq, Nat.reduceBNe, reduceCtorEq, Int.reduceBEq, Int.reduceBNe, Int.reduceLT, Int.reduceLE, Int.reduceEq, Int.reduceToNat, Int.reduceAdd, Int.reduceSub, Int.reduceNeg, sx], by simp +contextual only [vq, vc, ve, vv, vn, vl, ↓reduceIte, Nat.reduceEqDiff, Nat.reduceAdd, Nat.reduceMul, Nat.reduceSub, Nat.reduceLeDiff, Nat.reduceLT, Nat.reduceBEq, Nat.reduceBNe, reduceCtorEq, Int.reduceBEq, Int.reduceBNe, Int.reduceLT, Int.reduceLE, Int.reduceEq, Int.reduceToNat, Int.reduceAdd, Int.reduceSub, Int.reduceNeg]; rfl, by simp⟩ fun J hJ n st hI => ?_
  obtain ⟨i, A, N, rfl, gN, lN, rfl, hi, A4, A0, A5, hok⟩ := hI
  have hwl := wrote_len (l := l.take i) fun q hq => hN q (List.mem_of_mem_take hq)
  rw [List.length_take] at hwl
  rw [sx] at A0
  simp +contextual only [vq, vc, ve, vv, vn, vl, ↓reduceIte, Nat.reduceEqDiff, Nat.reduceAdd, Nat.reduceMul, Nat.reduceSub, Nat.reduceLeDiff, Nat.reduceLT, Nat.reduceBEq, Nat.reduceBNe, reduceCtorEq, Int.reduceBEq, Int.reduceBNe, Int.reduceLT, Int.reduceLE, Int.reduceEq, Int.reduceToNat, Int.reduceAdd, Int.reduceSub, Int.reduceNeg, A0, A5]
  refine br2_dec (fun hlt => ?_) (fun hge => ?_)
  · obtain ⟨a, cap, q1, _, hgp, _⟩ := (hx.grown gN).at hlt
    rw [← sx, q1] at A0
    have hpN := hN l[i] (List.getElem_mem hlt)
    simp +contextual only [vq, vc, ve, vv, vn, vl, ↓reduceIte, Nat.reduceEqDiff, Nat.reduceAdd, Nat.reduceMul, Nat.reduceSub, Nat.reduceLeDiff, Nat.reduceLT, Nat.reduceBEq, Nat.reduceBNe, reduceCtorEq, Int.reduceBEq, Int.reduceBNe, Int.reduceLT, Int.reduceLE, Int.reduceEq, Int.reduceToNat, Int.reduceAdd, Int.reduceSub, Int.reduceNeg, A0, A5, hlt, hgp, parE]
    refine new_mk fun N1 f1 => ?_
    obtain ⟨N2, p2, g2, R2, b2, w2⟩ := put_new f1 (cs := parE l[i]) rfl
    simp only [parE] at p2 R2
    have r2 := R2.lt
    have n2 : m.bl.length ≤ N2.low := by have := gN.le; omega
    have hkw := c_r10_keyword ⟨N2.bl, N2.bl.length⟩ l[i].name 0 (by omega) (by omega)
    rw [List.drop_zero] at hkw
    have hkw : Go.Ev.Comes T G f_r10_keyword [.str l[i].name, .int .i64 0] ⟨N2.bl, N2.bl.length⟩ none ⟨.val (.int .i64 (kwd l[i].name : Nat)), ⟨N2.bl, N2.bl.length⟩, none⟩ := hkw
    simp +contextual only [vq, vc, ve, vv, vn, vl, ↓reduceIte, Nat.reduceEqDiff, Nat.reduceAdd, Nat.reduceMul, Nat.reduceSub, Nat.reduceLeDiff, Nat.reduceLT, Nat.reduceBEq, Nat.reduceBNe, reduceCtorEq, Int.reduceBEq, Int.reduceBNe, Int.reduceLT, Int.reduceLE, Int.reduceEq, Int.reduceToNat, Int.reduceAdd, Int.reduceSub, Int.reduceNeg, p2, R2.get (G := G), callR_val hkw, callR_val (c_r01_Upper _ _ (show (l[i]).name.length ≤ _ by omega)), r2, bad_kw2]
    refine br2_dec (fun hb1 => ?_) (fun hb1 => ?_)
    · have e1 : parBad l[i] = 100 := if_pos hb1
      have e2 : prs l = ([], 100) := by rw [prs_bad hlt hok (by rw [e1]; omega), e1]
      simp +contextual only [vq, vc, ve, vv, vn, vl, ↓reduceIte, Nat.reduceEqDiff, Nat.reduceAdd, Nat.reduceMul, Nat.reduceSub, Nat.reduceLeDiff, Nat.reduceLT, Nat.reduceBEq, Nat.reduceBNe, reduceCtorEq, Int.reduceBEq, Int.reduceBNe, Int.reduceLT, Int.reduceLE, Int.reduceEq, Int.reduceToNat, Int.reduceAdd, Int.reduceSub, Int.reduceNeg, hp, e2, n2]
    simp +contextual only [vq, vc, ve, vv, vn, vl, ↓reduceIte, Nat.reduceEqDiff, Nat.reduceAdd, Nat.reduceMul, Nat.reduceSub, Nat.reduceLeDiff, Nat.reduceLT, Nat.reduceBEq, Nat.reduceBNe, reduceCtorEq, Int.reduceBEq, Int.reduceBNe, Int.reduceLT, Int.reduceLE, Int.reduceEq, Int.reduceToNat, Int.reduceAdd, Int.reduceSub, Int.reduceNeg, R2.get (G := G), callR_val (c_r10_value _ _ _ (show (l[i]).value.length ≤ _ by omega))]
    refine br2_mk (fun hb2 => ?_) (fun hb2 => ?_)
    · have e1 : parBad l[i] = 101 := by rw [parBad, if_neg hb1, if_pos hb2]
      have e2 : prs l = ([], 101) := by rw [prs_bad hlt hok (by rw [e1]; omega), e1]
      simp +contextual only [vq, vc, ve, vv, vn, vl, ↓reduceIte, Nat.reduceEqDiff, Nat.reduceAdd, Nat.reduceMul, Nat.reduceSub, Nat.reduceLeDiff, Nat.reduceLT, Nat.reduceBEq, Nat.reduceBNe, reduceCtorEq, Int.reduceBEq, Int.reduceBNe, Int.reduceLT, Int.reduceLE, Int.reduceEq, Int.reduceToNat, Int.reduceAdd, Int.reduceSub, Int.reduceNeg, hp, e2, n2]
    have e1 : parBad l[i] = 0 := by rw [parBad, if_neg hb1, if_neg (by rw [hb2]; simp)]
    have hok' : ∀ p ∈ l.take (i + 1), parBad p = 0 := fun p hp => by
      rw [List.take_succ_eq_append_getElem hlt] at hp
      rcases List.mem_append.1 hp with hp | hp
      · exact hok p hp
      · simp at hp; rw [hp]; exact e1
    have a1 : (wrote (l.take i)).length + 1 ≤ 9223372036854775807 := by omega
    have a2 : (wrote (l.take i) ++ [32]).length + l[i].name.length ≤ 9223372036854775807 := by simp; omega
    have a3 : (wrote (l.take i) ++ [32] ++ l[i].name).length + 1 ≤ 9223372036854775807 := by simp; omega
    have a4 : (wrote (l.take i) ++ [32] ++ l[i].name ++ [61]).length + l[i].value.length ≤ 9223372036854775807 := by simp; omega
    cases hh : l[i].has with
    | false =>
      have ew : wrote (l.take (i + 1)) = wrote (l.take i) ++ [32] ++ l[i].name := by rw [wrote_next hlt, parW, if_neg (by simp [hh]), List.append_nil]; simp
      simp +contextual only [vq, vc, ve, vv, vn, vl, ↓reduceIte, Nat.reduceEqDiff, Nat.reduceAdd, Nat.reduceMul, Nat.reduceSub, Nat.reduceLeDiff, Nat.reduceLT, Nat.reduceBEq, Nat.reduceBNe, reduceCtorEq, Int.reduceBEq, Int.reduceBNe, Int.reduceLT, Int.reduceLE, Int.reduceEq, Int.reduceToNat, Int.reduceAdd, Int.reduceSub, Int.reduceNeg, A4, R2.get (G := G), a1, a2, hh, A5, wsucc hlt (by omega)]
      exact again2 hJ (l.length - (i + 1)) (by omega) ⟨i + 1, _, N2, rfl, gN.trans g2, n2, rfl, by omega, by simp +contextual only [vq, vc, ve, vv, vn, vl, ↓reduceIte, Nat.reduceEqDiff, Nat.reduceAdd, Nat.reduceMul, Nat.reduceSub, Nat.reduceLeDiff, Nat.reduceLT, Nat.reduceBEq, Nat.reduceBNe, reduceCtorEq, Int.reduceBEq, Int.reduceBNe, Int.reduceLT, Int.reduceLE, Int.reduceEq, Int.reduceToNat, Int.reduceAdd, Int.reduceSub, Int.reduceNeg, ew], by simp +contextual only [vq, vc, ve, vv, vn, vl, ↓reduceIte, Nat.reduceEqDiff, Nat.reduceAdd, Nat.reduceMul, Nat.reduceSub, Nat.reduceLeDiff, Nat.reduceLT, Nat.reduceBEq, Nat.reduceBNe, reduceCtorEq, Int.reduceBEq, Int.reduceBNe, Int.reduceLT, Int.reduceLE, Int.reduceEq, Int.reduceToNat, Int.reduceAdd, Int.reduceSub, Int.reduceNeg, A0, q1], by simp +contextual only [vq, vc, ve, vv, vn, vl, ↓reduceIte, Nat.reduceEqDiff, Nat.reduceAdd, Nat.reduceMul, Nat.reduceSub, Nat.reduceLeDiff, Nat.reduceLT, Nat.reduceBEq, Nat.reduceBNe, reduceCtorEq, Int.reduceBEq, Int.reduceBNe, Int.reduceLT, Int.reduceLE, Int.reduceEq, Int.reduceToNat, Int.reduceAdd, Int.reduceSub, Int.reduceNeg], hok'⟩
    | true =>
      have ew : wrote (l.take (i + 1)) = wrote (l.take i) ++ [32] ++ l[i].name ++ [61] ++ l[i].value := by rw [wrote_next hlt, parW, if_pos hh]; simp
      simp +contextual only [vq, vc, ve, vv, vn, vl, ↓reduceIte, Nat.reduceEqDiff, Nat.reduceAdd, Nat.reduceMul, Nat.reduceSub, Nat.reduceLeDiff, Nat.reduceLT, Nat.reduceBEq, Nat.reduceBNe, reduceCtorEq, Int.reduceBEq, Int.reduceBNe, Int.reduceLT, Int.reduceLE, Int.reduceEq, Int.reduceToNat, Int.reduceAdd, Int.reduceSub, Int.reduceNeg, A4, R2.get (G := G), a1, a2, a3, a4, hh, A5, wsucc hlt (by omega)]
      exact again2 hJ (l.length - (i + 1)) (by omega) ⟨i + 1, _, N2, rfl, gN.trans g2, n2, rfl, by omega, by simp +contextual only [vq, vc, ve, vv, vn, vl, ↓reduceIte, Nat.reduceEqDiff, Nat.reduceAdd, Nat.reduceMul, Nat.reduceSub, Nat.reduceLeDiff, Nat.reduceLT, Nat.reduceBEq, Nat.reduceBNe, reduceCtorEq, Int.reduceBEq, Int.reduceBNe, Int.reduceLT, Int.reduceLE, Int.reduceEq, Int.reduceToNat, Int.reduceAdd, Int.reduceSub, Int.reduceNeg, ew], by simp +contextual only [vq, vc, ve, vv, vn, vl, ↓reduceIte, Nat.reduceEqDiff, Nat.reduceAdd, Nat.reduceMul, Nat.reduceSub, Nat.reduceLeDiff, Nat.reduceLT, Nat.reduceBEq, Nat.reduceBNe, reduceCtorEq, Int.reduceBEq, Int.reduceBNe, Int.reduceLT, Int.reduceLE, Int.reduceEq, Int.reduceToNat, Int.reduceAdd, Int.reduceSub, Int.reduceNeg, A0, q1], by simp +contextual only [vq, vc, ve, vv, vn, vl, ↓reduceIte, Nat.reduceEqDiff, Nat.reduceAdd, Nat.reduceMul, Nat.reduceSub, Nat.reduceLeDiff, Nat.reduceLT, Nat.reduceBEq, Nat.reduceBNe, reduceCtorEq, Int.reduceBEq, Int.reduceBNe, Int.reduceLT, Int.reduceLE, Int.reduceEq, Int.reduceToNat, Int.reduceAdd, Int.reduceSub, Int.reduceNeg], hok'⟩
  · have he : i = l.length := by omega
    subst he
    rw [List.take_length] at hok A4
    have e2 : prs l = (wrote l, 0) := prs_ok hok
    simp +contextual only [vq, vc, ve, vv, vn, vl, ↓reduceIte, Nat.reduceEqDiff, Nat.reduceAdd, Nat.reduceMul, Nat.reduceSub, Nat.reduceLeDiff, Nat.reduceLT, Nat.reduceBEq, Nat.reduceBNe, reduceCtorEq, Int.reduceBEq, Int.reduceBNe, Int.reduceLT, Int.reduceLE, Int.reduceEq, Int.reduceToNat, Int.reduceAdd, Int.reduceSub, Int.reduceNeg, A4, hp, e2, lN]
end Go.Proofs.YtmjoaiccbghijaaGreatDoor.paramBack

namespace Go.Proofs.YtmjoaiccbghijaaGreatDoor.paramBack
open Go.Ev hiding Comes
variable [GG]

theorem c_l10_same (m : Mem) (x y : EV) (k l : List Par) (hx : Pars G m x k) (hy : Pars G m y l) (hk : k.length ≤ 1000000000000) :
    Go.Ev.Comes T G f_l10_same [x, y] m none ⟨.val (.bool (decide (k = l))), m, none⟩ := by
  refine comes2 T_l10_same rfl fun M hg hlen hlow => ?_
  have hl0 : m.bl.length ≤ M.low := by omega
  have hx := hx.grown hg
  have hy := hy.grown hg
  obtain ⟨a1, c1, e1, s1⟩ := hx.slice
  obtain ⟨a2, c2, e2, s2⟩ := hy.slice
  simp only [F_l10_same]
  by_cases hne : k.length = l.length
  · simp +contextual only [vq, vc, ve, vv, vn, vl, ↓reduceIte, Nat.reduceEqDiff, Nat.reduceAdd, Nat.reduceMul, Nat.reduceSub, Nat.reduceLeDiff, Nat.reduceLT, Nat.reduceBEq, Nat.reduceBNe, reduceCtorEq, Int.reduceBEq, Int.reduceBNe, Int.reduceLT, Int.reduceLE, Int.reduceEq, Int.reduceToNat, Int.reduceAdd, Int.reduceSub, Int.reduceNeg, s1, s2, hne]
    have I : ∀ i : Nat, k.take i = l.take i → i < k.length → (hik : i < k.length) → (hil : i < l.length) → k[i] = l[i] → k.take (i + 1) = l.take (i + 1) := fun i h _ hik hil e => by
      rw [List.take_succ_eq_append_getElem hik, List.take_succ_eq_append_getElem hil, h, e]
    refine loop2 (fun n st => ∃ i A, st = ⟨A, M, [], none⟩ ∧ n = k.length - i ∧ i ≤ k.length ∧ A 0 = x ∧ A 1 = y ∧ A 12 = .int .i64 l.length ∧ A 13 = .int .i64 i ∧ k.take i = l.take i) k.length ⟨0, _, rfl, by omega, by omega, by simp +contextual only [vq, vc, ve, vv, vn, vl, ↓reduceIte, Nat.reduceEqDiff, Nat.reduceAdd, Nat.reduceMul, Nat.reduceSub, Nat.reduceLeDiff, Nat.reduceLT, Nat.reduceBEq, Nat.reduceBNe, reduceCtorEq, Int.reduceBEq, Int.reduceBNe, Int.reduceLT, Int.reduceLE, Int.reduceEq, Int.reduceToNat, Int.reduceAdd, Int.reduceSub, Int.reduceNeg, s1, hne], by simp +contextual only [vq, vc, ve, vv, vn, vl, ↓reduceIte, Nat.reduceEqDiff, Nat.reduceAdd, Nat.reduceMul, Nat.reduceSub, Nat.reduceLeDiff, Nat.reduceLT, Nat.reduceBEq, Nat.reduceBNe, reduceCtorEq, Int.reduceBEq, Int.reduceBNe, Int.reduceLT, Int.reduceLE, Int.reduceEq, Int.reduceToNat, Int.reduceAdd, Int.reduceSub, Int.reduceNeg, s2, hne], by simp +contextual only [vq, vc, ve, vv, vn, vl, ↓reduceIte, Nat.reduceEqDiff, Nat.reduceAdd, Nat.reduceMul, Nat.reduceSub, Nat.reduceLeDiff, Nat.reduceLT, Nat.reduceBEq, Nat.reduceBNe, reduceCtorEq, Int.reduceBEq, Int.reduceBNe, Int.reduceLT, Int.reduceLE, Int.reduceEq, Int.reduceToNat, Int.reduceAdd, Int.reduceSub, Int.reduceNeg, s1, hne], by simp +contextual only [vq, vc, ve, vv, vn, vl, ↓reduceIte, Nat.reduceEqDiff, Nat.reduceAdd, Nat.reduceMul, Nat.reduceSub, Nat.reduceLeDiff, Nat.reduceLT, Nat.reduceBEq, Nat.reduceBNe, reduceCtorEq, Int.reduceBEq, Int.reduceBNe, Int.reduceLT, Int.reduceLE, Int.reduceEq, Int.reduceToNat, Int.reduceAdd, Int.reduceSub, Int.reduceNeg]; rfl, by simp⟩ fun J hJ n st hI => ?_
    obtain ⟨i, A, rfl, rfl, hi, A0, A1, A12, A13, hall⟩ := hI
    by_cases hlt : i < k.length
    · have hil : i < l.length := by omega
      obtain ⟨b1, d1, q1, _, g1, o1⟩ := hx.at hlt
      obtain ⟨b2, d2, q2, _, g2, o2⟩ := hy.at hil
      rw [q1] at A0
      rw [q2] at A1
      simp +contextual only [vq, vc, ve, vv, vn, vl, ↓reduceIte, Nat.reduceEqDiff, Nat.reduceAdd, Nat.reduceMul, Nat.reduceSub, Nat.reduceLeDiff, Nat.reduceLT, Nat.reduceBEq, Nat.reduceBNe, reduceCtorEq, Int.reduceBEq, Int.reduceBNe, Int.reduceLT, Int.reduceLE, Int.reduceEq, Int.reduceToNat, Int.reduceAdd, Int.reduceSub, Int.reduceNeg, A0, A1, A12, A13, hlt, hil, g1, g2, o1, o2, par_eq]
      refine br2_mk (fun hp => ?_) (fun hp => ?_)
      · have hp : k[i] ≠ l[i] := by simpa using hp
        have e : decide (k = l) = false := by
          rw [decide_eq_false_iff_not]
          rintro rfl
          exact hp rfl
        simp +contextual only [vq, vc, ve, vv, vn, vl, ↓reduceIte, Nat.reduceEqDiff, Nat.reduceAdd, Nat.reduceMul, Nat.reduceSub, Nat.reduceLeDiff, Nat.reduceLT, Nat.reduceBEq, Nat.reduceBNe, reduceCtorEq, Int.reduceBEq, Int.reduceBNe, Int.reduceLT, Int.reduceLE, Int.reduceEq, Int.reduceToNat, Int.reduceAdd, Int.reduceSub, Int.reduceNeg, e, hl0]
      · have hp : k[i] = l[i] := by simpa using hp
        simp +contextual only [vq, vc, ve, vv, vn, vl, ↓reduceIte, Nat.reduceEqDiff, Nat.reduceAdd, Nat.reduceMul, Nat.reduceSub, Nat.reduceLeDiff, Nat.reduceLT, Nat.reduceBEq, Nat.reduceBNe, reduceCtorEq, Int.reduceBEq, Int.reduceBNe, Int.reduceLT, Int.reduceLE, Int.reduceEq, Int.reduceToNat, Int.reduceAdd, Int.reduceSub, Int.reduceNeg, A13, wsucc hlt (by omega)]
        exact again2 hJ (k.length - (i + 1)) (by omega) ⟨i + 1, _, rfl, rfl, by omega, by simp +contextual only [vq, vc, ve, vv, vn, vl, ↓reduceIte, Nat.reduceEqDiff, Nat.reduceAdd, Nat.reduceMul, Nat.reduceSub, Nat.reduceLeDiff, Nat.reduceLT, Nat.reduceBEq, Nat.reduceBNe, reduceCtorEq, Int.reduceBEq, Int.reduceBNe, Int.reduceLT, Int.reduceLE, Int.reduceEq, Int.reduceToNat, Int.reduceAdd, Int.reduceSub, Int.reduceNeg, A0, q1], by simp +contextual only [vq, vc, ve, vv, vn, vl, ↓reduceIte, Nat.reduceEqDiff, Nat.reduceAdd, Nat.reduceMul, Nat.reduceSub, Nat.reduceLeDiff, Nat.reduceLT, Nat.reduceBEq, Nat.reduceBNe, reduceCtorEq, Int.reduceBEq, Int.reduceBNe, Int.reduceLT, Int.reduceLE, Int.reduceEq, Int.reduceToNat, Int.reduceAdd, Int.reduceSub, Int.reduceNeg, A1, q2], by simp +contextual only [vq, vc, ve, vv, vn, vl, ↓reduceIte, Nat.reduceEqDiff, Nat.reduceAdd, Nat.reduceMul, Nat.reduceSub, Nat.reduceLeDiff, Nat.reduceLT, Nat.reduceBEq, Nat.reduceBNe, reduceCtorEq, Int.reduceBEq, Int.reduceBNe, Int.reduceLT, Int.reduceLE, Int.reduceEq, Int.reduceToNat, Int.reduceAdd, Int.reduceSub, Int.reduceNeg, A12], by simp +contextual only [vq, vc, ve, vv, vn, vl, ↓reduceIte, Nat.reduceEqDiff, Nat.reduceAdd, Nat.reduceMul, Nat.reduceSub, Nat.reduceLeDiff, Nat.reduceLT, Nat.reduceBEq, Nat.reduceBNe, reduceCtorEq, Int.reduceBEq, Int.reduceBNe, Int.reduceLT, Int.reduceLE, Int.reduceEq, Int.reduceToNat, Int.reduceAdd, Int.reduceSub, Int.reduceNeg], I i hall hlt hlt hil hp⟩
    · have he : i = k.length := by omega
      subst he
      rw [List.take_length, hne, List.take_length] at hall
      have e : decide (k = l) = true := by simpa using hall
      have hlt2 : ¬ k.length < l.length := by omega
      simp +contextual only [vq, vc, ve, vv, vn, vl, ↓reduceIte, Nat.reduceEqDiff, Nat.reduceAdd, Nat.reduceMul, Nat.reduceSub, Nat.reduceLeDiff, Nat.reduceLT, Nat.reduceBEq, Nat.reduceBNe, reduceCtorEq, Int.reduceBEq, Int.reduceBNe, Int.reduceLT, Int.reduceLE, Int.reduceEq, Int.reduceToNat, Int.reduceAdd, Int.reduceSub, Int.reduceNeg, A12, A13, hlt2, e, hl0]
  · have e : decide (k = l) = false := by
      rw [decide_eq_false_iff_not]
      rintro rfl
      exact hne rfl
    have k1 : (k.length != l.length) = true := by simpa using hne
    simp +contextual only [vq, vc, ve, vv, vn, vl, ↓reduceIte, Nat.reduceEqDiff, Nat.reduceAdd, Nat.reduceMul, Nat.reduceSub, Nat.reduceLeDiff, Nat.reduceLT, Nat.reduceBEq, Nat.reduceBNe, reduceCtorEq, Int.reduceBEq, Int.reduceBNe, Int.reduceLT, Int.reduceLE, Int.reduceEq, Int.reduceToNat, Int.reduceAdd, Int.reduceSub, Int.reduceNeg, s1, s2, k1, e, hl0]
end Go.Proofs.YtmjoaiccbghijaaGreatDoor.paramBack

namespace Go.Proofs.YtmjoaiccbghijaaGreatDoor.paramBack
open Go.Ev hiding Comes
variable [GG]

theorem c_octet_Bad_string (m : Mem) (c : Int) (s : List UInt8) (hN : s.length ≤ 4611686018427387904) :
    Go.Ev.Comes T G f_octet_Bad_string [.int .i64 c, .str s] m none ⟨.val (.int .i64 (sp c s : Nat)), m, none⟩ := by
  refine comes2 T_octet_Bad_string rfl fun M hg hlen hlow => ?_
  have hl : m.bl.length ≤ M.low := by omega
  have h0 := c_octet_Span_string M c s 0 (Nat.zero_le _) hN
  rw [Nat.zero_add, List.drop_zero] at h0
  have h : Go.Ev.Comes T G f_octet_Span_string [.int .i64 c, .str s, .int .i64 0] M none ⟨.val (.int .i64 (sp c s : Nat)), M, none⟩ := h0
  simp only [F_octet_Bad_string]
  simp +contextual only [vq, vc, ve, vv, vn, vl, ↓reduceIte, Nat.reduceEqDiff, Nat.reduceAdd, Nat.reduceMul, Nat.reduceSub, Nat.reduceLeDiff, Nat.reduceLT, Nat.reduceBEq, Nat.reduceBNe, reduceCtorEq, Int.reduceBEq, Int.reduceBNe, Int.reduceLT, Int.reduceLE, Int.reduceEq, Int.reduceToNat, Int.reduceAdd, Int.reduceSub, Int.reduceNeg, callR_val h, hl]
end Go.Proofs.YtmjoaiccbghijaaGreatDoor.paramBack

namespace Go.Proofs.YtmjoaiccbghijaaGreatDoor.paramBack
open Go.Ev hiding Comes
open Go.Ev (FitsO OrcOk OrcRun GPlain)

theorem mixW : Tryz.prog.follows .mixedOrders = true := by kernel_rfl
theorem fitsW : FitsO Tryz.prog Tg := fun _ _ h => .inl h
theorem orcW (base : Nat) (w0 : World) : OrcOk Tryz.prog Tg tabG base w0 := by
  intro f ef o args m v j w vs hf hp ho hm hv
  exact absurd hp (getF_num hf)
theorem gplain : GPlain tabG := by
  intro g cs h
  unfold tabG at h
  split at h
  · cases h; exact (show tabRow.all plainV = true by kernel_rfl)
  · cases h
def isYes : Option CR → Bool
  | some ⟨.val (.bool true), _, _⟩ => true
  | _ => false
theorem isYes_spec {r : Option CR} (h : isYes r = true) : ∃ m p, r = some ⟨.val (.bool true), m, p⟩ := by
  unfold isYes at h
  split at h
  · exact ⟨_, _, rfl⟩
  · cases h
theorem run : isYes (evFunL Tg tabG 3000 f_l10_wakes [] ⟨[], 0⟩ none) = true := by kernel_rfl
theorem known : OrcRun Tg tabG f_l10_wakes yes0 := by
  intro args v h
  unfold yes0 at h
  split at h
  · cases h
    obtain ⟨m, p, e⟩ := isYes_spec run
    exact ⟨rfl, rfl, m, p, comes_of_run e⟩
  · cases h
theorem fitsT : FitsO Tryz.prog T := by
  intro f ef h
  unfold T at h
  split at h
  · cases h; exact .inr ⟨_, rfl⟩
  · exact .inl h
theorem tW : ∃ ef, Tg f_l10_wakes = some ef ∧ ef.prim = none := by
  obtain ⟨ef, hef⟩ : ∃ ef, Tg f_l10_wakes = some ef := Option.isSome_iff_exists.1 (show (Tg f_l10_wakes).isSome = true by kernel_rfl)
  refine ⟨ef, hef, ?_⟩
  have : (Tg f_l10_wakes).bind (·.prim) = none := by kernel_rfl
  rw [hef] at this
  exact this
theorem orcT (base : Nat) (w0 : World) : OrcOk Tryz.prog T tabG base w0 := by
  intro f ef o args m v j w vs hf hp ho hm hv
  unfold T at hf
  split at hf
  · rename_i h4
    cases hf
    cases hp
    obtain ⟨e4, he4, hp4⟩ := tW
    have h4 : f = f_l10_wakes := h4
    subst h4
    exact orc_run mixW fitsW gplain orcW he4 hp4 known ho hm hv
  · exact absurd hp (getF_num hf)
/-- What the law's first call comes to. -/
theorem c_l10_wakes [GG] (m : Mem) : Go.Ev.Comes T G f_l10_wakes [] m none ⟨.val (.bool true), m, none⟩ := ⟨1, rfl⟩
end Go.Proofs.YtmjoaiccbghijaaGreatDoor.paramBack

namespace Go.Proofs.YtmjoaiccbghijaaGreatDoor.paramBack
open Go.Ev hiding Comes
variable [GG]

/-- A row of three cells that is a parameter. -/
theorem sits_par {N : Nat} {m : Mem} {r : List EV} (h : Sits N m (.struct [.str, .str, .bool]) r) : ∃ p : Par, r = parE p ∧ (p.name.length ≤ N ∧ p.value.length ≤ N) := by
  obtain ⟨a, b, rfl, _, h1, h2⟩ := sits_cons (sits_struct h)
  obtain ⟨c, d, rfl, _, h3, h4⟩ := sits_cons h2
  obtain ⟨e, f, rfl, _, h5, h6⟩ := sits_cons h4
  obtain rfl := sits_nil h6
  obtain ⟨s, rfl, hs⟩ := sits_str h1
  obtain ⟨t, rfl, ht⟩ := sits_str h3
  obtain ⟨u, rfl⟩ := sits_bool h5
  exact ⟨⟨s, t, u⟩, rfl, hs, ht⟩
theorem sits_pars {N : Nat} {m : Mem} {xs : List EV} (h : Sits N m (.slice (.struct [.str, .str, .bool])) xs) : ∃ v l, xs = [v] ∧ Pars G m v l ∧ l.length ≤ N ∧ ∀ p ∈ l, p.name.length ≤ N ∧ p.value.length ≤ N := by
  obtain ⟨v, rows, rfl, h1, h2, h3⟩ := sits_slice (G := G) h
  obtain ⟨l, rfl, h4⟩ := rows_of (fun r hr => sits_par (h3 r hr))
  exact ⟨v, l, rfl, h1, by simpa using h2, h4⟩
end Go.Proofs.YtmjoaiccbghijaaGreatDoor.paramBack

namespace Go.Proofs.YtmjoaiccbghijaaGreatDoor.paramBack
open Go.Ev hiding Comes
variable [GG]

theorem wrote_le {N : Nat} : ∀ {l : List Par}, (∀ p ∈ l, p.name.length ≤ N ∧ p.value.length ≤ N) → (wrote l).length ≤ l.length * (2 * N + 2)
  | [], _ => by simp [wrote]
  | p :: l, h => by
    have h1 := h p (List.mem_cons_self ..)
    have h2 := wrote_le (l := l) (fun q hq => h q (List.mem_cons_of_mem _ hq))
    have h3 : (parW p).length ≤ 2 * N + 2 := by
      unfold parW
      split <;> simp <;> omega
    rw [wrote_cons, List.length_append, List.length_cons, Nat.succ_mul]
    omega
theorem pair_eq (a b : Int) : eqCells [2, 2] [.int .i64 a, .int .i64 b] [.int .i64 a, .int .i64 b] = some true := by simp [eqCells, eqCell]
theorem law (m : Mem) (x : EV) (l : List Par) (hx : Pars G m x l) (hN : ∀ p ∈ l, p.name.length ≤ 1048576 ∧ p.value.length ≤ 1048576) (hl : l.length ≤ 1048576) : Go.Ev.Comes T G f_l10_ParamBack [x] m none ⟨.val (.bool true), m, none⟩ := by
  refine comes2 T_l10_ParamBack rfl fun M hg hlen hlow => ?_
  have hl0 : m.bl.length ≤ M.low := by omega
  have hxM := hx.grown hg
  have hok : ParsOk l := fun p hp => by have := hN p hp; omega
  have hP := c_param_Print M x l hxM hok
  have hR := c_r10_Print M x l hxM hok
  have p0 := print_0 (l := l)
  have p1 := print_err (l := l)
  generalize printP l = r at hP hR p0 p1
  obtain ⟨s, e⟩ := r
  simp only at hP hR p0 p1
  simp only [F_l10_ParamBack]
  by_cases he : e = 0
  · subst he
    obtain ⟨hb, h16, rfl⟩ := p0 rfl
    have hsl := wrote_le hN
    have hsl2 : (wrote l).length ≤ 50000000 := by
      have : l.length * (2 * 1048576 + 2) ≤ 16 * (2 * 1048576 + 2) := Nat.mul_le_mul_right _ h16
      omega
    have hpt : parseS true (wrote l) ((wrote l).length + 1) 0 [] = (l, 0, 0) := by
      have := parse_wrote (w := true) (s := wrote l) l ((wrote l).length + 1) 0 [] (by simp) hb (by simpa using h16) (by omega) (fun p hp hh => (parBad_0 (hb p hp)).2.2.2.1 hh)
      simpa using this
    obtain ⟨_, hc5, v5, M1, k5, rfl, g1, l1, q5, _⟩ := c_param_Parse M (wrote l) true (by omega)
    rw [hpt] at hc5 q5
    simp only at hc5 q5
    simp +contextual only [vq, vc, ve, vv, vn, vl, ↓reduceIte, Nat.reduceEqDiff, Nat.reduceAdd, Nat.reduceMul, Nat.reduceSub, Nat.reduceLeDiff, Nat.reduceLT, Nat.reduceBEq, Nat.reduceBNe, reduceCtorEq, Int.reduceBEq, Int.reduceBNe, Int.reduceLT, Int.reduceLE, Int.reduceEq, Int.reduceToNat, Int.reduceAdd, Int.reduceSub, Int.reduceNeg, callR_val (c_l10_wakes M), callR_val hP, callR_val hR, callR_val hc5]
    refine new_mk fun M2 e2 => ?_
    obtain ⟨M3, w3, R6, g3, l3⟩ := pair_store (a := .int .i64 0) (b := .int .i64 0) e2
    obtain ⟨_, hc7, v7, M4, k7, rfl, g4, l4, q7, _⟩ := c_param_Parse M3 (wrote l) false (by omega)
    have hle0 := hg.le
    have hle1 := g1.le
    have hle3 := g3.le
    have hle4 := g4.le
    by_cases hpl : ∀ z ∈ wrote l, isF 13 z.toNat = true
    · have hpf : parseS false (wrote l) ((wrote l).length + 1) 0 [] = (l, 0, 0) := by
        have := parse_wrote (w := false) (s := wrote l) l ((wrote l).length + 1) 0 [] (by simp) hb (by simpa using h16) (by omega) ((wrote_13 hb).1 hpl)
        simpa using this
      rw [hpf] at hc7 q7
      simp only at hc7 q7
      simp +contextual only [vq, vc, ve, vv, vn, vl, ↓reduceIte, Nat.reduceEqDiff, Nat.reduceAdd, Nat.reduceMul, Nat.reduceSub, Nat.reduceLeDiff, Nat.reduceLT, Nat.reduceBEq, Nat.reduceBNe, reduceCtorEq, Int.reduceBEq, Int.reduceBNe, Int.reduceLT, Int.reduceLE, Int.reduceEq, Int.reduceToNat, Int.reduceAdd, Int.reduceSub, Int.reduceNeg, w3, callR_val hc7]
      refine new_mk fun M5 e5 => ?_
      obtain ⟨M6, w6, R8, g6, l6⟩ := pair_store (a := .int .i64 0) (b := .int .i64 0) e5
      have hle6 := g6.le
      have hsp : (sp 13 (wrote l) == (wrote l).length) = true := by
        rw [beq_iff_eq]
        exact tw_end hpl
      have gA := (g3.trans g4).trans g6
      have hS5 := c_l10_same M6 v5 x l l (priv_pars (q5.grown gA)) (hxM.grown (g1.trans gA)) (by omega)
      have hS7 := c_l10_same M6 v7 x l l (priv_pars (q7.grown g6)) (hxM.grown (g1.trans gA)) (by omega)
      rw [decide_eq_true rfl] at hS5 hS7
      have hlo : m.bl.length ≤ M6.low := by omega
      have R6' := R6.grown (g4.trans g6)
      simp +contextual only [vq, vc, ve, vv, vn, vl, ↓reduceIte, Nat.reduceEqDiff, Nat.reduceAdd, Nat.reduceMul, Nat.reduceSub, Nat.reduceLeDiff, Nat.reduceLT, Nat.reduceBEq, Nat.reduceBNe, reduceCtorEq, Int.reduceBEq, Int.reduceBNe, Int.reduceLT, Int.reduceLE, Int.reduceEq, Int.reduceToNat, Int.reduceAdd, Int.reduceSub, Int.reduceNeg, w6, callR_val (c_octet_Bad_string M6 13 (wrote l) (by omega)), hsp, R6'.getN (G := G), pair_eq, callR_val hS5, R8.get (G := G), callR_val hS7, hlo]
    · have hpf := parse_wrote_bad (w := false) (s := wrote l) l ((wrote l).length + 1) 0 [] (by simp) hb (by simpa using h16) (by omega) (by
        obtain ⟨p, hp, hh, hv⟩ := Classical.byContradiction (p := ∃ p ∈ l, p.has = true ∧ ¬ badV false p.value < 0) fun hno => hpl ((wrote_13 hb).2 fun p hp hh => Classical.byContradiction fun hv => hno ⟨p, hp, hh, hv⟩)
        exact ⟨p, hp, hh, by omega⟩)
      generalize parseS false (wrote l) ((wrote l).length + 1) 0 [] = res at hc7 q7 hpf
      obtain ⟨l2, ee, aa⟩ := res
      simp only at hc7 q7 hpf
      subst hpf
      simp +contextual only [vq, vc, ve, vv, vn, vl, ↓reduceIte, Nat.reduceEqDiff, Nat.reduceAdd, Nat.reduceMul, Nat.reduceSub, Nat.reduceLeDiff, Nat.reduceLT, Nat.reduceBEq, Nat.reduceBNe, reduceCtorEq, Int.reduceBEq, Int.reduceBNe, Int.reduceLT, Int.reduceLE, Int.reduceEq, Int.reduceToNat, Int.reduceAdd, Int.reduceSub, Int.reduceNeg, w3, callR_val hc7]
      refine new_mk fun M5 e5 => ?_
      obtain ⟨M6, w6, R8, g6, l6⟩ := pair_store (a := .int .i64 101) (b := .int .i64 aa) e5
      have hle6 := g6.le
      have hsp : (sp 13 (wrote l) == (wrote l).length) = false := by
        rw [beq_eq_false_iff_ne]
        exact fun h => hpl (tw_all h)
      have gA := (g3.trans g4).trans g6
      have hS5 := c_l10_same M6 v5 x l l (priv_pars (q5.grown gA)) (hxM.grown (g1.trans gA)) (by omega)
      rw [decide_eq_true rfl] at hS5
      have hlo : m.bl.length ≤ M6.low := by omega
      have R6' := R6.grown (g4.trans g6)
      simp +contextual only [vq, vc, ve, vv, vn, vl, ↓reduceIte, Nat.reduceEqDiff, Nat.reduceAdd, Nat.reduceMul, Nat.reduceSub, Nat.reduceLeDiff, Nat.reduceLT, Nat.reduceBEq, Nat.reduceBNe, reduceCtorEq, Int.reduceBEq, Int.reduceBNe, Int.reduceLT, Int.reduceLE, Int.reduceEq, Int.reduceToNat, Int.reduceAdd, Int.reduceSub, Int.reduceNeg, w6, callR_val (c_octet_Bad_string M6 13 (wrote l) (by omega)), hsp, R6'.getN (G := G), pair_eq, callR_val hS5, R8.get (G := G), hlo]
  · have z : (e != 0) = true := by simpa using he
    have hs := p1 he
    subst hs
    simp +contextual only [vq, vc, ve, vv, vn, vl, ↓reduceIte, Nat.reduceEqDiff, Nat.reduceAdd, Nat.reduceMul, Nat.reduceSub, Nat.reduceLeDiff, Nat.reduceLT, Nat.reduceBEq, Nat.reduceBNe, reduceCtorEq, Int.reduceBEq, Int.reduceBNe, Int.reduceLT, Int.reduceLE, Int.reduceEq, Int.reduceToNat, Int.reduceAdd, Int.reduceSub, Int.reduceNeg, callR_val (c_l10_wakes M), callR_val hP, callR_val hR, z, hl0]
theorem lawAll (m : Mem) (xs : List EV) (hro : RO m) (hs : SitArgs 1048576 m [.slice (.struct [.str, .str, .bool])] xs) : ∃ m' p', Go.Ev.Comes T G f_l10_ParamBack xs m none ⟨.val (.bool true), m', p'⟩ := by
  obtain ⟨ys, r, rfl, h1, _, rfl⟩ := hs
  obtain ⟨v, l, rfl, hp, hl, hb⟩ := sits_pars h1
  exact ⟨m, none, law m v l hp hb hl⟩
end Go.Proofs.YtmjoaiccbghijaaGreatDoor.paramBack
