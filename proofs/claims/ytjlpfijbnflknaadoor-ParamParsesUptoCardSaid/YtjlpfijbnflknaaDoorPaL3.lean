/- A part of the proof of the statement that this claim hands in: what single functions come to. There are no conditions. -/
import Derived.Test.YtjlpfijbnflknaaDoorPaL2
import Derived.Test.YtjlpfijbnflknaaDoorPaEv20
import Derived.Test.YtjlpfijbnflknaaDoorPaEv30
import Derived.Test.YtjlpfijbnflknaaDoorPaEv34
set_option linter.unusedVariables false
set_option linter.unusedSimpArgs false
set_option linter.unusedSectionVars false
namespace Go.Proofs.YtjlpfijbnflknaaDoor.paramParses
open Go.Ev hiding Comes
variable [GG]

theorem weak_put {m : Mem} {w o : Nat} {vs : List EV} (h : o + vs.length ≤ w) : m.putN ⟨.weak w, o⟩ vs = some m := by
  simp only [Mem.putN, Mem.write, if_pos h]
theorem weak_app {m : Mem} {w l n : Nat} {new : List EV} (hn : n ≠ 0) (h : (l + n) * 40 ≤ 140737488355328) : appendE G m 3 40 0 (.slice (some ⟨.weak w, 0⟩) l l 3) new n = some (.slice (some ⟨.weak ((l + n) * 3), 0⟩) (l + n) (l + n) 3, m) := by
  simp only [appendE]
  rw [if_neg (by omega), if_neg (by omega), if_pos h]
theorem c_l10_spoil (m : Mem) (b g n c : Nat) (cs : List EV) (hb : m.bl[b]? = some (.cells cs g true)) (hn : n ≤ 1000000000) :
    Go.Ev.Comes T G f_l10_spoil [.slice (some ⟨.mem b g, 0⟩) n c 3] m none ⟨.val (.tuple []), ⟨m.bl.set b (.dead (g + 1)), min m.low b⟩, none⟩ := by
  refine comes2W (q := ([.slice (some ⟨.weak (n * 3), 0⟩) n n 3], ⟨m.bl.set b (.dead (g + 1)), min m.low b⟩)) T_l10_spoil rfl (by simp only [weakE, hb, and_self, if_true]) fun M hg hlen hlow => ?_
  simp only [F_l10_spoil]
  simp only at hg hlen hlow ⊢
  generalize (m.bl.set b (Blk.dead (g + 1))).length = n0 at hlen hlow
  simp +contextual only [vq, vc, ve, vv, vn, vl, ↓reduceIte, Nat.reduceEqDiff, Nat.reduceAdd, Nat.reduceMul, Nat.reduceSub, Nat.reduceLeDiff, Nat.reduceLT, Nat.reduceBEq, Nat.reduceBNe, reduceCtorEq, Int.reduceBEq, Int.reduceBNe, Int.reduceLT, Int.reduceLE, Int.reduceEq, Int.reduceToNat, Int.reduceAdd, Int.reduceSub, Int.reduceNeg]
  refine loop2 (fun q st => ∃ (i : Nat) (A : Fr), st = ⟨A, M, [], none⟩ ∧ q = n - i ∧ i ≤ n ∧ A 0 = .slice (some ⟨.weak (n * 3), 0⟩) n n 3 ∧ A 6 = .int .i64 (n : Nat) ∧ A 7 = .int .i64 (i : Nat)) n ⟨0, _, rfl, by omega, by omega, by simp +contextual only [vq, vc, ve, vv, vn, vl, ↓reduceIte, Nat.reduceEqDiff, Nat.reduceAdd, Nat.reduceMul, Nat.reduceSub, Nat.reduceLeDiff, Nat.reduceLT, Nat.reduceBEq, Nat.reduceBNe, reduceCtorEq, Int.reduceBEq, Int.reduceBNe, Int.reduceLT, Int.reduceLE, Int.reduceEq, Int.reduceToNat, Int.reduceAdd, Int.reduceSub, Int.reduceNeg], by simp +contextual only [vq, vc, ve, vv, vn, vl, ↓reduceIte, Nat.reduceEqDiff, Nat.reduceAdd, Nat.reduceMul, Nat.reduceSub, Nat.reduceLeDiff, Nat.reduceLT, Nat.reduceBEq, Nat.reduceBNe, reduceCtorEq, Int.reduceBEq, Int.reduceBNe, Int.reduceLT, Int.reduceLE, Int.reduceEq, Int.reduceToNat, Int.reduceAdd, Int.reduceSub, Int.reduceNeg], by simp +contextual only [vq, vc, ve, vv, vn, vl, ↓reduceIte, Nat.reduceEqDiff, Nat.reduceAdd, Nat.reduceMul, Nat.reduceSub, Nat.reduceLeDiff, Nat.reduceLT, Nat.reduceBEq, Nat.reduceBNe, reduceCtorEq, Int.reduceBEq, Int.reduceBNe, Int.reduceLT, Int.reduceLE, Int.reduceEq, Int.reduceToNat, Int.reduceAdd, Int.reduceSub, Int.reduceNeg]; rfl⟩ fun J hJ q st hI => ?_
  obtain ⟨i, A, rfl, rfl, hi, A0, A6, A7⟩ := hI
  by_cases hlt : i < n
  · have hp := weak_put (m := M) (w := n * 3) (o := i * 3) (vs := [.str [33], .str [], .bool false]) (by simp; omega)
    simp +contextual only [vq, vc, ve, vv, vn, vl, ↓reduceIte, Nat.reduceEqDiff, Nat.reduceAdd, Nat.reduceMul, Nat.reduceSub, Nat.reduceLeDiff, Nat.reduceLT, Nat.reduceBEq, Nat.reduceBNe, reduceCtorEq, Int.reduceBEq, Int.reduceBNe, Int.reduceLT, Int.reduceLE, Int.reduceEq, Int.reduceToNat, Int.reduceAdd, Int.reduceSub, Int.reduceNeg, A0, A6, A7, hlt, hp, wsucc hlt (by omega)]
    exact again2 hJ (n - (i + 1)) (by omega) ⟨i + 1, _, rfl, rfl, by omega, by simp +contextual only [vq, vc, ve, vv, vn, vl, ↓reduceIte, Nat.reduceEqDiff, Nat.reduceAdd, Nat.reduceMul, Nat.reduceSub, Nat.reduceLeDiff, Nat.reduceLT, Nat.reduceBEq, Nat.reduceBNe, reduceCtorEq, Int.reduceBEq, Int.reduceBNe, Int.reduceLT, Int.reduceLE, Int.reduceEq, Int.reduceToNat, Int.reduceAdd, Int.reduceSub, Int.reduceNeg, A0], by simp +contextual only [vq, vc, ve, vv, vn, vl, ↓reduceIte, Nat.reduceEqDiff, Nat.reduceAdd, Nat.reduceMul, Nat.reduceSub, Nat.reduceLeDiff, Nat.reduceLT, Nat.reduceBEq, Nat.reduceBNe, reduceCtorEq, Int.reduceBEq, Int.reduceBNe, Int.reduceLT, Int.reduceLE, Int.reduceEq, Int.reduceToNat, Int.reduceAdd, Int.reduceSub, Int.reduceNeg, A6], by simp +contextual only [vq, vc, ve, vv, vn, vl, ↓reduceIte, Nat.reduceEqDiff, Nat.reduceAdd, Nat.reduceMul, Nat.reduceSub, Nat.reduceLeDiff, Nat.reduceLT, Nat.reduceBEq, Nat.reduceBNe, reduceCtorEq, Int.reduceBEq, Int.reduceBNe, Int.reduceLT, Int.reduceLE, Int.reduceEq, Int.reduceToNat, Int.reduceAdd, Int.reduceSub, Int.reduceNeg]⟩
  · simp +contextual only [vq, vc, ve, vv, vn, vl, ↓reduceIte, Nat.reduceEqDiff, Nat.reduceAdd, Nat.reduceMul, Nat.reduceSub, Nat.reduceLeDiff, Nat.reduceLT, Nat.reduceBEq, Nat.reduceBNe, reduceCtorEq, Int.reduceBEq, Int.reduceBNe, Int.reduceLT, Int.reduceLE, Int.reduceEq, Int.reduceToNat, Int.reduceAdd, Int.reduceSub, Int.reduceNeg, A0, A6, A7, hlt]
    refine loop2 (fun q st => ∃ (i : Nat) (A : Fr) (N : Mem), st = ⟨A, N, [], none⟩ ∧ q = 20 - i ∧ i ≤ 20 ∧ A 0 = .slice (some ⟨.weak (n * 3), 0⟩) n n 3 ∧ A 3 = .slice (some ⟨.weak ((n + i) * 3), 0⟩) (n + i) (n + i) 3 ∧ A 16 = .int .i64 (i : Nat) ∧ n0 ≤ N.low) 20 ⟨0, _, M, rfl, rfl, by omega, by simp +contextual only [vq, vc, ve, vv, vn, vl, ↓reduceIte, Nat.reduceEqDiff, Nat.reduceAdd, Nat.reduceMul, Nat.reduceSub, Nat.reduceLeDiff, Nat.reduceLT, Nat.reduceBEq, Nat.reduceBNe, reduceCtorEq, Int.reduceBEq, Int.reduceBNe, Int.reduceLT, Int.reduceLE, Int.reduceEq, Int.reduceToNat, Int.reduceAdd, Int.reduceSub, Int.reduceNeg, A0], by simp +contextual only [vq, vc, ve, vv, vn, vl, ↓reduceIte, Nat.reduceEqDiff, Nat.reduceAdd, Nat.reduceMul, Nat.reduceSub, Nat.reduceLeDiff, Nat.reduceLT, Nat.reduceBEq, Nat.reduceBNe, reduceCtorEq, Int.reduceBEq, Int.reduceBNe, Int.reduceLT, Int.reduceLE, Int.reduceEq, Int.reduceToNat, Int.reduceAdd, Int.reduceSub, Int.reduceNeg], by simp +contextual only [vq, vc, ve, vv, vn, vl, ↓reduceIte, Nat.reduceEqDiff, Nat.reduceAdd, Nat.reduceMul, Nat.reduceSub, Nat.reduceLeDiff, Nat.reduceLT, Nat.reduceBEq, Nat.reduceBNe, reduceCtorEq, Int.reduceBEq, Int.reduceBNe, Int.reduceLT, Int.reduceLE, Int.reduceEq, Int.reduceToNat, Int.reduceAdd, Int.reduceSub, Int.reduceNeg]; rfl, by omega⟩ fun J2 hJ2 q st hI => ?_
    clear A0 A6 A7 hlt
    obtain ⟨i, A, N, rfl, rfl, hi, A0, A3, A16, hlN⟩ := hI
    have e20 : ((i : Int) < 20) = (i < 20) := propext (by omega)
    by_cases hlt : i < 20
    · simp +contextual only [vq, vc, ve, vv, vn, vl, ↓reduceIte, Nat.reduceEqDiff, Nat.reduceAdd, Nat.reduceMul, Nat.reduceSub, Nat.reduceLeDiff, Nat.reduceLT, Nat.reduceBEq, Nat.reduceBNe, reduceCtorEq, Int.reduceBEq, Int.reduceBNe, Int.reduceLT, Int.reduceLE, Int.reduceEq, Int.reduceToNat, Int.reduceAdd, Int.reduceSub, Int.reduceNeg, A3, A16, e20, hlt]
      refine new_mk fun N1 n1 => ?_
      have R1 : RowIs N1 N.bl.length [.str [33], .str [], .bool false] := by rw [n1]; exact row_push _ _
      have lN1 : n0 ≤ N1.low := by rw [n1]; exact hlN
      have ha := weak_app (m := N1) (w := (n + i) * 3) (l := n + i) (n := 1) (new := [.str [33], .str [], .bool false]) (by omega) (by omega)
      simp +contextual only [vq, vc, ve, vv, vn, vl, ↓reduceIte, Nat.reduceEqDiff, Nat.reduceAdd, Nat.reduceMul, Nat.reduceSub, Nat.reduceLeDiff, Nat.reduceLT, Nat.reduceBEq, Nat.reduceBNe, reduceCtorEq, Int.reduceBEq, Int.reduceBNe, Int.reduceLT, Int.reduceLE, Int.reduceEq, Int.reduceToNat, Int.reduceAdd, Int.reduceSub, Int.reduceNeg, R1.getN (G := G), ha, A16, wsucc hlt (by omega)]
      exact again2 hJ2 (20 - (i + 1)) (by omega) ⟨i + 1, _, N1, rfl, rfl, by omega, by simp +contextual only [vq, vc, ve, vv, vn, vl, ↓reduceIte, Nat.reduceEqDiff, Nat.reduceAdd, Nat.reduceMul, Nat.reduceSub, Nat.reduceLeDiff, Nat.reduceLT, Nat.reduceBEq, Nat.reduceBNe, reduceCtorEq, Int.reduceBEq, Int.reduceBNe, Int.reduceLT, Int.reduceLE, Int.reduceEq, Int.reduceToNat, Int.reduceAdd, Int.reduceSub, Int.reduceNeg, A0], by simp +contextual only [vq, vc, ve, vv, vn, vl, ↓reduceIte, Nat.reduceEqDiff, Nat.reduceAdd, Nat.reduceMul, Nat.reduceSub, Nat.reduceLeDiff, Nat.reduceLT, Nat.reduceBEq, Nat.reduceBNe, reduceCtorEq, Int.reduceBEq, Int.reduceBNe, Int.reduceLT, Int.reduceLE, Int.reduceEq, Int.reduceToNat, Int.reduceAdd, Int.reduceSub, Int.reduceNeg, Nat.add_assoc], by simp +contextual only [vq, vc, ve, vv, vn, vl, ↓reduceIte, Nat.reduceEqDiff, Nat.reduceAdd, Nat.reduceMul, Nat.reduceSub, Nat.reduceLeDiff, Nat.reduceLT, Nat.reduceBEq, Nat.reduceBNe, reduceCtorEq, Int.reduceBEq, Int.reduceBNe, Int.reduceLT, Int.reduceLE, Int.reduceEq, Int.reduceToNat, Int.reduceAdd, Int.reduceSub, Int.reduceNeg], lN1⟩
    · simp +contextual only [vq, vc, ve, vv, vn, vl, ↓reduceIte, Nat.reduceEqDiff, Nat.reduceAdd, Nat.reduceMul, Nat.reduceSub, Nat.reduceLeDiff, Nat.reduceLT, Nat.reduceBEq, Nat.reduceBNe, reduceCtorEq, Int.reduceBEq, Int.reduceBNe, Int.reduceLT, Int.reduceLE, Int.reduceEq, Int.reduceToNat, Int.reduceAdd, Int.reduceSub, Int.reduceNeg, A0, A16, e20, hlt]
      refine new_mk fun N1 n1 => ?_
      have lN1 : n0 ≤ N1.low := by rw [n1]; exact hlN
      have hrl : (repE 70 [EV.str [], .str [], .bool false]).length = 210 := rfl
      have R1 : RowIs N1 N.bl.length (repE 70 [.str [], .str [], .bool false]) := by rw [n1]; exact row_push _ _
      have hg1 : N1.getN G ⟨.mem N.bl.length 0, 0⟩ 210 = some (repE 70 [.str [], .str [], .bool false]) := by
        rw [R1.getN, if_neg (by omega), if_pos (by omega), List.drop_zero, List.take_of_length_le (by omega)]
      generalize repE 70 [EV.str [], .str [], .bool false] = new at hg1
      have ha := weak_app (m := N1) (w := n * 3) (l := n) (n := 70) (new := new) (by omega) (by omega)
      have hp := weak_put (m := N1) (w := (n + 70) * 3) (o := 0) (vs := [.str [33], .str [], .bool false]) (by simp; omega)
      have k1 : (0 : Int) < ((n + 70 : Nat) : Int) := by omega
      have k2 : 0 < n + 70 := by omega
      simp +contextual only [vq, vc, ve, vv, vn, vl, ↓reduceIte, Nat.reduceEqDiff, Nat.reduceAdd, Nat.reduceMul, Nat.reduceSub, Nat.reduceLeDiff, Nat.reduceLT, Nat.reduceBEq, Nat.reduceBNe, reduceCtorEq, Int.reduceBEq, Int.reduceBNe, Int.reduceLT, Int.reduceLE, Int.reduceEq, Int.reduceToNat, Int.reduceAdd, Int.reduceSub, Int.reduceNeg, A0, hg1, ha, k1, k2, hp, lN1]
theorem c_l10_spoil_nil (m : Mem) : Go.Ev.Comes T G f_l10_spoil [.slice none 0 0 0] m none ⟨.val (.tuple []), m, none⟩ := by
  refine comes2W (q := ([.slice none 0 0 0], m)) T_l10_spoil rfl rfl fun M hg hlen hlow => ?_
  simp only [F_l10_spoil]
  simp only at hg hlen hlow ⊢
  generalize m.bl.length = n0 at hlen hlow
  have hle : n0 ≤ M.bl.length := by omega
  have kz : ¬ (((0 : Nat) : Int) < ((0 : Nat) : Int)) := by omega
  simp +contextual only [vq, vc, ve, vv, vn, vl, ↓reduceIte, Nat.reduceEqDiff, Nat.reduceAdd, Nat.reduceMul, Nat.reduceSub, Nat.reduceLeDiff, Nat.reduceLT, Nat.reduceBEq, Nat.reduceBNe, reduceCtorEq, Int.reduceBEq, Int.reduceBNe, Int.reduceLT, Int.reduceLE, Int.reduceEq, Int.reduceToNat, Int.reduceAdd, Int.reduceSub, Int.reduceNeg]
  refine loop2 (fun q st => ∃ (A : Fr), st = ⟨A, M, [], none⟩ ∧ q = 0 ∧ A 0 = .slice none 0 0 0 ∧ A 6 = .int .i64 ((0 : Nat) : Int) ∧ A 7 = .int .i64 ((0 : Nat) : Int)) 0 ⟨_, rfl, rfl, by simp +contextual only [vq, vc, ve, vv, vn, vl, ↓reduceIte, Nat.reduceEqDiff, Nat.reduceAdd, Nat.reduceMul, Nat.reduceSub, Nat.reduceLeDiff, Nat.reduceLT, Nat.reduceBEq, Nat.reduceBNe, reduceCtorEq, Int.reduceBEq, Int.reduceBNe, Int.reduceLT, Int.reduceLE, Int.reduceEq, Int.reduceToNat, Int.reduceAdd, Int.reduceSub, Int.reduceNeg], by simp +contextual only [vq, vc, ve, vv, vn, vl, ↓reduceIte, Nat.reduceEqDiff, Nat.reduceAdd, Nat.reduceMul, Nat.reduceSub, Nat.reduceLeDiff, Nat.reduceLT, Nat.reduceBEq, Nat.reduceBNe, reduceCtorEq, Int.reduceBEq, Int.reduceBNe, Int.reduceLT, Int.reduceLE, Int.reduceEq, Int.reduceToNat, Int.reduceAdd, Int.reduceSub, Int.reduceNeg], by simp +contextual only [vq, vc, ve, vv, vn, vl, ↓reduceIte, Nat.reduceEqDiff, Nat.reduceAdd, Nat.reduceMul, Nat.reduceSub, Nat.reduceLeDiff, Nat.reduceLT, Nat.reduceBEq, Nat.reduceBNe, reduceCtorEq, Int.reduceBEq, Int.reduceBNe, Int.reduceLT, Int.reduceLE, Int.reduceEq, Int.reduceToNat, Int.reduceAdd, Int.reduceSub, Int.reduceNeg]; rfl⟩ fun J hJ q st hI => ?_
  obtain ⟨A, rfl, rfl, A0, A6, A7⟩ := hI
  simp +contextual only [vq, vc, ve, vv, vn, vl, ↓reduceIte, Nat.reduceEqDiff, Nat.reduceAdd, Nat.reduceMul, Nat.reduceSub, Nat.reduceLeDiff, Nat.reduceLT, Nat.reduceBEq, Nat.reduceBNe, reduceCtorEq, Int.reduceBEq, Int.reduceBNe, Int.reduceLT, Int.reduceLE, Int.reduceEq, Int.reduceToNat, Int.reduceAdd, Int.reduceSub, Int.reduceNeg, A0, A6, A7, kz]
  refine loop2 (fun q st => ∃ (i : Nat) (A : Fr) (N : Mem) (k : Option Nat) (v : EV) (rows : List EV), st = ⟨A, N, [], none⟩ ∧ q = 20 - i ∧ i ≤ 20 ∧ A 0 = .slice none 0 0 0 ∧ A 3 = v ∧ A 16 = .int .i64 (i : Nat) ∧ Priv k 3 0 N v rows i ∧ (∀ j, k = some j → n0 ≤ j) ∧ n0 ≤ N.bl.length ∧ n0 ≤ N.low) 20 ⟨0, _, M, none, .slice none 0 0 0, [], rfl, rfl, by omega, by simp +contextual only [vq, vc, ve, vv, vn, vl, ↓reduceIte, Nat.reduceEqDiff, Nat.reduceAdd, Nat.reduceMul, Nat.reduceSub, Nat.reduceLeDiff, Nat.reduceLT, Nat.reduceBEq, Nat.reduceBNe, reduceCtorEq, Int.reduceBEq, Int.reduceBNe, Int.reduceLT, Int.reduceLE, Int.reduceEq, Int.reduceToNat, Int.reduceAdd, Int.reduceSub, Int.reduceNeg, A0], by simp +contextual only [vq, vc, ve, vv, vn, vl, ↓reduceIte, Nat.reduceEqDiff, Nat.reduceAdd, Nat.reduceMul, Nat.reduceSub, Nat.reduceLeDiff, Nat.reduceLT, Nat.reduceBEq, Nat.reduceBNe, reduceCtorEq, Int.reduceBEq, Int.reduceBNe, Int.reduceLT, Int.reduceLE, Int.reduceEq, Int.reduceToNat, Int.reduceAdd, Int.reduceSub, Int.reduceNeg], by simp +contextual only [vq, vc, ve, vv, vn, vl, ↓reduceIte, Nat.reduceEqDiff, Nat.reduceAdd, Nat.reduceMul, Nat.reduceSub, Nat.reduceLeDiff, Nat.reduceLT, Nat.reduceBEq, Nat.reduceBNe, reduceCtorEq, Int.reduceBEq, Int.reduceBNe, Int.reduceLT, Int.reduceLE, Int.reduceEq, Int.reduceToNat, Int.reduceAdd, Int.reduceSub, Int.reduceNeg]; rfl, Priv.nil, (fun _ h => by cases h), hle, by omega⟩ fun J2 hJ2 q st hI => ?_
  clear A0 A6 A7
  obtain ⟨i, A, N, k, v, rows, rfl, rfl, hi, A0, A3, A16, hv, hk, hNl, hlN⟩ := hI
  have e20 : ((i : Int) < 20) = (i < 20) := propext (by omega)
  by_cases hlt : i < 20
  · simp +contextual only [vq, vc, ve, vv, vn, vl, ↓reduceIte, Nat.reduceEqDiff, Nat.reduceAdd, Nat.reduceMul, Nat.reduceSub, Nat.reduceLeDiff, Nat.reduceLT, Nat.reduceBEq, Nat.reduceBNe, reduceCtorEq, Int.reduceBEq, Int.reduceBNe, Int.reduceLT, Int.reduceLE, Int.reduceEq, Int.reduceToNat, Int.reduceAdd, Int.reduceSub, Int.reduceNeg, A3, A16, e20, hlt]
    refine new_mk fun N1 n1 => ?_
    have R1 : RowIs N1 N.bl.length [.str [33], .str [], .bool false] := by rw [n1]; exact row_push _ _
    have lN1 : n0 ≤ N1.low := by rw [n1]; exact hlN
    have gN1 : Grown N N1 := by rw [n1]; exact Grown.rfl'.push
    have hgl := gN1.le
    obtain ⟨v', N2, k', ha, hv2, hk2, hag, hl2, hw2⟩ := (hv.grown gN1).app (G := G) (bytes := 40) (cnt := 1) (new := [.str [33], .str [], .bool false]) tagOk_0 (by omega) rfl (by omega)
    simp +contextual only [vq, vc, ve, vv, vn, vl, ↓reduceIte, Nat.reduceEqDiff, Nat.reduceAdd, Nat.reduceMul, Nat.reduceSub, Nat.reduceLeDiff, Nat.reduceLT, Nat.reduceBEq, Nat.reduceBNe, reduceCtorEq, Int.reduceBEq, Int.reduceBNe, Int.reduceLT, Int.reduceLE, Int.reduceEq, Int.reduceToNat, Int.reduceAdd, Int.reduceSub, Int.reduceNeg, R1.getN (G := G), ha, A16, wsucc hlt (by omega)]
    exact again2 hJ2 (20 - (i + 1)) (by omega) ⟨i + 1, _, N2, k', v', _, rfl, rfl, by omega, by simp +contextual only [vq, vc, ve, vv, vn, vl, ↓reduceIte, Nat.reduceEqDiff, Nat.reduceAdd, Nat.reduceMul, Nat.reduceSub, Nat.reduceLeDiff, Nat.reduceLT, Nat.reduceBEq, Nat.reduceBNe, reduceCtorEq, Int.reduceBEq, Int.reduceBNe, Int.reduceLT, Int.reduceLE, Int.reduceEq, Int.reduceToNat, Int.reduceAdd, Int.reduceSub, Int.reduceNeg, A0], by simp +contextual only [vq, vc, ve, vv, vn, vl, ↓reduceIte, Nat.reduceEqDiff, Nat.reduceAdd, Nat.reduceMul, Nat.reduceSub, Nat.reduceLeDiff, Nat.reduceLT, Nat.reduceBEq, Nat.reduceBNe, reduceCtorEq, Int.reduceBEq, Int.reduceBNe, Int.reduceLT, Int.reduceLE, Int.reduceEq, Int.reduceToNat, Int.reduceAdd, Int.reduceSub, Int.reduceNeg], by simp +contextual only [vq, vc, ve, vv, vn, vl, ↓reduceIte, Nat.reduceEqDiff, Nat.reduceAdd, Nat.reduceMul, Nat.reduceSub, Nat.reduceLeDiff, Nat.reduceLT, Nat.reduceBEq, Nat.reduceBNe, reduceCtorEq, Int.reduceBEq, Int.reduceBNe, Int.reduceLT, Int.reduceLE, Int.reduceEq, Int.reduceToNat, Int.reduceAdd, Int.reduceSub, Int.reduceNeg], hv2, fun j hj => by
      rcases hk2 with h | ⟨_, h⟩
      · exact hk j (by rw [← h, hj])
      · rw [h] at hj; cases hj; omega, by omega, hw2 _ lN1 (by omega) hk⟩
  · simp +contextual only [vq, vc, ve, vv, vn, vl, ↓reduceIte, Nat.reduceEqDiff, Nat.reduceAdd, Nat.reduceMul, Nat.reduceSub, Nat.reduceLeDiff, Nat.reduceLT, Nat.reduceBEq, Nat.reduceBNe, reduceCtorEq, Int.reduceBEq, Int.reduceBNe, Int.reduceLT, Int.reduceLE, Int.reduceEq, Int.reduceToNat, Int.reduceAdd, Int.reduceSub, Int.reduceNeg, A0, A16, e20, hlt]
    refine new_mk fun N1 n1 => ?_
    have lN1 : n0 ≤ N1.low := by rw [n1]; exact hlN
    have bN1 : N1.bl.length = N.bl.length + 1 := by rw [n1]; simp [Mem.push]
    have hrl : (repE 70 [EV.str [], .str [], .bool false]).length = 210 := rfl
    have R1 : RowIs N1 N.bl.length (repE 70 [.str [], .str [], .bool false]) := by rw [n1]; exact row_push _ _
    have hg1 : N1.getN G ⟨.mem N.bl.length 0, 0⟩ 210 = some (repE 70 [.str [], .str [], .bool false]) := by
      rw [R1.getN, if_neg (by omega), if_pos (by omega), List.drop_zero, List.take_of_length_le (by omega)]
    generalize repE 70 [EV.str [], .str [], .bool false] = new at hg1 hrl
    obtain ⟨N2, n2⟩ : ∃ N2, N2 = N1.push (.cells new 0 true) := ⟨_, rfl⟩
    have ha : appendE G N1 3 40 0 (.slice none 0 0 0) new 70 = some (.slice (some ⟨.mem N1.bl.length 0, 0⟩) 70 70 3, N2) := by
      simp only [appendE]
      rw [if_neg (by omega), if_pos (by omega), n2]
    obtain ⟨N3, w1, w2, w3, w4⟩ := putN_row (off := 0) (vs := [.str [33], .str [], .bool false]) (m := N2) (b := N1.bl.length) (cs := new) (by rw [n2]; exact row_push _ _) (by simp; omega)
    have lN2 : N2.low = N1.low := by rw [n2]; rfl
    have lN3 : n0 ≤ N3.low := by omega
    simp +contextual only [vq, vc, ve, vv, vn, vl, ↓reduceIte, Nat.reduceEqDiff, Nat.reduceAdd, Nat.reduceMul, Nat.reduceSub, Nat.reduceLeDiff, Nat.reduceLT, Nat.reduceBEq, Nat.reduceBNe, reduceCtorEq, Int.reduceBEq, Int.reduceBNe, Int.reduceLT, Int.reduceLE, Int.reduceEq, Int.reduceToNat, Int.reduceAdd, Int.reduceSub, Int.reduceNeg, A0, hg1, ha, w1, lN3]
end Go.Proofs.YtjlpfijbnflknaaDoor.paramParses

namespace Go.Proofs.YtjlpfijbnflknaaDoor.paramParses
open Go.Ev hiding Comes
variable [GG]

theorem pair_store {m M : Mem} {a b : EV} {x y : EV} (e : M = m.push (.cells [x, y] 0 true)) : ∃ M', M.putN ⟨.mem m.bl.length 0, 0⟩ [a, b] = some M' ∧ RowIs M' m.bl.length [a, b] ∧ Grown m M' ∧ M'.low = min m.low m.bl.length := by
  have R : RowIs M m.bl.length [x, y] := by rw [e]; exact row_push _ _
  have l1 : M.low = m.low := by rw [e]; rfl
  obtain ⟨M', w1, w2, w3, w4⟩ := putN_row (off := 0) (vs := [a, b]) R (by simp)
  have g : Grown m M := by rw [e]; exact Grown.rfl'.push
  have hl := g.le
  exact ⟨M', w1, w2, grown_of (by have := w3.1; omega) fun j hj => by rw [w3.2 j (by omega), g.at hj], by omega⟩
theorem parseS_len (w : Bool) (s : List UInt8) : ∀ (f i : Nat) (acc : List Par), (parseS w s f i acc).1.length ≤ acc.length + f
  | 0, i, acc => by simp [parseS]
  | f + 1, i, acc => by
    rw [parseS]
    split
    · split
      · simp
      split
      · simp
      split
      · simp
      split
      · split
        · simp
        · have := parseS_len w s f (i + 1 + kwd (s.drop (i + 1)) + 1 + til (s.drop (i + 1 + kwd (s.drop (i + 1)) + 1))) (acc ++ [⟨upS ((s.drop (i + 1)).take (kwd (s.drop (i + 1)))), (s.drop (i + 1 + kwd (s.drop (i + 1)) + 1)).take (til (s.drop (i + 1 + kwd (s.drop (i + 1)) + 1))), true⟩])
          simp at this ⊢
          omega
      split
      · simp
      · have := parseS_len w s f (i + 1 + kwd (s.drop (i + 1))) (acc ++ [⟨upS ((s.drop (i + 1)).take (kwd (s.drop (i + 1)))), [], false⟩])
        simp at this ⊢
        omega
    · simp
theorem priv_pars {k : Option Nat} {m : Mem} {v : EV} {l : List Par} (h : Priv k 3 0 m v ((l.map parE).flatten) l.length) : Pars G m v l := h.rows (by simp) par_len
theorem spoil_priv {k : Option Nat} {m : Mem} {v : EV} {rows : List EV} {n : Nat} (h : Priv k 3 0 m v rows n) (hn : n ≤ 1000000000) : ∃ m', Go.Ev.Comes T G f_l10_spoil [v] m none ⟨.val (.tuple []), m', none⟩ ∧ m'.bl.length = m.bl.length ∧ (∀ i, k ≠ some i → m'.bl[i]? = m.bl[i]?) ∧ ∀ n0, n0 ≤ m.low → (∀ j, k = some j → n0 ≤ j) → n0 ≤ m'.low := by
  cases k with
  | none =>
    obtain ⟨rfl, rfl, rfl⟩ := h
    exact ⟨m, c_l10_spoil_nil m, rfl, fun _ _ => rfl, fun _ h _ => h⟩
  | some j =>
    obtain ⟨g, h1, rfl, h3, h4⟩ := h
    refine ⟨_, c_l10_spoil m j g n n rows h4 hn, by simp, fun i hi => ?_, fun n0 h0 hj => ?_⟩
    · simp only
      rw [List.getElem?_set_ne (fun e => hi (by rw [e]))]
    · have := hj j rfl
      simp only
      omega
theorem one_a : parseS false [32, 97, 61, 49] 5 0 [] = ([⟨[65], [49], true⟩], 0, 0) := by decide +kernel
set_option maxHeartbeats 2000000 in
theorem law (m : Mem) (s : List UInt8) (w : Bool) (hs : s.length ≤ 2000000) : Go.Ev.Comes T G f_l10_ParamParses [.str s, .bool w] m none ⟨.val (.bool true), m, none⟩ := by
  refine comes2 T_l10_ParamParses rfl fun M hg hlen hlow => ?_
  have hl0 : m.bl.length ≤ M.low := by omega
  have hpl := parseS_len w s (s.length + 1) 0 []
  obtain ⟨_, hc5, v5, M1, k5, rfl, g1, l1, p5, q5⟩ := c_r10_Parse M s w (by omega)
  generalize hres : parseS w s (s.length + 1) 0 [] = res at hpl
  obtain ⟨ll, ec, ea⟩ := res
  rw [hres] at hc5 p5
  simp only [List.length_nil, Nat.zero_add] at hc5 p5 hpl
  simp only [F_l10_ParamParses]
  simp +contextual only [vq, vc, ve, vv, vn, vl, ↓reduceIte, Nat.reduceEqDiff, Nat.reduceAdd, Nat.reduceMul, Nat.reduceSub, Nat.reduceLeDiff, Nat.reduceLT, Nat.reduceBEq, Nat.reduceBNe, reduceCtorEq, Int.reduceBEq, Int.reduceBNe, Int.reduceLT, Int.reduceLE, Int.reduceEq, Int.reduceToNat, Int.reduceAdd, Int.reduceSub, Int.reduceNeg, callR_val hc5]
  refine new_mk fun M2 e2 => ?_
  obtain ⟨M3, w3, R6, g3, l3⟩ := pair_store (a := .int .i64 ec) (b := .int .i64 ea) e2
  obtain ⟨_, hc7, v7, M4, k7, rfl, g4, l4, p7, q7⟩ := c_param_Parse M3 s w (by omega)
  rw [hres] at hc7 p7
  simp only at hc7 p7
  simp +contextual only [vq, vc, ve, vv, vn, vl, ↓reduceIte, Nat.reduceEqDiff, Nat.reduceAdd, Nat.reduceMul, Nat.reduceSub, Nat.reduceLeDiff, Nat.reduceLT, Nat.reduceBEq, Nat.reduceBNe, reduceCtorEq, Int.reduceBEq, Int.reduceBNe, Int.reduceLT, Int.reduceLE, Int.reduceEq, Int.reduceToNat, Int.reduceAdd, Int.reduceSub, Int.reduceNeg, w3, callR_val hc7]
  refine new_mk fun M5 e5 => ?_
  obtain ⟨M6, w6, R8, g6, l6⟩ := pair_store (a := .int .i64 ec) (b := .int .i64 ea) e5
  obtain ⟨_, hc9, v9, M7, k9, rfl, g7, l7, p9, q9⟩ := c_param_Parse M6 s w (by omega)
  rw [hres] at hc9 p9
  simp only at hc9 p9
  simp +contextual only [vq, vc, ve, vv, vn, vl, ↓reduceIte, Nat.reduceEqDiff, Nat.reduceAdd, Nat.reduceMul, Nat.reduceSub, Nat.reduceLeDiff, Nat.reduceLT, Nat.reduceBEq, Nat.reduceBNe, reduceCtorEq, Int.reduceBEq, Int.reduceBNe, Int.reduceLT, Int.reduceLE, Int.reduceEq, Int.reduceToNat, Int.reduceAdd, Int.reduceSub, Int.reduceNeg, w6, callR_val hc9]
  refine new_mk fun M8 e8 => ?_
  obtain ⟨M9, w9, R10, g9, l9⟩ := pair_store (a := .int .i64 ec) (b := .int .i64 ea) e8
  have gB := (g7.trans g9)
  have gA := (g4.trans g6).trans gB
  have P5 := p5.grown (g3.trans gA)
  have P7 := p7.grown (g6.trans gB)
  have P9 := p9.grown g9
  have R6' := R6.grown gA
  have R8' := R8.grown gB
  have hle1 := g1.le
  have hle3 := g3.le
  have hle4 := g4.le
  have hle6 := g6.le
  have hle7 := g7.le
  have hle9 := g9.le
  have t5 := fun j (h : k5 = some j) => p5.ltk h
  have t7 := fun j (h : k7 = some j) => p7.ltk h
  have t9 := fun j (h : k9 = some j) => p9.ltk h
  have hS7 := c_r10_Same M9 v7 v5 ll ll (priv_pars P7) (priv_pars P5) (by omega)
  have hS9 := c_r10_Same M9 v9 v5 ll ll (priv_pars P9) (priv_pars P5) (by omega)
  have dT : decide (ll = ll) = true := by simp
  rw [dT] at hS7 hS9
  obtain ⟨M10, hs7, b10, a10, z10⟩ := spoil_priv P7 (by omega)
  have P5b := P5.keep (M := M10) fun j hj => a10 j fun h => by have := q7 j h; have := t5 j hj; omega
  have P9b := P9.keep (M := M10) fun j hj => a10 j fun h => by have := t7 j h; have := q9 j hj; omega
  have hT9 := c_r10_Same M10 v9 v5 ll ll (priv_pars P9b) (priv_pars P5b) (by omega)
  rw [dT] at hT9
  obtain ⟨M11, hs9, b11, a11, z11⟩ := spoil_priv P9b (by omega)
  have P5c := P5b.keep (M := M11) fun j hj => a11 j fun h => by have := q9 j h; have := t5 j hj; omega
  have lM9 : m.bl.length ≤ M9.low := by omega
  have lM10 := z10 m.bl.length lM9 fun j hj => by have := q7 j hj; omega
  have lM11 := z11 m.bl.length lM10 fun j hj => by have := q9 j hj; omega
  obtain ⟨_, hc11, v11, M12, k11, rfl, g12, l12, p11, q11⟩ := c_param_Parse M11 s w (by omega)
  rw [hres] at hc11 p11
  simp only at hc11 p11
  simp +contextual only [vq, vc, ve, vv, vn, vl, ↓reduceIte, Nat.reduceEqDiff, Nat.reduceAdd, Nat.reduceMul, Nat.reduceSub, Nat.reduceLeDiff, Nat.reduceLT, Nat.reduceBEq, Nat.reduceBNe, reduceCtorEq, Int.reduceBEq, Int.reduceBNe, Int.reduceLT, Int.reduceLE, Int.reduceEq, Int.reduceToNat, Int.reduceAdd, Int.reduceSub, Int.reduceNeg, w9, R6'.getN (G := G), R8'.getN (G := G), R10.getN (G := G), callR_val hS7, callR_val hS9, callR_val hs7, callR_val hT9, callR_val hs9, callR_val hc11]
  refine new_mk fun M13 e13 => ?_
  obtain ⟨M14, w14, R12, g14, l14⟩ := pair_store (a := .int .i64 ec) (b := .int .i64 ea) e13
  obtain ⟨_, hc13, v13, M15, k13, rfl, g15, l15, p13, q13⟩ := c_param_Parse M14 [32, 97, 61, 49] false (by simp)
  have h1 : parseS false [32, 97, 61, 49] (([32, 97, 61, 49] : List UInt8).length + 1) 0 [] = ([⟨[65], [49], true⟩], 0, 0) := one_a
  rw [h1] at hc13 p13
  simp only at hc13 p13
  simp +contextual only [vq, vc, ve, vv, vn, vl, ↓reduceIte, Nat.reduceEqDiff, Nat.reduceAdd, Nat.reduceMul, Nat.reduceSub, Nat.reduceLeDiff, Nat.reduceLT, Nat.reduceBEq, Nat.reduceBNe, reduceCtorEq, Int.reduceBEq, Int.reduceBNe, Int.reduceLT, Int.reduceLE, Int.reduceEq, Int.reduceToNat, Int.reduceAdd, Int.reduceSub, Int.reduceNeg, w14, callR_val hc13]
  refine new_mk fun M16 e16 => ?_
  obtain ⟨M17, w17, R14, g17, l17⟩ := pair_store (a := .int .i64 0) (b := .int .i64 0) e16
  have gC := (g14.trans g15).trans g17
  have P11 := p11.grown gC
  have P5d := P5c.grown (g12.trans gC)
  have P13 := p13.grown g17
  have hU := c_r10_Same M17 v11 v5 ll ll (priv_pars P11) (priv_pars P5d) (by omega)
  rw [dT] at hU
  have hle12 := g12.le
  have hle14 := g14.le
  have hle15 := g15.le
  have lM17 : m.bl.length ≤ M17.low := by omega
  rcases P13.row with ⟨_, _, h0⟩ | ⟨j, g, hj, sv, hrow⟩
  · simp at h0
  have sv : v13 = .slice (some ⟨.mem j g, 0⟩) 1 1 3 := sv
  have hg3 : M17.getN G ⟨.mem j g, 0⟩ 3 = some [.str [65], .str [49], .bool true] := hrow G 0 3 _ (sub_all rfl)
  have r14 := R14.get (G := G) 0
  simp only [List.getElem?_cons_zero] at r14
  subst sv
  have k1 : (((1 : Nat) : Int) == 1) = true := rfl
  simp +contextual only [vq, vc, ve, vv, vn, vl, ↓reduceIte, Nat.reduceEqDiff, Nat.reduceAdd, Nat.reduceMul, Nat.reduceSub, Nat.reduceLeDiff, Nat.reduceLT, Nat.reduceBEq, Nat.reduceBNe, reduceCtorEq, Int.reduceBEq, Int.reduceBNe, Int.reduceLT, Int.reduceLE, Int.reduceEq, Int.reduceToNat, Int.reduceAdd, Int.reduceSub, Int.reduceNeg, w17, callR_val hU, r14, hg3, k1, lM17]
theorem lawAll (m : Mem) (xs : List EV) (hro : RO m) (hs : SitArgs 1048576 m [.str, .bool] xs) : ∃ m' p', Go.Ev.Comes T G f_l10_ParamParses xs m none ⟨.val (.bool true), m', p'⟩ := by
  obtain ⟨ys, r, rfl, h1, _, ys2, r2, rfl, h2, _, rfl⟩ := hs
  obtain ⟨s, rfl, hl⟩ := sits_str h1
  obtain ⟨w, rfl⟩ := sits_bool h2
  exact ⟨m, none, law m s w (by omega)⟩
end Go.Proofs.YtjlpfijbnflknaaDoor.paramParses
