/- A part of the proof of the statement that this claim hands in: what single functions come to. There are no conditions. -/
import Derived.Test.YtmjoaiccbghijaaDoorRcL2
import Derived.Lib.Bytealg
import Derived.Test.YtmjoaiccbghijaaDoorRcEv33
set_option linter.unusedVariables false
set_option linter.unusedSimpArgs false
set_option linter.unusedSectionVars false
namespace Go.Proofs.YtmjoaiccbghijaaDoor.paramRcpts
open Go.Ev hiding Comes
variable [GG]

/-- What is remembered of the places of names that were seen. -/
def seenE (l : List Nat) : List EV := (List.range 8).map fun i => .bool (l.contains i)
theorem seenE_get {l : List Nat} {k : Nat} (h : k < 8) : (seenE l)[k]? = some (.bool (l.contains k)) := by
  simp [seenE, h]
theorem seenE_set {l : List Nat} {k : Nat} (h : k < 8) : (seenE l).set k (.bool true) = seenE (k :: l) := by
  apply List.ext_getElem?
  intro i
  rw [List.getElem?_set]
  by_cases hik : k = i
  · subst hik
    rw [if_pos rfl, if_pos (by simpa [seenE] using h), seenE_get h]
    simp
  · rw [if_neg hik]
    by_cases hi : i < 8
    · rw [seenE_get hi, seenE_get hi]
      have : (i == k) = false := by simpa using fun e => hik e.symm
      rw [List.contains_cons, this, Bool.false_or]
    · simp [seenE, hi]
/-- If block b was written, it is seen. -/
def Wr (b : Nat) (m m' : Mem) : Prop := b < m'.low → b < m.low ∧ m'.bl[b]? = m.bl[b]?
/-- Parameters are handed on one after the other, to a function that keeps its mind in block b. -/
theorem c_param_each {α : Type} (enc : α → List EV) (stp : α → Nat → Par → Bool × α) (m : Mem) (x nv : EV) (l : List Par) (names : List (List UInt8)) (f : FuncId) (cap : List EV) (b : Nat) (a0 : α)
    (hx : Off (· = b) (fun M => Pars G M x l) m) (hn : Off (· = b) (fun M => StrL M nv names) m) (h8 : names.length ≤ 8) (hnl : ∀ n ∈ names, n.length ≤ 1000000) (hl : l.length ≤ 1000000000) (hb : RowIs m b (enc a0))
    (htake : ∀ (a : α) (M : Mem) (k : Nat) (p : Par), p ∈ l → k < names.length → RowIs M b (enc a) → ∃ M', Go.Ev.Comes T G f ([.int .i64 (k : Nat), .agg (parE p)] ++ cap) M none ⟨.val (.bool (stp a k p).1), M', none⟩ ∧ RowIs M' b (enc (stp a k p).2) ∧ Edit b none M M' ∧ Wr b M M') :
    ∃ r, Go.Ev.Comes T G f_param_each [x, nv, .func f cap] m none r ∧ ∃ m', r = ⟨.val (.int .i64 (eachS names stp l a0).1), m', none⟩ ∧ RowIs m' b (enc (eachS names stp l a0).2) ∧ Edit b none m m' := by
  refine comes2P T_param_each rfl fun M hg hlen hlow => ?_
  have hl0 : m.bl.length ≤ M.low := by omega
  have hbl := hb.lt
  obtain ⟨ax, cx, ex, sx⟩ := hx.now.slice
  have PN : ∀ N : Mem, m.bl.length ≤ N.bl.length → (∀ j, j < m.bl.length → j ≠ b → N.bl[j]? = m.bl[j]?) → Pars G N x l ∧ StrL N nv names := fun N h1 h2 => ⟨hx N h1 h2, hn N h1 h2⟩
  -- an end
  have fin : ∀ (B : Fr) (N : Mem) (v : Int) (a : α), B 6 = .int .i64 v → RowIs N b (enc a) → m.bl.length ≤ N.bl.length → (∀ j, j < m.bl.length → j ≠ b → N.bl[j]? = m.bl[j]?) → b ≤ N.low → (b < N.low → N.bl[b]? = m.bl[b]?) →
      postX G [.tmp 6] m (fun r => ∃ m', r = ⟨.val (.int .i64 v), m', none⟩ ∧ RowIs m' b (enc a) ∧ Edit b none m m') .ret ⟨B, N, [], none⟩ := fun B N v a hB hR h1 h2 h3 h4 => by
    by_cases hlo : m.bl.length ≤ N.low
    · refine postX_same (v := .int .i64 v) (by simp +contextual only [vq, vc, ve, vv, vn, vl, ↓reduceIte, Nat.reduceEqDiff, Nat.reduceAdd, Nat.reduceMul, Nat.reduceSub, Nat.reduceLeDiff, Nat.reduceLT, Nat.reduceBEq, Nat.reduceBNe, reduceCtorEq, Int.reduceBEq, Int.reduceBNe, Int.reduceLT, Int.reduceLE, Int.reduceEq, Int.reduceToNat, Int.reduceAdd, Int.reduceSub, Int.reduceNeg, hB]) hlo rfl ⟨_, rfl, ?_, fun _ _ _ _ => rfl, Nat.le_refl _, fun n0 h _ _ _ => h⟩
      unfold RowIs
      rw [← h4 (by omega)]
      exact hR
    · exact postX_wrote (v := .int .i64 v) (by simp +contextual only [vq, vc, ve, vv, vn, vl, ↓reduceIte, Nat.reduceEqDiff, Nat.reduceAdd, Nat.reduceMul, Nat.reduceSub, Nat.reduceLeDiff, Nat.reduceLT, Nat.reduceBEq, Nat.reduceBNe, reduceCtorEq, Int.reduceBEq, Int.reduceBNe, Int.reduceLT, Int.reduceLE, Int.reduceEq, Int.reduceToNat, Int.reduceAdd, Int.reduceSub, Int.reduceNeg, hB]) (by omega) ⟨_, rfl, hR, fun j q1 q2 _ => h2 j q1 q2, h1, fun n0 q1 q2 q3 _ => by simp only; omega⟩
  simp only [F_param_each]
  simp +contextual only [vq, vc, ve, vv, vn, vl, ↓reduceIte, Nat.reduceEqDiff, Nat.reduceAdd, Nat.reduceMul, Nat.reduceSub, Nat.reduceLeDiff, Nat.reduceLT, Nat.reduceBEq, Nat.reduceBNe, reduceCtorEq, Int.reduceBEq, Int.reduceBNe, Int.reduceLT, Int.reduceLE, Int.reduceEq, Int.reduceToNat, Int.reduceAdd, Int.reduceSub, Int.reduceNeg, sx]
  refine loop2 (fun q st => ∃ i A N, st = ⟨A, N, [], none⟩ ∧ q = l.length - i ∧ i ≤ l.length ∧ A 0 = x ∧ A 1 = nv ∧ A 2 = .func f cap ∧ A 13 = x ∧ A 14 = .int .i64 l.length ∧ A 15 = .int .i64 (i : Nat) ∧ Grown M N ∧ m.bl.length ≤ N.low ∧ unk names (l.take i) = false) l.length
    ⟨0, _, M, rfl, by omega, by omega, by simp +contextual only [vq, vc, ve, vv, vn, vl, ↓reduceIte, Nat.reduceEqDiff, Nat.reduceAdd, Nat.reduceMul, Nat.reduceSub, Nat.reduceLeDiff, Nat.reduceLT, Nat.reduceBEq, Nat.reduceBNe, reduceCtorEq, Int.reduceBEq, Int.reduceBNe, Int.reduceLT, Int.reduceLE, Int.reduceEq, Int.reduceToNat, Int.reduceAdd, Int.reduceSub, Int.reduceNeg, sx], by simp +contextual only [vq, vc, ve, vv, vn, vl, ↓reduceIte, Nat.reduceEqDiff, Nat.reduceAdd, Nat.reduceMul, Nat.reduceSub, Nat.reduceLeDiff, Nat.reduceLT, Nat.reduceBEq, Nat.reduceBNe, reduceCtorEq, Int.reduceBEq, Int.reduceBNe, Int.reduceLT, Int.reduceLE, Int.reduceEq, Int.reduceToNat, Int.reduceAdd, Int.reduceSub, Int.reduceNeg], by simp +contextual only [vq, vc, ve, vv, vn, vl, ↓reduceIte, Nat.reduceEqDiff, Nat.reduceAdd, Nat.reduceMul, Nat.reduceSub, Nat.reduceLeDiff, Nat.reduceLT, Nat.reduceBEq, Nat.reduceBNe, reduceCtorEq, Int.reduceBEq, Int.reduceBNe, Int.reduceLT, Int.reduceLE, Int.reduceEq, Int.reduceToNat, Int.reduceAdd, Int.reduceSub, Int.reduceNeg], by simp +contextual only [vq, vc, ve, vv, vn, vl, ↓reduceIte, Nat.reduceEqDiff, Nat.reduceAdd, Nat.reduceMul, Nat.reduceSub, Nat.reduceLeDiff, Nat.reduceLT, Nat.reduceBEq, Nat.reduceBNe, reduceCtorEq, Int.reduceBEq, Int.reduceBNe, Int.reduceLT, Int.reduceLE, Int.reduceEq, Int.reduceToNat, Int.reduceAdd, Int.reduceSub, Int.reduceNeg, sx], by simp +contextual only [vq, vc, ve, vv, vn, vl, ↓reduceIte, Nat.reduceEqDiff, Nat.reduceAdd, Nat.reduceMul, Nat.reduceSub, Nat.reduceLeDiff, Nat.reduceLT, Nat.reduceBEq, Nat.reduceBNe, reduceCtorEq, Int.reduceBEq, Int.reduceBNe, Int.reduceLT, Int.reduceLE, Int.reduceEq, Int.reduceToNat, Int.reduceAdd, Int.reduceSub, Int.reduceNeg], by simp +contextual only [vq, vc, ve, vv, vn, vl, ↓reduceIte, Nat.reduceEqDiff, Nat.reduceAdd, Nat.reduceMul, Nat.reduceSub, Nat.reduceLeDiff, Nat.reduceLT, Nat.reduceBEq, Nat.reduceBNe, reduceCtorEq, Int.reduceBEq, Int.reduceBNe, Int.reduceLT, Int.reduceLE, Int.reduceEq, Int.reduceToNat, Int.reduceAdd, Int.reduceSub, Int.reduceNeg]; rfl, Grown.rfl', hl0, rfl⟩ fun J hJ q st hI => ?_
  obtain ⟨i, A, N, rfl, rfl, hi, A0, A1, A2, A13, A14, A15, gN, lN, hun⟩ := hI
  have gmN := hg.trans gN
  have hleN := gmN.le
  obtain ⟨hxN, hnN⟩ := PN N hleN fun j h1 _ => gmN.at h1
  by_cases hlt : i < l.length
  · obtain ⟨a1, c1, e1, hc1, hget, ho⟩ := hxN.at hlt
    simp only [parE] at hget
    have A13' := A13
    rw [e1] at A13
    simp +contextual only [vq, vc, ve, vv, vn, vl, ↓reduceIte, Nat.reduceEqDiff, Nat.reduceAdd, Nat.reduceMul, Nat.reduceSub, Nat.reduceLeDiff, Nat.reduceLT, Nat.reduceBEq, Nat.reduceBNe, reduceCtorEq, Int.reduceBEq, Int.reduceBNe, Int.reduceLT, Int.reduceLE, Int.reduceEq, Int.reduceToNat, Int.reduceAdd, Int.reduceSub, Int.reduceNeg, A13, A14, A15, hlt, hget, ho]
    refine new_mk fun N1 n1 => ?_
    obtain ⟨N2, p2, g2, r2, l2, w2⟩ := put_new n1 (cs := [.str l[i].name, .str l[i].value, .bool l[i].has]) rfl
    have hpl := c_param_place N2 nv l[i].name names (hnN.grown g2) (by omega) (fun x hx => by have := hnl x hx; omega)
    have lN2 : m.bl.length ≤ N2.low := by omega
    cases hk : plc l[i].name names with
    | none =>
      rw [plcI_none hk] at hpl
      have he : eachS names stp l a0 = (103, a0) := by
        unfold eachS
        rw [if_pos]
        unfold unk
        rw [List.any_eq_true]
        exact ⟨l[i], List.getElem_mem hlt, by rw [hk]; rfl⟩
      rw [he]
      simp +contextual only [vq, vc, ve, vv, vn, vl, ↓reduceIte, Nat.reduceEqDiff, Nat.reduceAdd, Nat.reduceMul, Nat.reduceSub, Nat.reduceLeDiff, Nat.reduceLT, Nat.reduceBEq, Nat.reduceBNe, reduceCtorEq, Int.reduceBEq, Int.reduceBNe, Int.reduceLT, Int.reduceLE, Int.reduceEq, Int.reduceToNat, Int.reduceAdd, Int.reduceSub, Int.reduceNeg, p2, r2.get (G := G), A1, callR_val hpl]
      exact fin _ N2 103 a0 (by simp +contextual only [vq, vc, ve, vv, vn, vl, ↓reduceIte, Nat.reduceEqDiff, Nat.reduceAdd, Nat.reduceMul, Nat.reduceSub, Nat.reduceLeDiff, Nat.reduceLT, Nat.reduceBEq, Nat.reduceBNe, reduceCtorEq, Int.reduceBEq, Int.reduceBNe, Int.reduceLT, Int.reduceLE, Int.reduceEq, Int.reduceToNat, Int.reduceAdd, Int.reduceSub, Int.reduceNeg]) (hb.grown (gmN.trans g2)) (by omega) (fun j h1 _ => (gmN.trans g2).at h1) (by omega) (fun _ => (gmN.trans g2).at hbl)
    | some k =>
      rw [plcI_some hk] at hpl
      have k0 : (((k : Nat) : Int) < 0) = False := eq_false (by omega)
      simp +contextual only [vq, vc, ve, vv, vn, vl, ↓reduceIte, Nat.reduceEqDiff, Nat.reduceAdd, Nat.reduceMul, Nat.reduceSub, Nat.reduceLeDiff, Nat.reduceLT, Nat.reduceBEq, Nat.reduceBNe, reduceCtorEq, Int.reduceBEq, Int.reduceBNe, Int.reduceLT, Int.reduceLE, Int.reduceEq, Int.reduceToNat, Int.reduceAdd, Int.reduceSub, Int.reduceNeg, p2, r2.get (G := G), A1, callR_val hpl, k0, A15, wsucc hlt (by omega)]
      refine again2 hJ (l.length - (i + 1)) (by omega) ⟨i + 1, _, N2, rfl, rfl, by omega, by simp +contextual only [vq, vc, ve, vv, vn, vl, ↓reduceIte, Nat.reduceEqDiff, Nat.reduceAdd, Nat.reduceMul, Nat.reduceSub, Nat.reduceLeDiff, Nat.reduceLT, Nat.reduceBEq, Nat.reduceBNe, reduceCtorEq, Int.reduceBEq, Int.reduceBNe, Int.reduceLT, Int.reduceLE, Int.reduceEq, Int.reduceToNat, Int.reduceAdd, Int.reduceSub, Int.reduceNeg, A0], by simp +contextual only [vq, vc, ve, vv, vn, vl, ↓reduceIte, Nat.reduceEqDiff, Nat.reduceAdd, Nat.reduceMul, Nat.reduceSub, Nat.reduceLeDiff, Nat.reduceLT, Nat.reduceBEq, Nat.reduceBNe, reduceCtorEq, Int.reduceBEq, Int.reduceBNe, Int.reduceLT, Int.reduceLE, Int.reduceEq, Int.reduceToNat, Int.reduceAdd, Int.reduceSub, Int.reduceNeg, A1], by simp +contextual only [vq, vc, ve, vv, vn, vl, ↓reduceIte, Nat.reduceEqDiff, Nat.reduceAdd, Nat.reduceMul, Nat.reduceSub, Nat.reduceLeDiff, Nat.reduceLT, Nat.reduceBEq, Nat.reduceBNe, reduceCtorEq, Int.reduceBEq, Int.reduceBNe, Int.reduceLT, Int.reduceLE, Int.reduceEq, Int.reduceToNat, Int.reduceAdd, Int.reduceSub, Int.reduceNeg, A2], by simp +contextual only [vq, vc, ve, vv, vn, vl, ↓reduceIte, Nat.reduceEqDiff, Nat.reduceAdd, Nat.reduceMul, Nat.reduceSub, Nat.reduceLeDiff, Nat.reduceLT, Nat.reduceBEq, Nat.reduceBNe, reduceCtorEq, Int.reduceBEq, Int.reduceBNe, Int.reduceLT, Int.reduceLE, Int.reduceEq, Int.reduceToNat, Int.reduceAdd, Int.reduceSub, Int.reduceNeg, A13'], by simp +contextual only [vq, vc, ve, vv, vn, vl, ↓reduceIte, Nat.reduceEqDiff, Nat.reduceAdd, Nat.reduceMul, Nat.reduceSub, Nat.reduceLeDiff, Nat.reduceLT, Nat.reduceBEq, Nat.reduceBNe, reduceCtorEq, Int.reduceBEq, Int.reduceBNe, Int.reduceLT, Int.reduceLE, Int.reduceEq, Int.reduceToNat, Int.reduceAdd, Int.reduceSub, Int.reduceNeg, A14], by simp +contextual only [vq, vc, ve, vv, vn, vl, ↓reduceIte, Nat.reduceEqDiff, Nat.reduceAdd, Nat.reduceMul, Nat.reduceSub, Nat.reduceLeDiff, Nat.reduceLT, Nat.reduceBEq, Nat.reduceBNe, reduceCtorEq, Int.reduceBEq, Int.reduceBNe, Int.reduceLT, Int.reduceLE, Int.reduceEq, Int.reduceToNat, Int.reduceAdd, Int.reduceSub, Int.reduceNeg], gN.trans g2, lN2, ?_⟩
      unfold unk at hun ⊢
      rw [List.take_succ_eq_append_getElem hlt, List.any_append, hun]
      simp [hk]
  · have he : i = l.length := by omega
    subst he
    rw [List.take_length] at hun
    have hee : eachS names stp l a0 = eachGo names stp l [] a0 := by
      unfold eachS
      rw [if_neg (by simp [hun])]
    rw [hee]
    simp +contextual only [vq, vc, ve, vv, vn, vl, ↓reduceIte, Nat.reduceEqDiff, Nat.reduceAdd, Nat.reduceMul, Nat.reduceSub, Nat.reduceLeDiff, Nat.reduceLT, Nat.reduceBEq, Nat.reduceBNe, reduceCtorEq, Int.reduceBEq, Int.reduceBNe, Int.reduceLT, Int.reduceLE, Int.reduceEq, Int.reduceToNat, Int.reduceAdd, Int.reduceSub, Int.reduceNeg, A14, A15]
    refine new_mk fun N1 n1 => ?_
    have g1 : Grown N N1 := by rw [n1]; exact Grown.rfl'.push
    have r1 : RowIs N1 N.bl.length (seenE []) := by rw [n1]; exact row_push _ _
    have l1 : N1.low = N.low := by rw [n1]; rfl
    have gm1 := gmN.trans g1
    have hq1 := r1.lt
    simp +contextual only [vq, vc, ve, vv, vn, vl, ↓reduceIte, Nat.reduceEqDiff, Nat.reduceAdd, Nat.reduceMul, Nat.reduceSub, Nat.reduceLeDiff, Nat.reduceLT, Nat.reduceBEq, Nat.reduceBNe, reduceCtorEq, Int.reduceBEq, Int.reduceBNe, Int.reduceLT, Int.reduceLE, Int.reduceEq, Int.reduceToNat, Int.reduceAdd, Int.reduceSub, Int.reduceNeg, A0, sx]
    refine loop2 (fun q st => ∃ i seen a A N2, st = ⟨A, N2, [], none⟩ ∧ q = l.length - i ∧ i ≤ l.length ∧ A 0 = x ∧ A 1 = nv ∧ A 2 = .func f cap ∧ A 9 = .ptr (some ⟨.mem N.bl.length 0, 0⟩) ∧ A 25 = x ∧ A 26 = .int .i64 l.length ∧ A 27 = .int .i64 (i : Nat) ∧
      RowIs N2 b (enc a) ∧ RowIs N2 N.bl.length (seenE seen) ∧ m.bl.length ≤ N2.bl.length ∧ (∀ j, j < m.bl.length → j ≠ b → N2.bl[j]? = m.bl[j]?) ∧ b ≤ N2.low ∧ (b < N2.low → N2.bl[b]? = m.bl[b]?) ∧ eachGo names stp (l.drop i) seen a = eachGo names stp l [] a0) l.length
      ⟨0, [], a0, _, N1, rfl, by omega, by omega, by simp +contextual only [vq, vc, ve, vv, vn, vl, ↓reduceIte, Nat.reduceEqDiff, Nat.reduceAdd, Nat.reduceMul, Nat.reduceSub, Nat.reduceLeDiff, Nat.reduceLT, Nat.reduceBEq, Nat.reduceBNe, reduceCtorEq, Int.reduceBEq, Int.reduceBNe, Int.reduceLT, Int.reduceLE, Int.reduceEq, Int.reduceToNat, Int.reduceAdd, Int.reduceSub, Int.reduceNeg, A0], by simp +contextual only [vq, vc, ve, vv, vn, vl, ↓reduceIte, Nat.reduceEqDiff, Nat.reduceAdd, Nat.reduceMul, Nat.reduceSub, Nat.reduceLeDiff, Nat.reduceLT, Nat.reduceBEq, Nat.reduceBNe, reduceCtorEq, Int.reduceBEq, Int.reduceBNe, Int.reduceLT, Int.reduceLE, Int.reduceEq, Int.reduceToNat, Int.reduceAdd, Int.reduceSub, Int.reduceNeg, A1], by simp +contextual only [vq, vc, ve, vv, vn, vl, ↓reduceIte, Nat.reduceEqDiff, Nat.reduceAdd, Nat.reduceMul, Nat.reduceSub, Nat.reduceLeDiff, Nat.reduceLT, Nat.reduceBEq, Nat.reduceBNe, reduceCtorEq, Int.reduceBEq, Int.reduceBNe, Int.reduceLT, Int.reduceLE, Int.reduceEq, Int.reduceToNat, Int.reduceAdd, Int.reduceSub, Int.reduceNeg, A2], by simp +contextual only [vq, vc, ve, vv, vn, vl, ↓reduceIte, Nat.reduceEqDiff, Nat.reduceAdd, Nat.reduceMul, Nat.reduceSub, Nat.reduceLeDiff, Nat.reduceLT, Nat.reduceBEq, Nat.reduceBNe, reduceCtorEq, Int.reduceBEq, Int.reduceBNe, Int.reduceLT, Int.reduceLE, Int.reduceEq, Int.reduceToNat, Int.reduceAdd, Int.reduceSub, Int.reduceNeg], by simp +contextual only [vq, vc, ve, vv, vn, vl, ↓reduceIte, Nat.reduceEqDiff, Nat.reduceAdd, Nat.reduceMul, Nat.reduceSub, Nat.reduceLeDiff, Nat.reduceLT, Nat.reduceBEq, Nat.reduceBNe, reduceCtorEq, Int.reduceBEq, Int.reduceBNe, Int.reduceLT, Int.reduceLE, Int.reduceEq, Int.reduceToNat, Int.reduceAdd, Int.reduceSub, Int.reduceNeg, sx], by simp +contextual only [vq, vc, ve, vv, vn, vl, ↓reduceIte, Nat.reduceEqDiff, Nat.reduceAdd, Nat.reduceMul, Nat.reduceSub, Nat.reduceLeDiff, Nat.reduceLT, Nat.reduceBEq, Nat.reduceBNe, reduceCtorEq, Int.reduceBEq, Int.reduceBNe, Int.reduceLT, Int.reduceLE, Int.reduceEq, Int.reduceToNat, Int.reduceAdd, Int.reduceSub, Int.reduceNeg], by simp +contextual only [vq, vc, ve, vv, vn, vl, ↓reduceIte, Nat.reduceEqDiff, Nat.reduceAdd, Nat.reduceMul, Nat.reduceSub, Nat.reduceLeDiff, Nat.reduceLT, Nat.reduceBEq, Nat.reduceBNe, reduceCtorEq, Int.reduceBEq, Int.reduceBNe, Int.reduceLT, Int.reduceLE, Int.reduceEq, Int.reduceToNat, Int.reduceAdd, Int.reduceSub, Int.reduceNeg]; rfl, hb.grown gm1, r1, by omega, fun j h1 _ => gm1.at h1, by omega, fun _ => gm1.at hbl, rfl⟩ fun J hJ q st hI => ?_
    obtain ⟨i, seen, a, A, N2, rfl, rfl, hi, A0, A1, A2, A9, A25, A26, A27, hR, hS, hle2, hag, hlow2, hwr, hgo⟩ := hI
    obtain ⟨hx2, hn2⟩ := PN N2 hle2 hag
    by_cases hlt : i < l.length
    · obtain ⟨a1, c1, e1, hc1, hget, ho⟩ := hx2.at hlt
      simp only [parE] at hget
      have A25' := A25
      rw [e1] at A25
      simp +contextual only [vq, vc, ve, vv, vn, vl, ↓reduceIte, Nat.reduceEqDiff, Nat.reduceAdd, Nat.reduceMul, Nat.reduceSub, Nat.reduceLeDiff, Nat.reduceLT, Nat.reduceBEq, Nat.reduceBNe, reduceCtorEq, Int.reduceBEq, Int.reduceBNe, Int.reduceLT, Int.reduceLE, Int.reduceEq, Int.reduceToNat, Int.reduceAdd, Int.reduceSub, Int.reduceNeg, A25, A26, A27, hlt, hget, ho]
      refine new_mk fun N3 n3 => ?_
      obtain ⟨N4, p4, g4, r4, l4, w4⟩ := put_new n3 (cs := [.str l[i].name, .str l[i].value, .bool l[i].has]) rfl
      have hpl := c_param_place N4 nv l[i].name names (hn2.grown g4) (by omega) (fun x hx => by have := hnl x hx; omega)
      have hdrop : l.drop i = l[i] :: l.drop (i + 1) := List.drop_eq_getElem_cons hlt
      have hgo2 := hgo
      rw [hdrop, eachGo] at hgo2
      obtain ⟨k, hk⟩ : ∃ k, plc l[i].name names = some k := by
        cases hk : plc l[i].name names with
        | some k => exact ⟨k, rfl⟩
        | none =>
          unfold unk at hun
          have := List.any_eq_false.1 hun _ (List.getElem_mem hlt)
          rw [hk] at this
          simp at this
      have hkl := plc_lt hk
      rw [plcI_some hk] at hpl
      simp only [hk] at hgo2
      have k8 : (((k : Nat) : Int) < ((8 : Nat) : Int)) = True := eq_true (by omega)
      have k8' : (k < 8) = True := eq_true (by omega)
      have hSg := seenE_get (l := seen) (show k < 8 by omega)
      have S4 := hS.grown g4
      have R4 := hR.grown g4
      have low4 : b ≤ N4.low := by omega
      have wr4 : b < N4.low → N4.bl[b]? = m.bl[b]? := fun h => by
        rw [g4.at (by omega), hwr (by omega)]
      have ag4 : ∀ j, j < m.bl.length → j ≠ b → N4.bl[j]? = m.bl[j]? := fun j h1 h2 => by rw [g4.at (by omega), hag j h1 h2]
      cases hc : seen.contains k with
      | true =>
        rw [hc] at hSg hgo2
        simp only [if_true] at hgo2
        simp +contextual only [vq, vc, ve, vv, vn, vl, ↓reduceIte, Nat.reduceEqDiff, Nat.reduceAdd, Nat.reduceMul, Nat.reduceSub, Nat.reduceLeDiff, Nat.reduceLT, Nat.reduceBEq, Nat.reduceBNe, reduceCtorEq, Int.reduceBEq, Int.reduceBNe, Int.reduceLT, Int.reduceLE, Int.reduceEq, Int.reduceToNat, Int.reduceAdd, Int.reduceSub, Int.reduceNeg, p4, r4.get (G := G), A1, A9, callR_val hpl, k8, k8', S4.get (G := G), hSg]
        rw [← hgo2]
        exact fin _ N4 102 a (by simp +contextual only [vq, vc, ve, vv, vn, vl, ↓reduceIte, Nat.reduceEqDiff, Nat.reduceAdd, Nat.reduceMul, Nat.reduceSub, Nat.reduceLeDiff, Nat.reduceLT, Nat.reduceBEq, Nat.reduceBNe, reduceCtorEq, Int.reduceBEq, Int.reduceBNe, Int.reduceLT, Int.reduceLE, Int.reduceEq, Int.reduceToNat, Int.reduceAdd, Int.reduceSub, Int.reduceNeg]) R4 (by omega) ag4 low4 wr4
      | false =>
        rw [hc] at hSg hgo2
        simp only [Bool.false_eq_true, if_false] at hgo2
        obtain ⟨N5, p5, S5, t5, w5⟩ := put1_row (off := k) (v := .bool true) S4 (by simp [seenE]; omega)
        rw [seenE_set (by omega)] at S5
        have hnb : N.bl.length ≠ b := by omega
        have hSlt := hS.lt
        have R5 : RowIs N5 b (enc a) := R4.but t5 (by omega)
        have r5 := r4.but t5 (by omega)
        have low5 : b ≤ N5.low := by omega
        have wr5 : b < N5.low → N5.bl[b]? = m.bl[b]? := fun h => by
          rw [t5.2 b (by omega), wr4 (by omega)]
        have ag5 : ∀ j, j < m.bl.length → j ≠ b → N5.bl[j]? = m.bl[j]? := fun j h1 h2 => by rw [t5.2 j (by omega), ag4 j h1 h2]
        have len5 := t5.1
        obtain ⟨N6, hcall, R6, E6, W6⟩ := htake a N5 k l[i] (List.getElem_mem hlt) hkl R5
        simp only [parE] at hcall
        have S6 : RowIs N6 N.bl.length (seenE (k :: seen)) := E6.row S5 hnb (by simp)
        have len6 := E6.2.1
        have low6 : b ≤ N6.low := E6.2.2 b low5 (Nat.le_refl _) (by omega) (fun _ h => by cases h)
        have wr6 : b < N6.low → N6.bl[b]? = m.bl[b]? := fun h => by
          obtain ⟨q1, q2⟩ := W6 h
          rw [q2, wr5 q1]
        have ag6 : ∀ j, j < m.bl.length → j ≠ b → N6.bl[j]? = m.bl[j]? := fun j h1 h2 => by rw [E6.1 j (by omega) h2 (by simp), ag5 j h1 h2]
        by_cases hbad : l[i].has = false ∧ l[i].value ≠ []
        · rw [if_pos hbad] at hgo2
          obtain ⟨b1, b2⟩ := hbad
          have z : (l[i].value == []) = false := by simpa using b2
          rw [b1] at r5
          simp +contextual only [vq, vc, ve, vv, vn, vl, ↓reduceIte, Nat.reduceEqDiff, Nat.reduceAdd, Nat.reduceMul, Nat.reduceSub, Nat.reduceLeDiff, Nat.reduceLT, Nat.reduceBEq, Nat.reduceBNe, reduceCtorEq, Int.reduceBEq, Int.reduceBNe, Int.reduceLT, Int.reduceLE, Int.reduceEq, Int.reduceToNat, Int.reduceAdd, Int.reduceSub, Int.reduceNeg, p4, r4.get (G := G), A1, A9, callR_val hpl, k8, k8', S4.get (G := G), hSg, p5, r5.get (G := G), z]
          rw [← hgo2]
          exact fin _ N5 101 a (by simp +contextual only [vq, vc, ve, vv, vn, vl, ↓reduceIte, Nat.reduceEqDiff, Nat.reduceAdd, Nat.reduceMul, Nat.reduceSub, Nat.reduceLeDiff, Nat.reduceLT, Nat.reduceBEq, Nat.reduceBNe, reduceCtorEq, Int.reduceBEq, Int.reduceBNe, Int.reduceLT, Int.reduceLE, Int.reduceEq, Int.reduceToNat, Int.reduceAdd, Int.reduceSub, Int.reduceNeg]) R5 (by omega) ag5 low5 wr5
        · rw [if_neg hbad] at hgo2
          have hcase : l[i].has = true ∨ l[i].has = false ∧ (l[i].value == []) = true := by
            cases hh : l[i].has with
            | true => exact .inl rfl
            | false =>
              refine .inr ⟨rfl, ?_⟩
              by_cases hv : l[i].value = []
              · simp [hv]
              · exact absurd ⟨hh, hv⟩ hbad
          rcases hcase with hh | ⟨hh, hz⟩
          · rw [hh] at r5 hcall
            cases hst : (stp a k l[i]).1 with
            | false =>
              rw [hst] at hcall hgo2
              simp only [Bool.false_eq_true, if_false] at hgo2
              simp +contextual only [vq, vc, ve, vv, vn, vl, ↓reduceIte, Nat.reduceEqDiff, Nat.reduceAdd, Nat.reduceMul, Nat.reduceSub, Nat.reduceLeDiff, Nat.reduceLT, Nat.reduceBEq, Nat.reduceBNe, reduceCtorEq, Int.reduceBEq, Int.reduceBNe, Int.reduceLT, Int.reduceLE, Int.reduceEq, Int.reduceToNat, Int.reduceAdd, Int.reduceSub, Int.reduceNeg, p4, r4.get (G := G), A1, A2, A9, callR_val hpl, k8, k8', S4.get (G := G), hSg, p5, r5.get (G := G), r5.getN (G := G), callR_cap hcall]
              rw [← hgo2]
              exact fin _ N6 101 _ (by simp +contextual only [vq, vc, ve, vv, vn, vl, ↓reduceIte, Nat.reduceEqDiff, Nat.reduceAdd, Nat.reduceMul, Nat.reduceSub, Nat.reduceLeDiff, Nat.reduceLT, Nat.reduceBEq, Nat.reduceBNe, reduceCtorEq, Int.reduceBEq, Int.reduceBNe, Int.reduceLT, Int.reduceLE, Int.reduceEq, Int.reduceToNat, Int.reduceAdd, Int.reduceSub, Int.reduceNeg]) R6 (by omega) ag6 low6 wr6
            | true =>
              rw [hst] at hcall hgo2
              simp only [if_true] at hgo2
              simp +contextual only [vq, vc, ve, vv, vn, vl, ↓reduceIte, Nat.reduceEqDiff, Nat.reduceAdd, Nat.reduceMul, Nat.reduceSub, Nat.reduceLeDiff, Nat.reduceLT, Nat.reduceBEq, Nat.reduceBNe, reduceCtorEq, Int.reduceBEq, Int.reduceBNe, Int.reduceLT, Int.reduceLE, Int.reduceEq, Int.reduceToNat, Int.reduceAdd, Int.reduceSub, Int.reduceNeg, p4, r4.get (G := G), A1, A2, A9, callR_val hpl, k8, k8', S4.get (G := G), hSg, p5, r5.get (G := G), r5.getN (G := G), callR_cap hcall, A27, wsucc hlt (by omega)]
              exact again2 hJ (l.length - (i + 1)) (by omega) ⟨i + 1, k :: seen, _, _, N6, rfl, rfl, by omega, by simp +contextual only [vq, vc, ve, vv, vn, vl, ↓reduceIte, Nat.reduceEqDiff, Nat.reduceAdd, Nat.reduceMul, Nat.reduceSub, Nat.reduceLeDiff, Nat.reduceLT, Nat.reduceBEq, Nat.reduceBNe, reduceCtorEq, Int.reduceBEq, Int.reduceBNe, Int.reduceLT, Int.reduceLE, Int.reduceEq, Int.reduceToNat, Int.reduceAdd, Int.reduceSub, Int.reduceNeg, A0], by simp +contextual only [vq, vc, ve, vv, vn, vl, ↓reduceIte, Nat.reduceEqDiff, Nat.reduceAdd, Nat.reduceMul, Nat.reduceSub, Nat.reduceLeDiff, Nat.reduceLT, Nat.reduceBEq, Nat.reduceBNe, reduceCtorEq, Int.reduceBEq, Int.reduceBNe, Int.reduceLT, Int.reduceLE, Int.reduceEq, Int.reduceToNat, Int.reduceAdd, Int.reduceSub, Int.reduceNeg, A1], by simp +contextual only [vq, vc, ve, vv, vn, vl, ↓reduceIte, Nat.reduceEqDiff, Nat.reduceAdd, Nat.reduceMul, Nat.reduceSub, Nat.reduceLeDiff, Nat.reduceLT, Nat.reduceBEq, Nat.reduceBNe, reduceCtorEq, Int.reduceBEq, Int.reduceBNe, Int.reduceLT, Int.reduceLE, Int.reduceEq, Int.reduceToNat, Int.reduceAdd, Int.reduceSub, Int.reduceNeg, A2], by simp +contextual only [vq, vc, ve, vv, vn, vl, ↓reduceIte, Nat.reduceEqDiff, Nat.reduceAdd, Nat.reduceMul, Nat.reduceSub, Nat.reduceLeDiff, Nat.reduceLT, Nat.reduceBEq, Nat.reduceBNe, reduceCtorEq, Int.reduceBEq, Int.reduceBNe, Int.reduceLT, Int.reduceLE, Int.reduceEq, Int.reduceToNat, Int.reduceAdd, Int.reduceSub, Int.reduceNeg, A9], by simp +contextual only [vq, vc, ve, vv, vn, vl, ↓reduceIte, Nat.reduceEqDiff, Nat.reduceAdd, Nat.reduceMul, Nat.reduceSub, Nat.reduceLeDiff, Nat.reduceLT, Nat.reduceBEq, Nat.reduceBNe, reduceCtorEq, Int.reduceBEq, Int.reduceBNe, Int.reduceLT, Int.reduceLE, Int.reduceEq, Int.reduceToNat, Int.reduceAdd, Int.reduceSub, Int.reduceNeg, A25'], by simp +contextual only [vq, vc, ve, vv, vn, vl, ↓reduceIte, Nat.reduceEqDiff, Nat.reduceAdd, Nat.reduceMul, Nat.reduceSub, Nat.reduceLeDiff, Nat.reduceLT, Nat.reduceBEq, Nat.reduceBNe, reduceCtorEq, Int.reduceBEq, Int.reduceBNe, Int.reduceLT, Int.reduceLE, Int.reduceEq, Int.reduceToNat, Int.reduceAdd, Int.reduceSub, Int.reduceNeg, A26], by simp +contextual only [vq, vc, ve, vv, vn, vl, ↓reduceIte, Nat.reduceEqDiff, Nat.reduceAdd, Nat.reduceMul, Nat.reduceSub, Nat.reduceLeDiff, Nat.reduceLT, Nat.reduceBEq, Nat.reduceBNe, reduceCtorEq, Int.reduceBEq, Int.reduceBNe, Int.reduceLT, Int.reduceLE, Int.reduceEq, Int.reduceToNat, Int.reduceAdd, Int.reduceSub, Int.reduceNeg], R6, S6, by omega, ag6, low6, wr6, hgo2⟩
          · rw [hh] at r5 hcall
            cases hst : (stp a k l[i]).1 with
            | false =>
              rw [hst] at hcall hgo2
              simp only [Bool.false_eq_true, if_false] at hgo2
              simp +contextual only [vq, vc, ve, vv, vn, vl, ↓reduceIte, Nat.reduceEqDiff, Nat.reduceAdd, Nat.reduceMul, Nat.reduceSub, Nat.reduceLeDiff, Nat.reduceLT, Nat.reduceBEq, Nat.reduceBNe, reduceCtorEq, Int.reduceBEq, Int.reduceBNe, Int.reduceLT, Int.reduceLE, Int.reduceEq, Int.reduceToNat, Int.reduceAdd, Int.reduceSub, Int.reduceNeg, p4, r4.get (G := G), A1, A2, A9, callR_val hpl, k8, k8', S4.get (G := G), hSg, p5, r5.get (G := G), r5.getN (G := G), hz, callR_cap hcall]
              rw [← hgo2]
              exact fin _ N6 101 _ (by simp +contextual only [vq, vc, ve, vv, vn, vl, ↓reduceIte, Nat.reduceEqDiff, Nat.reduceAdd, Nat.reduceMul, Nat.reduceSub, Nat.reduceLeDiff, Nat.reduceLT, Nat.reduceBEq, Nat.reduceBNe, reduceCtorEq, Int.reduceBEq, Int.reduceBNe, Int.reduceLT, Int.reduceLE, Int.reduceEq, Int.reduceToNat, Int.reduceAdd, Int.reduceSub, Int.reduceNeg]) R6 (by omega) ag6 low6 wr6
            | true =>
              rw [hst] at hcall hgo2
              simp only [if_true] at hgo2
              simp +contextual only [vq, vc, ve, vv, vn, vl, ↓reduceIte, Nat.reduceEqDiff, Nat.reduceAdd, Nat.reduceMul, Nat.reduceSub, Nat.reduceLeDiff, Nat.reduceLT, Nat.reduceBEq, Nat.reduceBNe, reduceCtorEq, Int.reduceBEq, Int.reduceBNe, Int.reduceLT, Int.reduceLE, Int.reduceEq, Int.reduceToNat, Int.reduceAdd, Int.reduceSub, Int.reduceNeg, p4, r4.get (G := G), A1, A2, A9, callR_val hpl, k8, k8', S4.get (G := G), hSg, p5, r5.get (G := G), r5.getN (G := G), hz, callR_cap hcall, A27, wsucc hlt (by omega)]
              exact again2 hJ (l.length - (i + 1)) (by omega) ⟨i + 1, k :: seen, _, _, N6, rfl, rfl, by omega, by simp +contextual only [vq, vc, ve, vv, vn, vl, ↓reduceIte, Nat.reduceEqDiff, Nat.reduceAdd, Nat.reduceMul, Nat.reduceSub, Nat.reduceLeDiff, Nat.reduceLT, Nat.reduceBEq, Nat.reduceBNe, reduceCtorEq, Int.reduceBEq, Int.reduceBNe, Int.reduceLT, Int.reduceLE, Int.reduceEq, Int.reduceToNat, Int.reduceAdd, Int.reduceSub, Int.reduceNeg, A0], by simp +contextual only [vq, vc, ve, vv, vn, vl, ↓reduceIte, Nat.reduceEqDiff, Nat.reduceAdd, Nat.reduceMul, Nat.reduceSub, Nat.reduceLeDiff, Nat.reduceLT, Nat.reduceBEq, Nat.reduceBNe, reduceCtorEq, Int.reduceBEq, Int.reduceBNe, Int.reduceLT, Int.reduceLE, Int.reduceEq, Int.reduceToNat, Int.reduceAdd, Int.reduceSub, Int.reduceNeg, A1], by simp +contextual only [vq, vc, ve, vv, vn, vl, ↓reduceIte, Nat.reduceEqDiff, Nat.reduceAdd, Nat.reduceMul, Nat.reduceSub, Nat.reduceLeDiff, Nat.reduceLT, Nat.reduceBEq, Nat.reduceBNe, reduceCtorEq, Int.reduceBEq, Int.reduceBNe, Int.reduceLT, Int.reduceLE, Int.reduceEq, Int.reduceToNat, Int.reduceAdd, Int.reduceSub, Int.reduceNeg, A2], by simp +contextual only [vq, vc, ve, vv, vn, vl, ↓reduceIte, Nat.reduceEqDiff, Nat.reduceAdd, Nat.reduceMul, Nat.reduceSub, Nat.reduceLeDiff, Nat.reduceLT, Nat.reduceBEq, Nat.reduceBNe, reduceCtorEq, Int.reduceBEq, Int.reduceBNe, Int.reduceLT, Int.reduceLE, Int.reduceEq, Int.reduceToNat, Int.reduceAdd, Int.reduceSub, Int.reduceNeg, A9], by simp +contextual only [vq, vc, ve, vv, vn, vl, ↓reduceIte, Nat.reduceEqDiff, Nat.reduceAdd, Nat.reduceMul, Nat.reduceSub, Nat.reduceLeDiff, Nat.reduceLT, Nat.reduceBEq, Nat.reduceBNe, reduceCtorEq, Int.reduceBEq, Int.reduceBNe, Int.reduceLT, Int.reduceLE, Int.reduceEq, Int.reduceToNat, Int.reduceAdd, Int.reduceSub, Int.reduceNeg, A25'], by simp +contextual only [vq, vc, ve, vv, vn, vl, ↓reduceIte, Nat.reduceEqDiff, Nat.reduceAdd, Nat.reduceMul, Nat.reduceSub, Nat.reduceLeDiff, Nat.reduceLT, Nat.reduceBEq, Nat.reduceBNe, reduceCtorEq, Int.reduceBEq, Int.reduceBNe, Int.reduceLT, Int.reduceLE, Int.reduceEq, Int.reduceToNat, Int.reduceAdd, Int.reduceSub, Int.reduceNeg, A26], by simp +contextual only [vq, vc, ve, vv, vn, vl, ↓reduceIte, Nat.reduceEqDiff, Nat.reduceAdd, Nat.reduceMul, Nat.reduceSub, Nat.reduceLeDiff, Nat.reduceLT, Nat.reduceBEq, Nat.reduceBNe, reduceCtorEq, Int.reduceBEq, Int.reduceBNe, Int.reduceLT, Int.reduceLE, Int.reduceEq, Int.reduceToNat, Int.reduceAdd, Int.reduceSub, Int.reduceNeg], R6, S6, by omega, ag6, low6, wr6, hgo2⟩
    · have he : i = l.length := by omega
      subst he
      rw [List.drop_length, eachGo] at hgo
      simp +contextual only [vq, vc, ve, vv, vn, vl, ↓reduceIte, Nat.reduceEqDiff, Nat.reduceAdd, Nat.reduceMul, Nat.reduceSub, Nat.reduceLeDiff, Nat.reduceLT, Nat.reduceBEq, Nat.reduceBNe, reduceCtorEq, Int.reduceBEq, Int.reduceBNe, Int.reduceLT, Int.reduceLE, Int.reduceEq, Int.reduceToNat, Int.reduceAdd, Int.reduceSub, Int.reduceNeg, A26, A27, hlt]
      rw [← hgo]
      exact fin _ N2 0 a (by simp +contextual only [vq, vc, ve, vv, vn, vl, ↓reduceIte, Nat.reduceEqDiff, Nat.reduceAdd, Nat.reduceMul, Nat.reduceSub, Nat.reduceLeDiff, Nat.reduceLT, Nat.reduceBEq, Nat.reduceBNe, reduceCtorEq, Int.reduceBEq, Int.reduceBNe, Int.reduceLT, Int.reduceLE, Int.reduceEq, Int.reduceToNat, Int.reduceAdd, Int.reduceSub, Int.reduceNeg]) hR hle2 hag hlow2 hwr
end Go.Proofs.YtmjoaiccbghijaaDoor.paramRcpts

namespace Go.Proofs.YtmjoaiccbghijaaDoor.paramRcpts
open Go.Ev hiding Comes
variable [GG]

theorem c_octet_Upper (m : Mem) (s : List UInt8) (hN : s.length ≤ 4611686018427387904 / 65536) : Go.Ev.Comes T G f_octet_Upper [.str s] m none ⟨.val (.str (upS s)), m, none⟩ := by
  refine comes2 T_octet_Upper rfl fun M hg hlen hlow => ?_
  simp only [F_octet_Upper]
  have k1 : ((1 : Nat) : Int) * (s.length : Int) ≤ 281474976710656 := by omega
  simp +contextual only [vq, vc, ve, vv, vn, vl, ↓reduceIte, Nat.reduceEqDiff, Nat.reduceAdd, Nat.reduceMul, Nat.reduceSub, Nat.reduceLeDiff, Nat.reduceLT, Nat.reduceBEq, Nat.reduceBNe, reduceCtorEq, Int.reduceBEq, Int.reduceBNe, Int.reduceLT, Int.reduceLE, Int.reduceEq, Int.reduceToNat, Int.reduceAdd, Int.reduceSub, Int.reduceNeg, k1]
  refine new_mk fun M1 e1 => ?_
  simp +contextual only [vq, vc, ve, vv, vn, vl, ↓reduceIte, Nat.reduceEqDiff, Nat.reduceAdd, Nat.reduceMul, Nat.reduceSub, Nat.reduceLeDiff, Nat.reduceLT, Nat.reduceBEq, Nat.reduceBNe, reduceCtorEq, Int.reduceBEq, Int.reduceBNe, Int.reduceLT, Int.reduceLE, Int.reduceEq, Int.reduceToNat, Int.reduceAdd, Int.reduceSub, Int.reduceNeg]
  have R1 : RowIs M1 M.bl.length (repE s.length [.int .u8 0]) := by rw [e1]; exact row_push _ _
  refine loop2 (fun n st => ∃ i A N, st = ⟨A, N, [], none⟩ ∧ m.bl.length ≤ N.low ∧ n = s.length - i ∧ i ≤ s.length ∧ A 0 = .str s ∧ A 3 = .slice (some ⟨.mem M.bl.length 0, 0⟩) s.length s.length 1 ∧ A 9 = .int .i64 s.length ∧ A 10 = .int .i64 i ∧ RowIs N M.bl.length (bytesE (upS (s.take i)) ++ List.replicate (s.length - i) (.int .u8 0))) s.length ⟨0, _, _, rfl, by rw [e1]; show _ ≤ M.low; omega, by omega, by omega, by simp +contextual only [vq, vc, ve, vv, vn, vl, ↓reduceIte, Nat.reduceEqDiff, Nat.reduceAdd, Nat.reduceMul, Nat.reduceSub, Nat.reduceLeDiff, Nat.reduceLT, Nat.reduceBEq, Nat.reduceBNe, reduceCtorEq, Int.reduceBEq, Int.reduceBNe, Int.reduceLT, Int.reduceLE, Int.reduceEq, Int.reduceToNat, Int.reduceAdd, Int.reduceSub, Int.reduceNeg], by simp +contextual only [vq, vc, ve, vv, vn, vl, ↓reduceIte, Nat.reduceEqDiff, Nat.reduceAdd, Nat.reduceMul, Nat.reduceSub, Nat.reduceLeDiff, Nat.reduceLT, Nat.reduceBEq, Nat.reduceBNe, reduceCtorEq, Int.reduceBEq, Int.reduceBNe, Int.reduceLT, Int.reduceLE, Int.reduceEq, Int.reduceToNat, Int.reduceAdd, Int.reduceSub, Int.reduceNeg], by simp +contextual only [vq, vc, ve, vv, vn, vl, ↓reduceIte, Nat.reduceEqDiff, Nat.reduceAdd, Nat.reduceMul, Nat.reduceSub, Nat.reduceLeDiff, Nat.reduceLT, Nat.reduceBEq, Nat.reduceBNe, reduceCtorEq, Int.reduceBEq, Int.reduceBNe, Int.reduceLT, Int.reduceLE, Int.reduceEq, Int.reduceToNat, Int.reduceAdd, Int.reduceSub, Int.reduceNeg], by simp +contextual only [vq, vc, ve, vv, vn, vl, ↓reduceIte, Nat.reduceEqDiff, Nat.reduceAdd, Nat.reduceMul, Nat.reduceSub, Nat.reduceLeDiff, Nat.reduceLT, Nat.reduceBEq, Nat.reduceBNe, reduceCtorEq, Int.reduceBEq, Int.reduceBNe, Int.reduceLT, Int.reduceLE, Int.reduceEq, Int.reduceToNat, Int.reduceAdd, Int.reduceSub, Int.reduceNeg]; rfl, by simpa [repE, upS, bytesE] using R1⟩ fun J hJ n st hI => ?_
  obtain ⟨i, A, N, rfl, lN, rfl, hi, A0, A3, A9, A10, RN⟩ := hI
  simp +contextual only [vq, vc, ve, vv, vn, vl, ↓reduceIte, Nat.reduceEqDiff, Nat.reduceAdd, Nat.reduceMul, Nat.reduceSub, Nat.reduceLeDiff, Nat.reduceLT, Nat.reduceBEq, Nat.reduceBNe, reduceCtorEq, Int.reduceBEq, Int.reduceBNe, Int.reduceLT, Int.reduceLE, Int.reduceEq, Int.reduceToNat, Int.reduceAdd, Int.reduceSub, Int.reduceNeg, A9, A10]
  refine br2_dec (fun hlt => ?_) (fun hge => ?_)
  · have ho : i < (bytesE (upS (s.take i)) ++ List.replicate (s.length - i) (EV.int .u8 0)).length := by simp [upS, bytesE]; omega
    obtain ⟨N1, p1, R2, t1, w1⟩ := put1_row (v := .int .u8 (up s[i]).toNat) RN ho
    simp +contextual only [vq, vc, ve, vv, vn, vl, ↓reduceIte, Nat.reduceEqDiff, Nat.reduceAdd, Nat.reduceMul, Nat.reduceSub, Nat.reduceLeDiff, Nat.reduceLT, Nat.reduceBEq, Nat.reduceBNe, reduceCtorEq, Int.reduceBEq, Int.reduceBNe, Int.reduceLT, Int.reduceLE, Int.reduceEq, Int.reduceToNat, Int.reduceAdd, Int.reduceSub, Int.reduceNeg, A0, A3, A10, get_byte hlt, callR_val (c_octet_upper _ _), hlt, p1, wsucc hlt (by omega)]
    refine again2 hJ (s.length - (i + 1)) (by omega) ⟨i + 1, _, N1, rfl, by omega, rfl, by omega, by simp +contextual only [vq, vc, ve, vv, vn, vl, ↓reduceIte, Nat.reduceEqDiff, Nat.reduceAdd, Nat.reduceMul, Nat.reduceSub, Nat.reduceLeDiff, Nat.reduceLT, Nat.reduceBEq, Nat.reduceBNe, reduceCtorEq, Int.reduceBEq, Int.reduceBNe, Int.reduceLT, Int.reduceLE, Int.reduceEq, Int.reduceToNat, Int.reduceAdd, Int.reduceSub, Int.reduceNeg, A0], by simp +contextual only [vq, vc, ve, vv, vn, vl, ↓reduceIte, Nat.reduceEqDiff, Nat.reduceAdd, Nat.reduceMul, Nat.reduceSub, Nat.reduceLeDiff, Nat.reduceLT, Nat.reduceBEq, Nat.reduceBNe, reduceCtorEq, Int.reduceBEq, Int.reduceBNe, Int.reduceLT, Int.reduceLE, Int.reduceEq, Int.reduceToNat, Int.reduceAdd, Int.reduceSub, Int.reduceNeg, A3], by simp +contextual only [vq, vc, ve, vv, vn, vl, ↓reduceIte, Nat.reduceEqDiff, Nat.reduceAdd, Nat.reduceMul, Nat.reduceSub, Nat.reduceLeDiff, Nat.reduceLT, Nat.reduceBEq, Nat.reduceBNe, reduceCtorEq, Int.reduceBEq, Int.reduceBNe, Int.reduceLT, Int.reduceLE, Int.reduceEq, Int.reduceToNat, Int.reduceAdd, Int.reduceSub, Int.reduceNeg, A9], by simp +contextual only [vq, vc, ve, vv, vn, vl, ↓reduceIte, Nat.reduceEqDiff, Nat.reduceAdd, Nat.reduceMul, Nat.reduceSub, Nat.reduceLeDiff, Nat.reduceLT, Nat.reduceBEq, Nat.reduceBNe, reduceCtorEq, Int.reduceBEq, Int.reduceBNe, Int.reduceLT, Int.reduceLE, Int.reduceEq, Int.reduceToNat, Int.reduceAdd, Int.reduceSub, Int.reduceNeg], ?_⟩
    have e2 : s.length - i = (s.length - (i + 1)) + 1 := by omega
    have e3 : upS (s.take (i + 1)) = upS (s.take i) ++ [up s[i]] := by simp only [upS, List.take_succ_eq_append_getElem hlt, List.map_append]; rfl
    have e4 : (bytesE (upS (s.take i))).length = i := by simp [upS, bytesE]; omega
    rw [e2, List.replicate_succ, List.set_append_right _ _ (by omega), e4, Nat.sub_self, List.set_cons_zero] at R2
    rw [e3, bytes_app, List.append_assoc]
    exact R2
  · have he : i = s.length := by omega
    subst he
    rw [List.take_length, Nat.sub_self, List.replicate_zero, List.append_nil] at RN
    have g : N.getN G ⟨.mem M.bl.length 0, 0⟩ s.length = some (bytesE (upS s)) := getN_row RN (sub_all (by simp [upS, bytesE]))
    simp +contextual only [vq, vc, ve, vv, vn, vl, ↓reduceIte, Nat.reduceEqDiff, Nat.reduceAdd, Nat.reduceMul, Nat.reduceSub, Nat.reduceLeDiff, Nat.reduceLT, Nat.reduceBEq, Nat.reduceBNe, reduceCtorEq, Int.reduceBEq, Int.reduceBNe, Int.reduceLT, Int.reduceLE, Int.reduceEq, Int.reduceToNat, Int.reduceAdd, Int.reduceSub, Int.reduceNeg, A3, g, lN]
end Go.Proofs.YtmjoaiccbghijaaDoor.paramRcpts

namespace Go.Proofs.YtmjoaiccbghijaaDoor.paramRcpts
open Go.Ev hiding Comes

theorem findByte_neg {s : List UInt8} {c : UInt8} (h : findByte s c < 0) : ∀ b ∈ s, b ≠ c := by
  unfold findByte at h
  split at h
  · omega
  · rename_i hn
    intro b hb e
    have := List.findIdx?_eq_none_iff.1 hn b hb
    simp [e] at this
theorem findByte_pos {s : List UInt8} {c : UInt8} (h : ¬ findByte s c < 0) : ∃ k : Nat, findByte s c = k ∧ k < s.length ∧ s[k]? = some c ∧ ∀ j, j < k → s[j]? ≠ some c := by
  unfold findByte at h ⊢
  split at h
  · rename_i k hk
    obtain ⟨h1, h2, h3⟩ := List.findIdx?_eq_some_iff_getElem.1 hk
    refine ⟨k, rfl, h1, by rw [List.getElem?_eq_getElem h1]; simpa using h2, fun j hj e => ?_⟩
    have hjl : j < s.length := by omega
    rw [List.getElem?_eq_getElem hjl] at e
    have := h3 j hj
    simp at e this
    exact this e
  · omega
end Go.Proofs.YtmjoaiccbghijaaDoor.paramRcpts

namespace Go.Proofs.YtmjoaiccbghijaaDoor.paramRcpts
open Go.Ev hiding Comes
variable [GG]

theorem c_bytealg_IndexByteString (m : Mem) (s : List UInt8) (c : UInt8) : Go.Ev.Comes T G f_bytealg_IndexByteString [.str s, .int .u8 c.toNat] m none ⟨.val (.int .i64 (findByte s c)), m, none⟩ :=
  ⟨1, by have := c.toNat_lt; simp [evFun, T_bytealg_IndexByteString, F_bytealg_IndexByteString, primE, ibsE, UInt8.ofNat_toNat]; omega⟩
theorem c_stringslite_IndexByte (m : Mem) (s : List UInt8) (c : UInt8) : Go.Ev.Comes T G f_stringslite_IndexByte [.str s, .int .u8 c.toNat] m none ⟨.val (.int .i64 (findByte s c)), m, none⟩ := by
  refine comes2 T_stringslite_IndexByte rfl fun M hg hlen hlow => ?_
  have hl : m.bl.length ≤ M.low := by omega
  simp only [F_stringslite_IndexByte]
  simp +contextual only [vq, vc, ve, vv, vn, vl, ↓reduceIte, Nat.reduceEqDiff, Nat.reduceAdd, Nat.reduceMul, Nat.reduceSub, Nat.reduceLeDiff, Nat.reduceLT, Nat.reduceBEq, Nat.reduceBNe, reduceCtorEq, Int.reduceBEq, Int.reduceBNe, Int.reduceLT, Int.reduceLE, Int.reduceEq, Int.reduceToNat, Int.reduceAdd, Int.reduceSub, Int.reduceNeg, callR_val (c_bytealg_IndexByteString M s c), hl]
theorem c_stringslite_Index1 (m : Mem) (s : List UInt8) (c : UInt8) : Go.Ev.Comes T G f_stringslite_Index [.str s, .str [c]] m none ⟨.val (.int .i64 (findByte s c)), m, none⟩ := by
  refine comes2 T_stringslite_Index rfl fun M hg hlen hlow => ?_
  have hl : m.bl.length ≤ M.low := by omega
  simp only [F_stringslite_Index]
  cases hq : ([c] == s) with
  | true =>
    have h0 : findByte s c = 0 := by
      have : [c] = s := by simpa using hq
      subst this
      simp [findByte]
    simp +contextual only [vq, vc, ve, vv, vn, vl, ↓reduceIte, Nat.reduceEqDiff, Nat.reduceAdd, Nat.reduceMul, Nat.reduceSub, Nat.reduceLeDiff, Nat.reduceLT, Nat.reduceBEq, Nat.reduceBNe, reduceCtorEq, Int.reduceBEq, Int.reduceBNe, Int.reduceLT, Int.reduceLE, Int.reduceEq, Int.reduceToNat, Int.reduceAdd, Int.reduceSub, Int.reduceNeg, hl, hq, h0]
  | false =>
    have k1 : (((1 : Nat) : Int) == 1) = true := rfl
    simp +contextual only [vq, vc, ve, vv, vn, vl, ↓reduceIte, Nat.reduceEqDiff, Nat.reduceAdd, Nat.reduceMul, Nat.reduceSub, Nat.reduceLeDiff, Nat.reduceLT, Nat.reduceBEq, Nat.reduceBNe, reduceCtorEq, Int.reduceBEq, Int.reduceBNe, Int.reduceLT, Int.reduceLE, Int.reduceEq, Int.reduceToNat, Int.reduceAdd, Int.reduceSub, Int.reduceNeg, callR_val (c_stringslite_IndexByte M s c), hl, hq, k1]
end Go.Proofs.YtmjoaiccbghijaaDoor.paramRcpts

namespace Go.Proofs.YtmjoaiccbghijaaDoor.paramRcpts
open Go.Ev hiding Comes
variable [GG]

theorem c_bytealg_CountString (m : Mem) (s : List UInt8) (c : UInt8) : Go.Ev.Comes T G f_bytealg_CountString [.str s, .int .u8 c.toNat] m none ⟨.val (.int .i64 (s.count c : Nat)), m, none⟩ := by
  have h : cntE [.str s, .int .u8 c.toNat] m = some (.int .i64 (s.count c : Nat), m) := by
    simp only [cntE]
    rw [Go.Lib.foldl_data, Go.Lib.count_foldl]
    simp [Go.Lib.countByte]
  exact ⟨1, by simp only [evFun, T_bytealg_CountString, F_bytealg_CountString, primE, h, Option.isSome_none, Bool.false_eq_true, if_false, Option.map_some]⟩
theorem c_strings_Count1 (m : Mem) (s : List UInt8) (c : UInt8) : Go.Ev.Comes T G f_strings_Count [.str s, .str [c]] m none ⟨.val (.int .i64 (s.count c : Nat)), m, none⟩ := by
  refine comes2 T_strings_Count rfl fun M hg hlen hlow => ?_
  have hl : m.bl.length ≤ M.low := by omega
  have k1 : (((1 : Nat) : Int) == 1) = true := rfl
  simp only [F_strings_Count]
  simp +contextual only [vq, vc, ve, vv, vn, vl, ↓reduceIte, Nat.reduceEqDiff, Nat.reduceAdd, Nat.reduceMul, Nat.reduceSub, Nat.reduceLeDiff, Nat.reduceLT, Nat.reduceBEq, Nat.reduceBNe, reduceCtorEq, Int.reduceBEq, Int.reduceBNe, Int.reduceLT, Int.reduceLE, Int.reduceEq, Int.reduceToNat, Int.reduceAdd, Int.reduceSub, Int.reduceNeg, k1, callR_val (c_bytealg_CountString M s c), hl]
theorem c_strings_Index1 (m : Mem) (s : List UInt8) (c : UInt8) : Go.Ev.Comes T G f_strings_Index [.str s, .str [c]] m none ⟨.val (.int .i64 (findByte s c)), m, none⟩ := by
  refine comes2 T_strings_Index rfl fun M hg hlen hlow => ?_
  have hl : m.bl.length ≤ M.low := by omega
  simp only [F_strings_Index]
  simp +contextual only [vq, vc, ve, vv, vn, vl, ↓reduceIte, Nat.reduceEqDiff, Nat.reduceAdd, Nat.reduceMul, Nat.reduceSub, Nat.reduceLeDiff, Nat.reduceLT, Nat.reduceBEq, Nat.reduceBNe, reduceCtorEq, Int.reduceBEq, Int.reduceBNe, Int.reduceLT, Int.reduceLE, Int.reduceEq, Int.reduceToNat, Int.reduceAdd, Int.reduceSub, Int.reduceNeg, callR_val (c_stringslite_Index1 M s c), hl]
theorem c_strings_genSplit1 (m : Mem) (s : List UInt8) (c : UInt8) (hs : s.length ≤ 1000000000) : ∃ r, Go.Ev.Comes T G f_strings_genSplit [.str s, .str [c], .int .i64 0, .int .i64 (-1)] m none r ∧
    ∃ b m', r = ⟨.val (.slice (some ⟨.mem b 0, 0⟩) (s.count c + 1) (s.count c + 1) 1), m', none⟩ ∧ Grown m m' ∧ min m.low m.bl.length ≤ m'.low ∧ m.bl.length ≤ b ∧ RowIs m' b ((splitB c (s.count c) s).map .str) := by
  refine comes2P T_strings_genSplit rfl fun M hg hlen hlow => ?_
  have hl0 : m.bl.length ≤ M.low := by omega
  have hcl := List.count_le_length (a := c) (l := s)
  generalize hK : s.count c = K at hcl
  have hC := c_strings_Count1 M s c
  rw [hK] at hC
  have w1 : IntKind.i64.wrap ((K : Int) + 1) = ((K + 1 : Nat) : Int) := wrap_of (by omega) (by omega)
  have w2 : IntKind.i64.wrap ((s.length : Int) + 1) = ((s.length + 1 : Nat) : Int) := wrap_of (by omega) (by omega)
  have w3 : IntKind.i64.wrap (((K + 1 : Nat) : Int) - 1) = ((K : Nat) : Int) := wrap_of (by omega) (by omega)
  have k1 : (((s.length + 1 : Nat) : Int) < ((K + 1 : Nat) : Int)) = False := eq_false (by omega)
  have k2 : ((16 : Nat) : Int) * ((K + 1 : Nat) : Int) ≤ 281474976710656 := by omega
  have k3 : (16 : Int) * ((K + 1 : Nat) : Int) ≤ 281474976710656 := by omega
  have ne0 : ([c] == ([] : List UInt8)) = false := rfl
  simp only [F_strings_genSplit]
  simp +contextual only [vq, vc, ve, vv, vn, vl, ↓reduceIte, Nat.reduceEqDiff, Nat.reduceAdd, Nat.reduceMul, Nat.reduceSub, Nat.reduceLeDiff, Nat.reduceLT, Nat.reduceBEq, Nat.reduceBNe, reduceCtorEq, Int.reduceBEq, Int.reduceBNe, Int.reduceLT, Int.reduceLE, Int.reduceEq, Int.reduceToNat, Int.reduceAdd, Int.reduceSub, Int.reduceNeg, callR_val hC, w1, w2, w3, k1, k2, k3, ne0]
  refine new_mk fun M1 e1 => ?_
  have R1 : RowIs M1 M.bl.length (repE (K + 1) [.str []]) := by rw [e1]; exact row_push _ _
  have g1 : Grown M M1 := by rw [e1]; exact Grown.rfl'.push
  have l1 : M1.low = M.low := by rw [e1]; rfl
  have b1 : M1.bl.length = M.bl.length + 1 := by rw [e1]; simp [Mem.push]
  simp +contextual only [vq, vc, ve, vv, vn, vl, ↓reduceIte, Nat.reduceEqDiff, Nat.reduceAdd, Nat.reduceMul, Nat.reduceSub, Nat.reduceLeDiff, Nat.reduceLT, Nat.reduceBEq, Nat.reduceBNe, reduceCtorEq, Int.reduceBEq, Int.reduceBNe, Int.reduceLT, Int.reduceLE, Int.reduceEq, Int.reduceToNat, Int.reduceAdd, Int.reduceSub, Int.reduceNeg, w3]
  refine loop2 (fun q st => ∃ (i : Nat) (done : List (List UInt8)) (cur : List UInt8) (A : Fr) (N : Mem), st = ⟨A, N, [], none⟩ ∧ q = K - i ∧ i ≤ K ∧ done.length = i ∧ A 0 = .str cur ∧ A 1 = .str [c] ∧ A 2 = .int .i64 0 ∧ A 3 = .int .i64 (K : Nat) ∧ A 9 = .slice (some ⟨.mem M.bl.length 0, 0⟩) (K + 1) (K + 1) 1 ∧ A 10 = .int .i64 (i : Nat) ∧
    cur.length ≤ s.length ∧ cur.count c = K - i ∧ done ++ splitB c (K - i) cur = splitB c K s ∧ RowIs N M.bl.length (done.map .str ++ List.replicate (K + 1 - i) (.str [])) ∧ Grown m N ∧ m.bl.length ≤ N.low) K
    ⟨0, [], s, _, M1, rfl, rfl, by omega, rfl, by simp +contextual only [vq, vc, ve, vv, vn, vl, ↓reduceIte, Nat.reduceEqDiff, Nat.reduceAdd, Nat.reduceMul, Nat.reduceSub, Nat.reduceLeDiff, Nat.reduceLT, Nat.reduceBEq, Nat.reduceBNe, reduceCtorEq, Int.reduceBEq, Int.reduceBNe, Int.reduceLT, Int.reduceLE, Int.reduceEq, Int.reduceToNat, Int.reduceAdd, Int.reduceSub, Int.reduceNeg], by simp +contextual only [vq, vc, ve, vv, vn, vl, ↓reduceIte, Nat.reduceEqDiff, Nat.reduceAdd, Nat.reduceMul, Nat.reduceSub, Nat.reduceLeDiff, Nat.reduceLT, Nat.reduceBEq, Nat.reduceBNe, reduceCtorEq, Int.reduceBEq, Int.reduceBNe, Int.reduceLT, Int.reduceLE, Int.reduceEq, Int.reduceToNat, Int.reduceAdd, Int.reduceSub, Int.reduceNeg], by simp +contextual only [vq, vc, ve, vv, vn, vl, ↓reduceIte, Nat.reduceEqDiff, Nat.reduceAdd, Nat.reduceMul, Nat.reduceSub, Nat.reduceLeDiff, Nat.reduceLT, Nat.reduceBEq, Nat.reduceBNe, reduceCtorEq, Int.reduceBEq, Int.reduceBNe, Int.reduceLT, Int.reduceLE, Int.reduceEq, Int.reduceToNat, Int.reduceAdd, Int.reduceSub, Int.reduceNeg], by simp +contextual only [vq, vc, ve, vv, vn, vl, ↓reduceIte, Nat.reduceEqDiff, Nat.reduceAdd, Nat.reduceMul, Nat.reduceSub, Nat.reduceLeDiff, Nat.reduceLT, Nat.reduceBEq, Nat.reduceBNe, reduceCtorEq, Int.reduceBEq, Int.reduceBNe, Int.reduceLT, Int.reduceLE, Int.reduceEq, Int.reduceToNat, Int.reduceAdd, Int.reduceSub, Int.reduceNeg], by simp +contextual only [vq, vc, ve, vv, vn, vl, ↓reduceIte, Nat.reduceEqDiff, Nat.reduceAdd, Nat.reduceMul, Nat.reduceSub, Nat.reduceLeDiff, Nat.reduceLT, Nat.reduceBEq, Nat.reduceBNe, reduceCtorEq, Int.reduceBEq, Int.reduceBNe, Int.reduceLT, Int.reduceLE, Int.reduceEq, Int.reduceToNat, Int.reduceAdd, Int.reduceSub, Int.reduceNeg], by simp +contextual only [vq, vc, ve, vv, vn, vl, ↓reduceIte, Nat.reduceEqDiff, Nat.reduceAdd, Nat.reduceMul, Nat.reduceSub, Nat.reduceLeDiff, Nat.reduceLT, Nat.reduceBEq, Nat.reduceBNe, reduceCtorEq, Int.reduceBEq, Int.reduceBNe, Int.reduceLT, Int.reduceLE, Int.reduceEq, Int.reduceToNat, Int.reduceAdd, Int.reduceSub, Int.reduceNeg]; rfl, by omega, by omega, rfl, by simpa [repE] using R1, hg.trans g1, by omega⟩ fun J hJ q st hI => ?_
  obtain ⟨i, done, cur, A, N, rfl, rfl, hi, hd, A0, A1, A2, A3, A9, A10, hcur, hcnt, hsp, RN, gN, lN⟩ := hI
  have hgl := gN.le
  by_cases hlt : i < K
  · have htl : tilB c cur < cur.length := by
      have := tilB_le c cur
      by_cases h : tilB c cur = cur.length
      · have := tilB_eq.1 h
        omega
      · omega
    have hf : findByte cur c = ((tilB c cur : Nat) : Int) := by
      rcases find_til cur c with ⟨_, h⟩ | ⟨h, _⟩
      · omega
      · exact h
    have hI := c_strings_Index1 N cur c
    rw [hf] at hI
    have q1 : (((tilB c cur : Nat) : Int) < 0) = False := eq_false (by omega)
    have q2 : IntKind.i64.wrap (((tilB c cur : Nat) : Int) + 0) = ((tilB c cur : Nat) : Int) := wrap_of (by omega) (by omega)
    have q3 : IntKind.i64.wrap (((tilB c cur : Nat) : Int)) = ((tilB c cur : Nat) : Int) := wrap_of (by omega) (by omega)
    have q4 : IntKind.i64.wrap (((tilB c cur : Nat) : Int) + ((1 : Nat) : Int)) = ((tilB c cur + 1 : Nat) : Int) := wrap_of (by omega) (by omega)
    have q5 : tilB c cur ≤ cur.length := by omega
    have q6 : tilB c cur + 1 ≤ cur.length := by omega
    have q7 : i < K + 1 := by omega
    obtain ⟨N1, p1, R2, t1, lw⟩ := put1_row (off := i) (v := .str (cur.take (tilB c cur))) RN (by simp; omega)
    simp +contextual only [vq, vc, ve, vv, vn, vl, ↓reduceIte, Nat.reduceEqDiff, Nat.reduceAdd, Nat.reduceMul, Nat.reduceSub, Nat.reduceLeDiff, Nat.reduceLT, Nat.reduceBEq, Nat.reduceBNe, reduceCtorEq, Int.reduceBEq, Int.reduceBNe, Int.reduceLT, Int.reduceLE, Int.reduceEq, Int.reduceToNat, Int.reduceAdd, Int.reduceSub, Int.reduceNeg, A0, A1, A2, A3, A9, A10, hlt, callR_val hI, q1, q2, q3, q4, q5, q6, q7, p1, wsucc hlt (by omega)]
    have hN1 : Grown m N1 := grown_but gN t1 (by omega)
    refine again2 hJ (K - (i + 1)) (by omega) ⟨i + 1, done ++ [cur.take (tilB c cur)], cur.drop (tilB c cur + 1), _, N1, rfl, rfl, by omega, by simp [hd], by simp +contextual only [vq, vc, ve, vv, vn, vl, ↓reduceIte, Nat.reduceEqDiff, Nat.reduceAdd, Nat.reduceMul, Nat.reduceSub, Nat.reduceLeDiff, Nat.reduceLT, Nat.reduceBEq, Nat.reduceBNe, reduceCtorEq, Int.reduceBEq, Int.reduceBNe, Int.reduceLT, Int.reduceLE, Int.reduceEq, Int.reduceToNat, Int.reduceAdd, Int.reduceSub, Int.reduceNeg], by simp +contextual only [vq, vc, ve, vv, vn, vl, ↓reduceIte, Nat.reduceEqDiff, Nat.reduceAdd, Nat.reduceMul, Nat.reduceSub, Nat.reduceLeDiff, Nat.reduceLT, Nat.reduceBEq, Nat.reduceBNe, reduceCtorEq, Int.reduceBEq, Int.reduceBNe, Int.reduceLT, Int.reduceLE, Int.reduceEq, Int.reduceToNat, Int.reduceAdd, Int.reduceSub, Int.reduceNeg, A1], by simp +contextual only [vq, vc, ve, vv, vn, vl, ↓reduceIte, Nat.reduceEqDiff, Nat.reduceAdd, Nat.reduceMul, Nat.reduceSub, Nat.reduceLeDiff, Nat.reduceLT, Nat.reduceBEq, Nat.reduceBNe, reduceCtorEq, Int.reduceBEq, Int.reduceBNe, Int.reduceLT, Int.reduceLE, Int.reduceEq, Int.reduceToNat, Int.reduceAdd, Int.reduceSub, Int.reduceNeg, A2], by simp +contextual only [vq, vc, ve, vv, vn, vl, ↓reduceIte, Nat.reduceEqDiff, Nat.reduceAdd, Nat.reduceMul, Nat.reduceSub, Nat.reduceLeDiff, Nat.reduceLT, Nat.reduceBEq, Nat.reduceBNe, reduceCtorEq, Int.reduceBEq, Int.reduceBNe, Int.reduceLT, Int.reduceLE, Int.reduceEq, Int.reduceToNat, Int.reduceAdd, Int.reduceSub, Int.reduceNeg, A3], by simp +contextual only [vq, vc, ve, vv, vn, vl, ↓reduceIte, Nat.reduceEqDiff, Nat.reduceAdd, Nat.reduceMul, Nat.reduceSub, Nat.reduceLeDiff, Nat.reduceLT, Nat.reduceBEq, Nat.reduceBNe, reduceCtorEq, Int.reduceBEq, Int.reduceBNe, Int.reduceLT, Int.reduceLE, Int.reduceEq, Int.reduceToNat, Int.reduceAdd, Int.reduceSub, Int.reduceNeg, A9], by simp +contextual only [vq, vc, ve, vv, vn, vl, ↓reduceIte, Nat.reduceEqDiff, Nat.reduceAdd, Nat.reduceMul, Nat.reduceSub, Nat.reduceLeDiff, Nat.reduceLT, Nat.reduceBEq, Nat.reduceBNe, reduceCtorEq, Int.reduceBEq, Int.reduceBNe, Int.reduceLT, Int.reduceLE, Int.reduceEq, Int.reduceToNat, Int.reduceAdd, Int.reduceSub, Int.reduceNeg], by simp; omega, ?_, ?_, ?_, hN1, by omega⟩
    · have := count_cut (c := c) (s := cur) htl
      omega
    · rw [← hsp, show K - i = (K - (i + 1)) + 1 by omega, splitB, List.append_assoc]
      rfl
    · have e2 : K + 1 - i = (K + 1 - (i + 1)) + 1 := by omega
      rw [e2, List.replicate_succ, List.set_append_right _ _ (by simp [hd]), List.length_map, hd, Nat.sub_self, List.set_cons_zero] at R2
      simpa using R2
  · have he : i = K := by omega
    subst he
    obtain ⟨N1, p1, R2, t1, lw⟩ := put1_row (off := i) (v := .str cur) RN (by simp; omega)
    have q7 : i < i + 1 := by omega
    have hN1 : Grown m N1 := grown_but gN t1 (by omega)
    have hw : IntKind.i64.wrap ((i : Int) + 1) = ((i + 1 : Nat) : Int) := wrap_of (by omega) (by omega)
    rw [show i + 1 - i = 0 + 1 by omega, List.replicate_succ, List.set_append_right _ _ (by simp [hd]), List.length_map, hd, Nat.sub_self, List.set_cons_zero] at R2
    have R3 : RowIs N1 M.bl.length ((splitB c i s).map .str) := by
      rw [← hsp, Nat.sub_self, splitB]
      simpa using R2
    simp +contextual only [vq, vc, ve, vv, vn, vl, ↓reduceIte, Nat.reduceEqDiff, Nat.reduceAdd, Nat.reduceMul, Nat.reduceSub, Nat.reduceLeDiff, Nat.reduceLT, Nat.reduceBEq, Nat.reduceBNe, reduceCtorEq, Int.reduceBEq, Int.reduceBNe, Int.reduceLT, Int.reduceLE, Int.reduceEq, Int.reduceToNat, Int.reduceAdd, Int.reduceSub, Int.reduceNeg, A0, A3, A9, A10, p1, q7, hw]
    refine postX_new (v := .slice (some ⟨.mem M.bl.length 0, 0⟩) (i + 1) (i + 1) 1) (by simp +contextual only [vq, vc, ve, vv, vn, vl, ↓reduceIte, Nat.reduceEqDiff, Nat.reduceAdd, Nat.reduceMul, Nat.reduceSub, Nat.reduceLeDiff, Nat.reduceLT, Nat.reduceBEq, Nat.reduceBNe, reduceCtorEq, Int.reduceBEq, Int.reduceBNe, Int.reduceLT, Int.reduceLE, Int.reduceEq, Int.reduceToNat, Int.reduceAdd, Int.reduceSub, Int.reduceNeg]) (by simp +contextual only [vq, vc, ve, vv, vn, vl, ↓reduceIte, Nat.reduceEqDiff, Nat.reduceAdd, Nat.reduceMul, Nat.reduceSub, Nat.reduceLeDiff, Nat.reduceLT, Nat.reduceBEq, Nat.reduceBNe, reduceCtorEq, Int.reduceBEq, Int.reduceBNe, Int.reduceLT, Int.reduceLE, Int.reduceEq, Int.reduceToNat, Int.reduceAdd, Int.reduceSub, Int.reduceNeg, hlen]) ⟨M.bl.length, _, rfl, ?_, ?_, by omega, ?_⟩
    · exact hN1
    · simp only; omega
    · exact R3
theorem c_strings_Split1 (m : Mem) (s : List UInt8) (c : UInt8) (hs : s.length ≤ 1000000000) : ∃ r, Go.Ev.Comes T G f_strings_Split [.str s, .str [c]] m none r ∧
    ∃ v m', r = ⟨.val v, m', none⟩ ∧ Grown m m' ∧ min m.low m.bl.length ≤ m'.low ∧ StrL m' v (splitB c (s.count c) s) := by
  refine comes2P T_strings_Split rfl fun M hg hlen hlow => ?_
  obtain ⟨_, hc, b, M1, rfl, g1, l1, hb, R1⟩ := c_strings_genSplit1 M s c hs
  simp only [F_strings_Split]
  simp +contextual only [vq, vc, ve, vv, vn, vl, ↓reduceIte, Nat.reduceEqDiff, Nat.reduceAdd, Nat.reduceMul, Nat.reduceSub, Nat.reduceLeDiff, Nat.reduceLT, Nat.reduceBEq, Nat.reduceBNe, reduceCtorEq, Int.reduceBEq, Int.reduceBNe, Int.reduceLT, Int.reduceLE, Int.reduceEq, Int.reduceToNat, Int.reduceAdd, Int.reduceSub, Int.reduceNeg, callR_val hc]
  have hbl := R1.lt
  have n1 : ¬ b < m.bl.length := by omega
  refine postX_new (v := .slice (some ⟨.mem b 0, 0⟩) (s.count c + 1) (s.count c + 1) 1) (by simp +contextual only [vq, vc, ve, vv, vn, vl, ↓reduceIte, Nat.reduceEqDiff, Nat.reduceAdd, Nat.reduceMul, Nat.reduceSub, Nat.reduceLeDiff, Nat.reduceLT, Nat.reduceBEq, Nat.reduceBNe, reduceCtorEq, Int.reduceBEq, Int.reduceBNe, Int.reduceLT, Int.reduceLE, Int.reduceEq, Int.reduceToNat, Int.reduceAdd, Int.reduceSub, Int.reduceNeg]) (by simp +contextual only [vq, vc, ve, vv, vn, vl, ↓reduceIte, Nat.reduceEqDiff, Nat.reduceAdd, Nat.reduceMul, Nat.reduceSub, Nat.reduceLeDiff, Nat.reduceLT, Nat.reduceBEq, Nat.reduceBNe, reduceCtorEq, Int.reduceBEq, Int.reduceBNe, Int.reduceLT, Int.reduceLE, Int.reduceEq, Int.reduceToNat, Int.reduceAdd, Int.reduceSub, Int.reduceNeg, n1]) ⟨_, _, rfl, hg.trans g1, by simp only; omega, ?_⟩
  have := RowsAt.of_block (G := G) (m := M1) (b := b) (esz := 1) (n := s.count c + 1) (rw := true) (rows := (splitB c (s.count c) s).map fun r => [EV.str r]) (by simp [splitB_len]) hbl (.inr (by rw [← strs_flat]; exact R1)) (by simp)
  exact this
theorem c_strings_Contains1 (m : Mem) (s : List UInt8) (c : UInt8) : Go.Ev.Comes T G f_strings_Contains [.str s, .str [c]] m none ⟨.val (.bool (s.contains c)), m, none⟩ := by
  refine comes2 T_strings_Contains rfl fun M hg hlen hlow => ?_
  have hl : m.bl.length ≤ M.low := by omega
  have e : decide (0 ≤ findByte s c) = s.contains c := by
    by_cases h : findByte s c < 0
    · have := findByte_neg h
      rw [decide_eq_false (by omega)]
      symm
      rw [List.contains_eq_any_beq, List.any_eq_false]
      intro b hb hq
      have := this b hb
      simp at hq
      exact this hq.symm
    · obtain ⟨k, h1, h2, h3, _⟩ := findByte_pos h
      rw [decide_eq_true (by omega)]
      symm
      rw [List.contains_iff_mem]
      exact List.mem_of_getElem? h3
  simp only [F_strings_Contains]
  simp +contextual only [vq, vc, ve, vv, vn, vl, ↓reduceIte, Nat.reduceEqDiff, Nat.reduceAdd, Nat.reduceMul, Nat.reduceSub, Nat.reduceLeDiff, Nat.reduceLT, Nat.reduceBEq, Nat.reduceBNe, reduceCtorEq, Int.reduceBEq, Int.reduceBNe, Int.reduceLT, Int.reduceLE, Int.reduceEq, Int.reduceToNat, Int.reduceAdd, Int.reduceSub, Int.reduceNeg, callR_val (c_strings_Index1 M s c), hl, e]
end Go.Proofs.YtmjoaiccbghijaaDoor.paramRcpts

namespace Go.Proofs.YtmjoaiccbghijaaDoor.paramRcpts
open Go.Ev hiding Comes
variable [GG]

def noteEs : List Ent := [⟨.str wSUCCESS, .int .i64 2, 0⟩, ⟨.str wFAILURE, .int .i64 4, 1⟩, ⟨.str wDELAY, .int .i64 8, 2⟩]
theorem ms_new {m : Mem} {b ck : Nat} {es : List Ent} {q : List Nat} {k x : EV} (h : m.bl[b]? = some (.map es ck)) (hl : lookE q k es = some none) (hx : single x = true) : ∃ m', msE m q (.map (some b)) k x = some (undefE, m') ∧ m'.bl[b]? = some (.map (es ++ [⟨k, x, ck⟩]) (ck + 1)) ∧ But1 b m m' ∧ m'.low = min m.low b := by
  have hb := (List.getElem?_eq_some_iff.1 h).1
  refine ⟨⟨m.bl.set b (.map (es ++ [⟨k, x, ck⟩]) (ck + 1)), min m.low b⟩, ?_, ?_, ⟨by simp, fun j hj => ?_⟩, rfl⟩
  · simp only [msE, h, hx, if_true, hl, Option.map_some, entPut]
  · simp [hb]
  · simp only
    rw [List.getElem?_set_ne (by omega)]
theorem c_param_notes (m : Mem) : ∃ r, Go.Ev.Comes T G f_param_notes [] m none r ∧ ∃ b m', r = ⟨.val (.map (some b)), m', none⟩ ∧ Grown m m' ∧ min m.low m.bl.length ≤ m'.low ∧ m.bl.length ≤ b ∧ m'.bl[b]? = some (.map noteEs 3) := by
  refine comes2P T_param_notes rfl fun M hg hlen hlow => ?_
  have hl0 : m.bl.length ≤ M.low := by omega
  simp only [F_param_notes]
  simp +contextual only [vq, vc, ve, vv, vn, vl, ↓reduceIte, Nat.reduceEqDiff, Nat.reduceAdd, Nat.reduceMul, Nat.reduceSub, Nat.reduceLeDiff, Nat.reduceLT, Nat.reduceBEq, Nat.reduceBNe, reduceCtorEq, Int.reduceBEq, Int.reduceBNe, Int.reduceLT, Int.reduceLE, Int.reduceEq, Int.reduceToNat, Int.reduceAdd, Int.reduceSub, Int.reduceNeg]
  refine new_mk fun M1 e1 => ?_
  have b1 : M1.bl[M.bl.length]? = some (.map [] 0) := by rw [e1]; simp [Mem.push]
  have g1 : Grown m M1 := hg.trans (by rw [e1]; exact Grown.rfl'.push)
  have l1 : M1.low = M.low := by rw [e1]; rfl
  obtain ⟨M2, p2, b2, t2, w2⟩ := ms_new (q := [13]) (k := .str [83, 85, 67, 67, 69, 83, 83]) (x := .int .i64 2) b1 rfl rfl
  obtain ⟨M3, p3, b3, t3, w3⟩ := ms_new (q := [13]) (k := .str [70, 65, 73, 76, 85, 82, 69]) (x := .int .i64 4) b2 rfl rfl
  obtain ⟨M4, p4, b4, t4, w4⟩ := ms_new (q := [13]) (k := .str [68, 69, 76, 65, 89]) (x := .int .i64 8) b3 rfl rfl
  have g4 : Grown m M4 := grown_but (grown_but (grown_but g1 t2 (by omega)) t3 (by omega)) t4 (by omega)
  simp +contextual only [vq, vc, ve, vv, vn, vl, ↓reduceIte, Nat.reduceEqDiff, Nat.reduceAdd, Nat.reduceMul, Nat.reduceSub, Nat.reduceLeDiff, Nat.reduceLT, Nat.reduceBEq, Nat.reduceBNe, reduceCtorEq, Int.reduceBEq, Int.reduceBNe, Int.reduceLT, Int.reduceLE, Int.reduceEq, Int.reduceToNat, Int.reduceAdd, Int.reduceSub, Int.reduceNeg, p2, p3, p4]
  refine postX_new (v := .map (some M.bl.length)) (by simp +contextual only [vq, vc, ve, vv, vn, vl, ↓reduceIte, Nat.reduceEqDiff, Nat.reduceAdd, Nat.reduceMul, Nat.reduceSub, Nat.reduceLeDiff, Nat.reduceLT, Nat.reduceBEq, Nat.reduceBNe, reduceCtorEq, Int.reduceBEq, Int.reduceBNe, Int.reduceLT, Int.reduceLE, Int.reduceEq, Int.reduceToNat, Int.reduceAdd, Int.reduceSub, Int.reduceNeg]) (by simp [noref, hlen]) ⟨M.bl.length, _, rfl, g4, by simp only; omega, by omega, b4⟩
theorem bit_look (w : List UInt8) : (lookE [13] (.str (upS w)) noteEs).map (lookR (.int .i64 0) false) = some (.int .i64 (bitOf w)) := by
  have hb : ∀ a b : List UInt8, (a == b) = decide (a = b) := fun a b => by rw [Bool.eq_iff_iff, beq_iff_eq, decide_eq_true_eq]
  unfold bitOf noteEs
  simp only [lookE, keyEqE, eqCell, findE, hb, decide_true, Nat.reduceLT, if_true, Nat.reduceSub]
  by_cases h1 : upS w = wSUCCESS
  · simp [h1, lookR]
  · by_cases h2 : upS w = wFAILURE
    · simp [h1, h2, lookR, wSUCCESS, wFAILURE]
    · by_cases h3 : upS w = wDELAY
      · simp [h1, h2, h3, lookR, wSUCCESS, wFAILURE, wDELAY]
      · simp [h1, h2, h3, lookR]
theorem note_look {m : Mem} {b ck : Nat} (h : m.bl[b]? = some (.map noteEs ck)) (w : List UInt8) : lkE m [13] (.int .i64 0) false (.map (some b)) (.str (upS w)) = some (.int .i64 (bitOf w : Nat), m) := by
  have := bit_look w
  obtain ⟨f, h1, h2⟩ := Option.map_eq_some_iff.1 this
  simp only [lkE, h, h1, Option.map_some, h2]
theorem split_le (c : UInt8) : ∀ (k : Nat) (s : List UInt8), ∀ x ∈ splitB c k s, x.length ≤ s.length
  | 0, s, x, h => by simp [splitB] at h; simp [h]
  | k + 1, s, x, h => by
    rw [splitB] at h
    rcases List.mem_cons.1 h with rfl | h
    · simp
      omega
    · have := split_le c k _ x h
      simp at this
      omega
theorem c_param_notify (m : Mem) (s : List UInt8) (hs : s.length ≤ 1000000000) : Go.Ev.Comes T G f_param_notify [.str s] m none ⟨.val (.int .i64 (notifyS s : Nat)), m, none⟩ := by
  refine comes2 T_param_notify rfl fun M hg hlen hlow => ?_
  have hl0 : m.bl.length ≤ M.low := by omega
  have hS := c_octet_Same M s wNEVER (by omega)
  unfold wNEVER at hS
  simp only [F_param_notify]
  cases hne : sameU s [78, 69, 86, 69, 82] with
  | true =>
    have e : notifyS s = 1 := if_pos hne
    rw [hne] at hS
    simp +contextual only [vq, vc, ve, vv, vn, vl, ↓reduceIte, Nat.reduceEqDiff, Nat.reduceAdd, Nat.reduceMul, Nat.reduceSub, Nat.reduceLeDiff, Nat.reduceLT, Nat.reduceBEq, Nat.reduceBNe, reduceCtorEq, Int.reduceBEq, Int.reduceBNe, Int.reduceLT, Int.reduceLE, Int.reduceEq, Int.reduceToNat, Int.reduceAdd, Int.reduceSub, Int.reduceNeg, callR_val hS, e, hl0]
    rfl
  | false =>
    have e : notifyS s = noteGo (splitB 44 (s.count 44) s) 0 := if_neg (by unfold wNEVER; simp [hne])
    rw [hne] at hS
    rw [e]
    obtain ⟨_, hc, v, M1, rfl, g1, l1, hv⟩ := c_strings_Split1 M s 44 hs
    have hc : Go.Ev.Comes T G f_strings_Split [.str s, .str [44]] M none ⟨.val v, M1, none⟩ := hc
    generalize hL : splitB 44 (s.count 44) s = L at hv
    have hlen2 : ∀ x ∈ L, x.length ≤ 1000000000 := fun x hx => by
      rw [← hL] at hx
      have := split_le 44 _ s x hx
      omega
    have hLl : L.length ≤ 1000000001 := by
      rw [← hL, splitB_len]
      have := List.count_le_length (a := 44) (l := s)
      omega
    obtain ⟨a0, c0, e0, sv⟩ := hv.slice
    have lv : lnbE v = some (.int .i64 L.length) := by rw [sv]; rfl
    simp +contextual only [vq, vc, ve, vv, vn, vl, ↓reduceIte, Nat.reduceEqDiff, Nat.reduceAdd, Nat.reduceMul, Nat.reduceSub, Nat.reduceLeDiff, Nat.reduceLT, Nat.reduceBEq, Nat.reduceBNe, reduceCtorEq, Int.reduceBEq, Int.reduceBNe, Int.reduceLT, Int.reduceLE, Int.reduceEq, Int.reduceToNat, Int.reduceAdd, Int.reduceSub, Int.reduceNeg, callR_val hS, callR_val hc, lv]
    refine loop2 (fun q st => ∃ (i sum : Nat) (A : Fr) (N : Mem), st = ⟨A, N, [], none⟩ ∧ q = L.length - i ∧ i ≤ L.length ∧ A 3 = .int .i64 (sum : Nat) ∧ A 10 = v ∧ A 11 = .int .i64 L.length ∧ A 12 = .int .i64 (i : Nat) ∧ sum < 16 ∧ noteGo (L.drop i) sum = noteGo L 0 ∧ Grown M1 N ∧ m.bl.length ≤ N.low) L.length
      ⟨0, 0, _, M1, rfl, by omega, by omega, by simp +contextual only [vq, vc, ve, vv, vn, vl, ↓reduceIte, Nat.reduceEqDiff, Nat.reduceAdd, Nat.reduceMul, Nat.reduceSub, Nat.reduceLeDiff, Nat.reduceLT, Nat.reduceBEq, Nat.reduceBNe, reduceCtorEq, Int.reduceBEq, Int.reduceBNe, Int.reduceLT, Int.reduceLE, Int.reduceEq, Int.reduceToNat, Int.reduceAdd, Int.reduceSub, Int.reduceNeg]; rfl, by simp +contextual only [vq, vc, ve, vv, vn, vl, ↓reduceIte, Nat.reduceEqDiff, Nat.reduceAdd, Nat.reduceMul, Nat.reduceSub, Nat.reduceLeDiff, Nat.reduceLT, Nat.reduceBEq, Nat.reduceBNe, reduceCtorEq, Int.reduceBEq, Int.reduceBNe, Int.reduceLT, Int.reduceLE, Int.reduceEq, Int.reduceToNat, Int.reduceAdd, Int.reduceSub, Int.reduceNeg], by simp +contextual only [vq, vc, ve, vv, vn, vl, ↓reduceIte, Nat.reduceEqDiff, Nat.reduceAdd, Nat.reduceMul, Nat.reduceSub, Nat.reduceLeDiff, Nat.reduceLT, Nat.reduceBEq, Nat.reduceBNe, reduceCtorEq, Int.reduceBEq, Int.reduceBNe, Int.reduceLT, Int.reduceLE, Int.reduceEq, Int.reduceToNat, Int.reduceAdd, Int.reduceSub, Int.reduceNeg], by simp +contextual only [vq, vc, ve, vv, vn, vl, ↓reduceIte, Nat.reduceEqDiff, Nat.reduceAdd, Nat.reduceMul, Nat.reduceSub, Nat.reduceLeDiff, Nat.reduceLT, Nat.reduceBEq, Nat.reduceBNe, reduceCtorEq, Int.reduceBEq, Int.reduceBNe, Int.reduceLT, Int.reduceLE, Int.reduceEq, Int.reduceToNat, Int.reduceAdd, Int.reduceSub, Int.reduceNeg]; rfl, by omega, by simp, Grown.rfl', by omega⟩ fun J hJ q st hI => ?_
    obtain ⟨i, sum, A, N, rfl, rfl, hi, A3, A10, A11, A12, hsum, hgo, gN, lN⟩ := hI
    by_cases hlt : i < L.length
    · obtain ⟨a, c, ea, hcap, hget, ho⟩ := (hv.grown gN).at hlt
      rw [ea] at A10
      obtain ⟨_, hn, b, N1, rfl, g2, l2, hb, hm⟩ := c_param_notes N
      have hU := c_octet_Upper N1 L[i] (by have := hlen2 _ (List.getElem_mem hlt); omega)
      have hle := gN.le
      have hle1 := g1.le
      have hleg := hg.le
      have hlo : m.bl.length ≤ N1.low := by omega
      have hdrop : L.drop i = L[i] :: L.drop (i + 1) := List.drop_eq_getElem_cons hlt
      have hgo2 := hgo
      rw [hdrop, noteGo] at hgo2
      by_cases h0 : bitOf L[i] = 0
      · have z0 : (((bitOf L[i] : Nat) : Int) == 0) = true := beq_iff_eq.2 (by omega)
        rw [if_pos (.inl h0)] at hgo2
        simp +contextual only [vq, vc, ve, vv, vn, vl, ↓reduceIte, Nat.reduceEqDiff, Nat.reduceAdd, Nat.reduceMul, Nat.reduceSub, Nat.reduceLeDiff, Nat.reduceLT, Nat.reduceBEq, Nat.reduceBNe, reduceCtorEq, Int.reduceBEq, Int.reduceBNe, Int.reduceLT, Int.reduceLE, Int.reduceEq, Int.reduceToNat, Int.reduceAdd, Int.reduceSub, Int.reduceNeg, A3, A10, A11, A12, hlt, hget, ho, callR_val hn, callR_val hU, note_look hm, z0, hlo]
        rw [← hgo2]
        rfl
      · have z0 : (((bitOf L[i] : Nat) : Int) == 0) = false := beq_eq_false_iff_ne.2 (by omega)
        have hbit : bitOf L[i] = 2 ∨ bitOf L[i] = 4 ∨ bitOf L[i] = 8 := by
          rcases bit_is L[i] with h | h
          · exact absurd h h0
          · exact h
        have hand := bits_and sum (bitOf L[i]) hsum hbit
        by_cases hq : sum / bitOf L[i] % 2 = 1
        · rw [if_pos (.inr hq)] at hgo2
          rw [decide_eq_true hq] at hand
          simp +contextual only [vq, vc, ve, vv, vn, vl, ↓reduceIte, Nat.reduceEqDiff, Nat.reduceAdd, Nat.reduceMul, Nat.reduceSub, Nat.reduceLeDiff, Nat.reduceLT, Nat.reduceBEq, Nat.reduceBNe, reduceCtorEq, Int.reduceBEq, Int.reduceBNe, Int.reduceLT, Int.reduceLE, Int.reduceEq, Int.reduceToNat, Int.reduceAdd, Int.reduceSub, Int.reduceNeg, A3, A10, A11, A12, hlt, hget, ho, callR_val hn, callR_val hU, note_look hm, z0, hand, hlo]
          rw [← hgo2]
          rfl
        · rw [if_neg (by simp [h0, hq])] at hgo2
          rw [decide_eq_false hq] at hand
          obtain ⟨hor, hsum2⟩ := bits_or sum (bitOf L[i]) hsum hbit hq
          simp +contextual only [vq, vc, ve, vv, vn, vl, ↓reduceIte, Nat.reduceEqDiff, Nat.reduceAdd, Nat.reduceMul, Nat.reduceSub, Nat.reduceLeDiff, Nat.reduceLT, Nat.reduceBEq, Nat.reduceBNe, reduceCtorEq, Int.reduceBEq, Int.reduceBNe, Int.reduceLT, Int.reduceLE, Int.reduceEq, Int.reduceToNat, Int.reduceAdd, Int.reduceSub, Int.reduceNeg, A3, A10, A11, A12, hlt, hget, ho, callR_val hn, callR_val hU, note_look hm, z0, hand, hor, wsucc hlt (by omega)]
          exact again2 hJ (L.length - (i + 1)) (by omega) ⟨i + 1, sum + bitOf L[i], _, N1, rfl, rfl, by omega, by simp +contextual only [vq, vc, ve, vv, vn, vl, ↓reduceIte, Nat.reduceEqDiff, Nat.reduceAdd, Nat.reduceMul, Nat.reduceSub, Nat.reduceLeDiff, Nat.reduceLT, Nat.reduceBEq, Nat.reduceBNe, reduceCtorEq, Int.reduceBEq, Int.reduceBNe, Int.reduceLT, Int.reduceLE, Int.reduceEq, Int.reduceToNat, Int.reduceAdd, Int.reduceSub, Int.reduceNeg], by simp +contextual only [vq, vc, ve, vv, vn, vl, ↓reduceIte, Nat.reduceEqDiff, Nat.reduceAdd, Nat.reduceMul, Nat.reduceSub, Nat.reduceLeDiff, Nat.reduceLT, Nat.reduceBEq, Nat.reduceBNe, reduceCtorEq, Int.reduceBEq, Int.reduceBNe, Int.reduceLT, Int.reduceLE, Int.reduceEq, Int.reduceToNat, Int.reduceAdd, Int.reduceSub, Int.reduceNeg, A10, ea], by simp +contextual only [vq, vc, ve, vv, vn, vl, ↓reduceIte, Nat.reduceEqDiff, Nat.reduceAdd, Nat.reduceMul, Nat.reduceSub, Nat.reduceLeDiff, Nat.reduceLT, Nat.reduceBEq, Nat.reduceBNe, reduceCtorEq, Int.reduceBEq, Int.reduceBNe, Int.reduceLT, Int.reduceLE, Int.reduceEq, Int.reduceToNat, Int.reduceAdd, Int.reduceSub, Int.reduceNeg, A11], by simp +contextual only [vq, vc, ve, vv, vn, vl, ↓reduceIte, Nat.reduceEqDiff, Nat.reduceAdd, Nat.reduceMul, Nat.reduceSub, Nat.reduceLeDiff, Nat.reduceLT, Nat.reduceBEq, Nat.reduceBNe, reduceCtorEq, Int.reduceBEq, Int.reduceBNe, Int.reduceLT, Int.reduceLE, Int.reduceEq, Int.reduceToNat, Int.reduceAdd, Int.reduceSub, Int.reduceNeg], hsum2, hgo2, gN.trans g2, by omega⟩
    · have he : i = L.length := by omega
      subst he
      rw [List.drop_length, noteGo] at hgo
      simp +contextual only [vq, vc, ve, vv, vn, vl, ↓reduceIte, Nat.reduceEqDiff, Nat.reduceAdd, Nat.reduceMul, Nat.reduceSub, Nat.reduceLeDiff, Nat.reduceLT, Nat.reduceBEq, Nat.reduceBNe, reduceCtorEq, Int.reduceBEq, Int.reduceBNe, Int.reduceLT, Int.reduceLE, Int.reduceEq, Int.reduceToNat, Int.reduceAdd, Int.reduceSub, Int.reduceNeg, A3, A11, A12, hlt, lN]
      rw [hgo]
end Go.Proofs.YtmjoaiccbghijaaDoor.paramRcpts

namespace Go.Proofs.YtmjoaiccbghijaaDoor.paramRcpts
open Go.Ev hiding Comes
variable [GG]

theorem flat_get {esz : Nat} : ∀ {cs : List (List EV)} {i : Nat} {r : List EV}, (∀ c ∈ cs, c.length = esz) → cs[i]? = some r → Sub cs.flatten (i * esz) esz r
  | [], _, _, _, h => by simp at h
  | c :: cs, 0, r, hl, h => by
    simp at h
    subst h
    have := hl c (List.mem_cons_self ..)
    rw [Nat.zero_mul]
    exact sub_here this
  | c :: cs, i + 1, r, hl, h => by
    have h1 := hl c (List.mem_cons_self ..)
    have := flat_get (cs := cs) (fun c hc => hl c (List.mem_cons_of_mem _ hc)) (by simpa using h)
    rw [Nat.succ_mul, Nat.add_comm]
    exact sub_skip h1 this

theorem tab_get {N : Mem} {i : Nat} (hi : i < 35) : N.getN G ⟨.glob g_octet_stretches, i * 3⟩ 3 = some (tabCells (tab[i]'hi)) := by
  have h : Sub tabRow (i * 3) 3 (tabCells (tab[i]'hi)) := flat_get (by
    intro c hc
    obtain ⟨x, _, rfl⟩ := List.mem_map.1 hc
    rfl) (by rw [List.getElem?_map, List.getElem?_eq_getElem (show i < tab.length from hi)]; rfl)
  obtain ⟨h1, h2⟩ := h
  unfold Mem.getN
  rw [if_neg (by omega)]
  have hr : N.row G (.glob g_octet_stretches) = some tabRow := g_tab
  simp only [hr, Option.bind_some, if_pos h1, h2]

theorem octet_Is_of (m : Mem) (c : Int) (b : Nat) (h3 : (c == 5 || c == 10) = true → ∀ m, Go.Ev.Comes T G f_octet_Is [.int .i64 3, .int .u8 (b : Nat)] m none ⟨.val (.bool (isT 3 b)), m, none⟩) :
    Go.Ev.Comes T G f_octet_Is [.int .i64 c, .int .u8 (b : Nat)] m none ⟨.val (.bool (isF c b)), m, none⟩ := by
  refine comes2 T_octet_Is rfl fun M hg hlen hlow => ?_
  simp only [F_octet_Is]
  simp +contextual only [vq, vc, ve, vv, vn, vl, ↓reduceIte, Nat.reduceEqDiff, Nat.reduceAdd, Nat.reduceMul, Nat.reduceSub, Nat.reduceLeDiff, Nat.reduceLT, Nat.reduceBEq, Nat.reduceBNe, reduceCtorEq, Int.reduceBEq, Int.reduceBNe, Int.reduceLT, Int.reduceLE, Int.reduceEq, Int.reduceToNat, Int.reduceAdd, Int.reduceSub, Int.reduceNeg]
  refine loop2 (fun n st => ∃ i A N, st = ⟨A, N, [], none⟩ ∧ Grown M N ∧ m.bl.length ≤ N.low ∧ n = 35 - i ∧ i ≤ 35 ∧ A 0 = .int .i64 c ∧ A 1 = .int .u8 (b : Nat) ∧ A 7 = .int .i64 (i : Nat) ∧ (tab.take i).any (hit c b) = false) 35 ⟨0, _, _, rfl, Grown.rfl', by omega, by omega, by omega, by simp +contextual only [vq, vc, ve, vv, vn, vl, ↓reduceIte, Nat.reduceEqDiff, Nat.reduceAdd, Nat.reduceMul, Nat.reduceSub, Nat.reduceLeDiff, Nat.reduceLT, Nat.reduceBEq, Nat.reduceBNe, reduceCtorEq, Int.reduceBEq, Int.reduceBNe, Int.reduceLT, Int.reduceLE, Int.reduceEq, Int.reduceToNat, Int.reduceAdd, Int.reduceSub, Int.reduceNeg], by simp +contextual only [vq, vc, ve, vv, vn, vl, ↓reduceIte, Nat.reduceEqDiff, Nat.reduceAdd, Nat.reduceMul, Nat.reduceSub, Nat.reduceLeDiff, Nat.reduceLT, Nat.reduceBEq, Nat.reduceBNe, reduceCtorEq, Int.reduceBEq, Int.reduceBNe, Int.reduceLT, Int.reduceLE, Int.reduceEq, Int.reduceToNat, Int.reduceAdd, Int.reduceSub, Int.reduceNeg], by simp +contextual only [vq, vc, ve, vv, vn, vl, ↓reduceIte, Nat.reduceEqDiff, Nat.reduceAdd, Nat.reduceMul, Nat.reduceSub, Nat.reduceLeDiff, Nat.reduceLT, Nat.reduceBEq, Nat.reduceBNe, reduceCtorEq, Int.reduceBEq, Int.reduceBNe, Int.reduceLT, Int.reduceLE, Int.reduceEq, Int.reduceToNat, Int.reduceAdd, Int.reduceSub, Int.reduceNeg]; rfl, rfl⟩ fun J hJ n st hI => ?_
  obtain ⟨i, A, N, rfl, gN, lN, rfl, hi, A0, A1, A7, hno⟩ := hI
  have e35 : ((i : Int) < 35) = (i < 35) := propext ⟨fun h => by omega, fun h => by omega⟩
  simp +contextual only [vq, vc, ve, vv, vn, vl, ↓reduceIte, Nat.reduceEqDiff, Nat.reduceAdd, Nat.reduceMul, Nat.reduceSub, Nat.reduceLeDiff, Nat.reduceLT, Nat.reduceBEq, Nat.reduceBNe, reduceCtorEq, Int.reduceBEq, Int.reduceBNe, Int.reduceLT, Int.reduceLE, Int.reduceEq, Int.reduceToNat, Int.reduceAdd, Int.reduceSub, Int.reduceNeg, A7, e35]
  refine br2_dec (fun hlt => ?_) (fun hge => ?_)
  · have e35' : ((i : Int) < ((35 : Nat) : Int)) = True := eq_true (by omega)
    simp +contextual only [vq, vc, ve, vv, vn, vl, ↓reduceIte, Nat.reduceEqDiff, Nat.reduceAdd, Nat.reduceMul, Nat.reduceSub, Nat.reduceLeDiff, Nat.reduceLT, Nat.reduceBEq, Nat.reduceBNe, reduceCtorEq, Int.reduceBEq, Int.reduceBNe, Int.reduceLT, Int.reduceLE, Int.reduceEq, Int.reduceToNat, Int.reduceAdd, Int.reduceSub, Int.reduceNeg, A7, e35', tab_get hlt, tabCells]
    refine new_mk fun N1 e1 => ?_
    obtain ⟨N2, p2, g2, R2, l2, w2⟩ := put_new e1 (cs := tabCells (tab[i]'hlt)) rfl
    simp only [tabCells] at p2 R2
    simp +contextual only [vq, vc, ve, vv, vn, vl, ↓reduceIte, Nat.reduceEqDiff, Nat.reduceAdd, Nat.reduceMul, Nat.reduceSub, Nat.reduceLeDiff, Nat.reduceLT, Nat.reduceBEq, Nat.reduceBNe, reduceCtorEq, Int.reduceBEq, Int.reduceBNe, Int.reduceLT, Int.reduceLE, Int.reduceEq, Int.reduceToNat, Int.reduceAdd, Int.reduceSub, Int.reduceNeg, p2, R2.get (G := G), A0, A1]
    have hh : ((tab[i]'hlt).1 == c && decide ((tab[i]'hlt).2.1 ≤ b) && decide (b ≤ (tab[i]'hlt).2.2)) = hit c b (tab[i]'hlt) := by simp only [hit, Bool.and_assoc]
    have hlo : m.bl.length ≤ N2.low := by have := gN.le; omega
    have ht : (tab.take (i + 1)).any (hit c b) = hit c b (tab[i]'hlt) := by rw [List.take_succ_eq_append_getElem hlt, List.any_append, hno]; simp
    rw [hh]
    refine br2_mk (fun hk => ?_) (fun hk => ?_)
    · have ha : isF c b = true := by
        have : isT c b = true := List.any_eq_true.2 ⟨_, List.getElem_mem hlt, hk⟩
        simp [isF, this]
      simp +contextual only [vq, vc, ve, vv, vn, vl, ↓reduceIte, Nat.reduceEqDiff, Nat.reduceAdd, Nat.reduceMul, Nat.reduceSub, Nat.reduceLeDiff, Nat.reduceLT, Nat.reduceBEq, Nat.reduceBNe, reduceCtorEq, Int.reduceBEq, Int.reduceBNe, Int.reduceLT, Int.reduceLE, Int.reduceEq, Int.reduceToNat, Int.reduceAdd, Int.reduceSub, Int.reduceNeg, ha, hlo]
    · simp +contextual only [vq, vc, ve, vv, vn, vl, ↓reduceIte, Nat.reduceEqDiff, Nat.reduceAdd, Nat.reduceMul, Nat.reduceSub, Nat.reduceLeDiff, Nat.reduceLT, Nat.reduceBEq, Nat.reduceBNe, reduceCtorEq, Int.reduceBEq, Int.reduceBNe, Int.reduceLT, Int.reduceLE, Int.reduceEq, Int.reduceToNat, Int.reduceAdd, Int.reduceSub, Int.reduceNeg, A7, wsucc hlt (by omega)]
      exact again2 hJ (35 - (i + 1)) (by omega) ⟨i + 1, _, _, rfl, gN.trans g2, hlo, rfl, by omega, by simp +contextual only [vq, vc, ve, vv, vn, vl, ↓reduceIte, Nat.reduceEqDiff, Nat.reduceAdd, Nat.reduceMul, Nat.reduceSub, Nat.reduceLeDiff, Nat.reduceLT, Nat.reduceBEq, Nat.reduceBNe, reduceCtorEq, Int.reduceBEq, Int.reduceBNe, Int.reduceLT, Int.reduceLE, Int.reduceEq, Int.reduceToNat, Int.reduceAdd, Int.reduceSub, Int.reduceNeg, A0], by simp +contextual only [vq, vc, ve, vv, vn, vl, ↓reduceIte, Nat.reduceEqDiff, Nat.reduceAdd, Nat.reduceMul, Nat.reduceSub, Nat.reduceLeDiff, Nat.reduceLT, Nat.reduceBEq, Nat.reduceBNe, reduceCtorEq, Int.reduceBEq, Int.reduceBNe, Int.reduceLT, Int.reduceLE, Int.reduceEq, Int.reduceToNat, Int.reduceAdd, Int.reduceSub, Int.reduceNeg, A1], by simp +contextual only [vq, vc, ve, vv, vn, vl, ↓reduceIte, Nat.reduceEqDiff, Nat.reduceAdd, Nat.reduceMul, Nat.reduceSub, Nat.reduceLeDiff, Nat.reduceLT, Nat.reduceBEq, Nat.reduceBNe, reduceCtorEq, Int.reduceBEq, Int.reduceBNe, Int.reduceLT, Int.reduceLE, Int.reduceEq, Int.reduceToNat, Int.reduceAdd, Int.reduceSub, Int.reduceNeg], by rw [ht, hk]⟩
  · have hie : i = 35 := by omega
    subst hie
    have hno' : isT c b = false := by rw [← hno]; rfl
    have hc : isF c b = ((c == 5 || c == 10) && isT 3 b) := by simp [isF, hno']
    cases hq : (c == 5 || c == 10) with
    | true =>
      rw [hq] at hc
      simp +contextual only [vq, vc, ve, vv, vn, vl, ↓reduceIte, Nat.reduceEqDiff, Nat.reduceAdd, Nat.reduceMul, Nat.reduceSub, Nat.reduceLeDiff, Nat.reduceLT, Nat.reduceBEq, Nat.reduceBNe, reduceCtorEq, Int.reduceBEq, Int.reduceBNe, Int.reduceLT, Int.reduceLE, Int.reduceEq, Int.reduceToNat, Int.reduceAdd, Int.reduceSub, Int.reduceNeg, A0, A1, hq, callR_val (h3 hq _), lN, hc]
    | false =>
      rw [hq] at hc
      simp +contextual only [vq, vc, ve, vv, vn, vl, ↓reduceIte, Nat.reduceEqDiff, Nat.reduceAdd, Nat.reduceMul, Nat.reduceSub, Nat.reduceLeDiff, Nat.reduceLT, Nat.reduceBEq, Nat.reduceBNe, reduceCtorEq, Int.reduceBEq, Int.reduceBNe, Int.reduceLT, Int.reduceLE, Int.reduceEq, Int.reduceToNat, Int.reduceAdd, Int.reduceSub, Int.reduceNeg, A0, A1, hq, lN, hc]

theorem c_octet_Is (m : Mem) (c : Int) (b : Nat) : Go.Ev.Comes T G f_octet_Is [.int .i64 c, .int .u8 (b : Nat)] m none ⟨.val (.bool (isF c b)), m, none⟩ := by
  refine octet_Is_of m c b fun _ m => ?_
  have h := octet_Is_of m 3 b (fun h => by simp at h)
  have e : isF 3 b = isT 3 b := by simp [isF]
  rw [e] at h
  exact h
end Go.Proofs.YtmjoaiccbghijaaDoor.paramRcpts

namespace Go.Proofs.YtmjoaiccbghijaaDoor.paramRcpts
open Go.Ev hiding Comes
variable [GG]

theorem c_octet_Span_string (m : Mem) (c : Int) (s : List UInt8) (k : Nat) (hk : k ≤ s.length) (hN : s.length ≤ 4611686018427387904) :
    Go.Ev.Comes T G f_octet_Span_string [.int .i64 c, .str s, .int .i64 k] m none ⟨.val (.int .i64 (k + sp c (s.drop k) : Nat)), m, none⟩ := by
  refine comes2 T_octet_Span_string rfl fun M hg hlen hlow => ?_
  have hl : m.bl.length ≤ M.low := by omega
  simp only [F_octet_Span_string]
  simp +contextual only [vq, vc, ve, vv, vn, vl, ↓reduceIte, Nat.reduceEqDiff, Nat.reduceAdd, Nat.reduceMul, Nat.reduceSub, Nat.reduceLeDiff, Nat.reduceLT, Nat.reduceBEq, Nat.reduceBNe, reduceCtorEq, Int.reduceBEq, Int.reduceBNe, Int.reduceLT, Int.reduceLE, Int.reduceEq, Int.reduceToNat, Int.reduceAdd, Int.reduceSub, Int.reduceNeg]
  refine loop2 (fun n st => ∃ i A, st = ⟨A, M, [], none⟩ ∧ n = s.length - i ∧ k ≤ i ∧ i ≤ s.length ∧ A 0 = .int .i64 c ∧ A 1 = .str s ∧ A 2 = .int .i64 i ∧ ∀ x ∈ (s.drop k).take (i - k), isF c x.toNat = true) (s.length - k) ⟨k, _, rfl, by omega, by omega, by omega, by simp +contextual only [vq, vc, ve, vv, vn, vl, ↓reduceIte, Nat.reduceEqDiff, Nat.reduceAdd, Nat.reduceMul, Nat.reduceSub, Nat.reduceLeDiff, Nat.reduceLT, Nat.reduceBEq, Nat.reduceBNe, reduceCtorEq, Int.reduceBEq, Int.reduceBNe, Int.reduceLT, Int.reduceLE, Int.reduceEq, Int.reduceToNat, Int.reduceAdd, Int.reduceSub, Int.reduceNeg], by simp +contextual only [vq, vc, ve, vv, vn, vl, ↓reduceIte, Nat.reduceEqDiff, Nat.reduceAdd, Nat.reduceMul, Nat.reduceSub, Nat.reduceLeDiff, Nat.reduceLT, Nat.reduceBEq, Nat.reduceBNe, reduceCtorEq, Int.reduceBEq, Int.reduceBNe, Int.reduceLT, Int.reduceLE, Int.reduceEq, Int.reduceToNat, Int.reduceAdd, Int.reduceSub, Int.reduceNeg], by simp +contextual only [vq, vc, ve, vv, vn, vl, ↓reduceIte, Nat.reduceEqDiff, Nat.reduceAdd, Nat.reduceMul, Nat.reduceSub, Nat.reduceLeDiff, Nat.reduceLT, Nat.reduceBEq, Nat.reduceBNe, reduceCtorEq, Int.reduceBEq, Int.reduceBNe, Int.reduceLT, Int.reduceLE, Int.reduceEq, Int.reduceToNat, Int.reduceAdd, Int.reduceSub, Int.reduceNeg], by simp⟩ fun J hJ n st hI => ?_
  obtain ⟨i, A, rfl, rfl, hki, hi, A0, A1, A2, hall⟩ := hI
  by_cases hlt : i < s.length
  · have hd : (s.drop k)[i - k]? = some s[i] := by rw [List.getElem?_drop, show k + (i - k) = i by omega, get_byte hlt]
    simp +contextual only [vq, vc, ve, vv, vn, vl, ↓reduceIte, Nat.reduceEqDiff, Nat.reduceAdd, Nat.reduceMul, Nat.reduceSub, Nat.reduceLeDiff, Nat.reduceLT, Nat.reduceBEq, Nat.reduceBNe, reduceCtorEq, Int.reduceBEq, Int.reduceBNe, Int.reduceLT, Int.reduceLE, Int.reduceEq, Int.reduceToNat, Int.reduceAdd, Int.reduceSub, Int.reduceNeg, A0, A1, A2, hlt, get_byte hlt, callR_val (c_octet_Is _ _ _)]
    refine br2_mk (fun hp => ?_) (fun hp => ?_)
    · simp +contextual only [vq, vc, ve, vv, vn, vl, ↓reduceIte, Nat.reduceEqDiff, Nat.reduceAdd, Nat.reduceMul, Nat.reduceSub, Nat.reduceLeDiff, Nat.reduceLT, Nat.reduceBEq, Nat.reduceBNe, reduceCtorEq, Int.reduceBEq, Int.reduceBNe, Int.reduceLT, Int.reduceLE, Int.reduceEq, Int.reduceToNat, Int.reduceAdd, Int.reduceSub, Int.reduceNeg, A2, wsucc hlt hN]
      refine again2 hJ (s.length - (i + 1)) (by omega) ⟨i + 1, _, rfl, rfl, by omega, by omega, by simp +contextual only [vq, vc, ve, vv, vn, vl, ↓reduceIte, Nat.reduceEqDiff, Nat.reduceAdd, Nat.reduceMul, Nat.reduceSub, Nat.reduceLeDiff, Nat.reduceLT, Nat.reduceBEq, Nat.reduceBNe, reduceCtorEq, Int.reduceBEq, Int.reduceBNe, Int.reduceLT, Int.reduceLE, Int.reduceEq, Int.reduceToNat, Int.reduceAdd, Int.reduceSub, Int.reduceNeg, A0], by simp +contextual only [vq, vc, ve, vv, vn, vl, ↓reduceIte, Nat.reduceEqDiff, Nat.reduceAdd, Nat.reduceMul, Nat.reduceSub, Nat.reduceLeDiff, Nat.reduceLT, Nat.reduceBEq, Nat.reduceBNe, reduceCtorEq, Int.reduceBEq, Int.reduceBNe, Int.reduceLT, Int.reduceLE, Int.reduceEq, Int.reduceToNat, Int.reduceAdd, Int.reduceSub, Int.reduceNeg, A1], by simp +contextual only [vq, vc, ve, vv, vn, vl, ↓reduceIte, Nat.reduceEqDiff, Nat.reduceAdd, Nat.reduceMul, Nat.reduceSub, Nat.reduceLeDiff, Nat.reduceLT, Nat.reduceBEq, Nat.reduceBNe, reduceCtorEq, Int.reduceBEq, Int.reduceBNe, Int.reduceLT, Int.reduceLE, Int.reduceEq, Int.reduceToNat, Int.reduceAdd, Int.reduceSub, Int.reduceNeg], ?_⟩
      obtain ⟨h1, h2⟩ := List.getElem?_eq_some_iff.1 hd
      have := take_next (p := fun b => isF c b.toNat) h1 hall (by rw [h2]; exact hp)
      rwa [show i - k + 1 = i + 1 - k by omega] at this
    · have e : sp c (s.drop k) = i - k := tw_at (p := fun b => isF c b.toNat) hall hd hp
      have e2 : k + sp c (s.drop k) = i := by omega
      simp +contextual only [vq, vc, ve, vv, vn, vl, ↓reduceIte, Nat.reduceEqDiff, Nat.reduceAdd, Nat.reduceMul, Nat.reduceSub, Nat.reduceLeDiff, Nat.reduceLT, Nat.reduceBEq, Nat.reduceBNe, reduceCtorEq, Int.reduceBEq, Int.reduceBNe, Int.reduceLT, Int.reduceLE, Int.reduceEq, Int.reduceToNat, Int.reduceAdd, Int.reduceSub, Int.reduceNeg, A2, hl, e2]
  · have he : i = s.length := by omega
    subst he
    have e : sp c (s.drop k) = s.length - k := by
      rw [List.take_of_length_le (by simp)] at hall
      have := tw_end (p := fun b => isF c b.toNat) hall
      simpa [sp] using this
    have e2 : k + sp c (s.drop k) = s.length := by omega
    simp +contextual only [vq, vc, ve, vv, vn, vl, ↓reduceIte, Nat.reduceEqDiff, Nat.reduceAdd, Nat.reduceMul, Nat.reduceSub, Nat.reduceLeDiff, Nat.reduceLT, Nat.reduceBEq, Nat.reduceBNe, reduceCtorEq, Int.reduceBEq, Int.reduceBNe, Int.reduceLT, Int.reduceLE, Int.reduceEq, Int.reduceToNat, Int.reduceAdd, Int.reduceSub, Int.reduceNeg, A0, A1, A2, hlt, hl, e2]
end Go.Proofs.YtmjoaiccbghijaaDoor.paramRcpts

namespace Go.Proofs.YtmjoaiccbghijaaDoor.paramRcpts
open Go.Ev hiding Comes
variable [GG]

theorem c_octet_Bad_string (m : Mem) (c : Int) (s : List UInt8) (hN : s.length ≤ 4611686018427387904) :
    Go.Ev.Comes T G f_octet_Bad_string [.int .i64 c, .str s] m none ⟨.val (.int .i64 (sp c s : Nat)), m, none⟩ := by
  refine comes2 T_octet_Bad_string rfl fun M hg hlen hlow => ?_
  have hl : m.bl.length ≤ M.low := by omega
  have h0 := c_octet_Span_string M c s 0 (Nat.zero_le _) hN
  rw [Nat.zero_add, List.drop_zero] at h0
  have h : Go.Ev.Comes T G f_octet_Span_string [.int .i64 c, .str s, .int .i64 0] M none ⟨.val (.int .i64 (sp c s : Nat)), M, none⟩ := h0
  simp only [F_octet_Bad_string]
  simp +contextual only [vq, vc, ve, vv, vn, vl, ↓reduceIte, Nat.reduceEqDiff, Nat.reduceAdd, Nat.reduceMul, Nat.reduceSub, Nat.reduceLeDiff, Nat.reduceLT, Nat.reduceBEq, Nat.reduceBNe, reduceCtorEq, Int.reduceBEq, Int.reduceBNe, Int.reduceLT, Int.reduceLE, Int.reduceEq, Int.reduceToNat, Int.reduceAdd, Int.reduceSub, Int.reduceNeg, callR_val h, hl]
end Go.Proofs.YtmjoaiccbghijaaDoor.paramRcpts

namespace Go.Proofs.YtmjoaiccbghijaaDoor.paramRcpts
open Go.Ev hiding Comes
variable [GG]

theorem u8lt (n k : Nat) : ((n : Int) < (k : Int)) = (n < k) := propext Int.ofNat_lt
/-- A reader of UTF-8 takes a byte. -/
theorem c_runes_state_take (m : Mem) (q need lo hi : Nat) (b : UInt8) (h : RowIs m q (stE (need, lo, hi))) (hn4 : need < 4) :
    ∃ r, Go.Ev.Comes T G f_runes_state_take [.ptr (some ⟨.mem q 0, 0⟩), .int .u8 b.toNat] m none r ∧ ∃ M, r = ⟨.val (.bool (tk need lo hi b.toNat).1), M, none⟩ ∧ But1 q m M ∧ min m.low q ≤ M.low ∧ RowIs M q (stE (tk need lo hi b.toNat).2) := by
  have hq := h.lt
  refine comes2P T_runes_state_take rfl fun M hg hlen hlow => ?_
  have hM : RowIs M q (stE (need, lo, hi)) := h.grown hg
  have hbl := begin_bl hg hlen
  have fin : ∀ {M3 : Mem} {A : Fr} {v : Bool}, A 4 = .bool v → But1 q M M3 → M3.low < m.bl.length → min m.low q ≤ M3.low → (tk need lo hi b.toNat).1 = v → RowIs M3 q (stE (tk need lo hi b.toNat).2) → postX G [.tmp 4] m (fun r => ∃ M, r = ⟨.val (.bool (tk need lo hi b.toNat).1), M, none⟩ ∧ But1 q m M ∧ min m.low q ≤ M.low ∧ RowIs M q (stE (tk need lo hi b.toNat).2)) .ret ⟨A, M3, [], none⟩ := by
    intro M3 A v hA t3 hl3 hw e R
    refine postX_wrote (v := .bool v) (by simp +contextual only [vq, vc, ve, vv, vn, vl, ↓reduceIte, Nat.reduceEqDiff, Nat.reduceAdd, Nat.reduceMul, Nat.reduceSub, Nat.reduceLeDiff, Nat.reduceLT, Nat.reduceBEq, Nat.reduceBNe, reduceCtorEq, Int.reduceBEq, Int.reduceBNe, Int.reduceLT, Int.reduceLE, Int.reduceEq, Int.reduceToNat, Int.reduceAdd, Int.reduceSub, Int.reduceNeg, hA]) hl3 ⟨⟨M3.bl, min m.low M3.low⟩, by rw [e], ⟨t3.1.trans hlen, fun j hj => by rw [show (⟨M3.bl, min m.low M3.low⟩ : Mem).bl = M3.bl from rfl, t3.2 j hj, hbl]⟩, by simp only; omega, R⟩
  simp only [F_runes_state_take]
  simp only [stE] at hM
  by_cases hn : 0 < need
  · have k0 : ((0 : Int) < (need : Int)) = True := eq_true (by omega)
    by_cases hbad : b.toNat < lo ∨ hi < b.toNat
    · have e : tk need lo hi b.toNat = (false, need, lo, hi) := by rw [tk_more hn, if_pos hbad]
      have k1 : (decide (b.toNat < lo) || decide (hi < b.toNat)) = true := by simpa using hbad
      simp +contextual only [vq, vc, ve, vv, vn, vl, ↓reduceIte, Nat.reduceEqDiff, Nat.reduceAdd, Nat.reduceMul, Nat.reduceSub, Nat.reduceLeDiff, Nat.reduceLT, Nat.reduceBEq, Nat.reduceBNe, reduceCtorEq, Int.reduceBEq, Int.reduceBNe, Int.reduceLT, Int.reduceLE, Int.reduceEq, Int.reduceToNat, Int.reduceAdd, Int.reduceSub, Int.reduceNeg, hM.get (G := G), k0, k1]
      exact postX_same (v := .bool false) (by simp +contextual only [vq, vc, ve, vv, vn, vl, ↓reduceIte, Nat.reduceEqDiff, Nat.reduceAdd, Nat.reduceMul, Nat.reduceSub, Nat.reduceLeDiff, Nat.reduceLT, Nat.reduceBEq, Nat.reduceBNe, reduceCtorEq, Int.reduceBEq, Int.reduceBNe, Int.reduceLT, Int.reduceLE, Int.reduceEq, Int.reduceToNat, Int.reduceAdd, Int.reduceSub, Int.reduceNeg]) (by omega) rfl ⟨m, by rw [e], But1.rfl', by omega, by rw [e]; exact h⟩
    · have e : tk need lo hi b.toNat = (true, need - 1, 128, 191) := by rw [tk_more hn, if_neg hbad]
      have k1 : (decide (b.toNat < lo) || decide (hi < b.toNat)) = false := by simpa using hbad
      obtain ⟨M1, p1, r1, t1, w1⟩ := put1_row (off := 0) (v := .int .u8 (need - 1 : Nat)) hM (by simp)
      obtain ⟨M2, p2, r2, t2, w2⟩ := put1_row (off := 1) (v := .int .u8 128) r1 (by simp)
      obtain ⟨M3, p3, r3, t3, w3⟩ := put1_row (off := 2) (v := .int .u8 191) r2 (by simp)
      have hw : IntKind.u8.wrap ((need : Int) - 1) = ((need - 1 : Nat) : Int) := by rw [wrap8 (by omega) (by omega)]; omega
      simp +contextual only [vq, vc, ve, vv, vn, vl, ↓reduceIte, Nat.reduceEqDiff, Nat.reduceAdd, Nat.reduceMul, Nat.reduceSub, Nat.reduceLeDiff, Nat.reduceLT, Nat.reduceBEq, Nat.reduceBNe, reduceCtorEq, Int.reduceBEq, Int.reduceBNe, Int.reduceLT, Int.reduceLE, Int.reduceEq, Int.reduceToNat, Int.reduceAdd, Int.reduceSub, Int.reduceNeg, hM.get (G := G), k0, k1, hw, p1, p2, p3]
      exact fin (v := true) (by simp +contextual only [vq, vc, ve, vv, vn, vl, ↓reduceIte, Nat.reduceEqDiff, Nat.reduceAdd, Nat.reduceMul, Nat.reduceSub, Nat.reduceLeDiff, Nat.reduceLT, Nat.reduceBEq, Nat.reduceBNe, reduceCtorEq, Int.reduceBEq, Int.reduceBNe, Int.reduceLT, Int.reduceLE, Int.reduceEq, Int.reduceToNat, Int.reduceAdd, Int.reduceSub, Int.reduceNeg]) ((t1.trans t2).trans t3) (by omega) (by omega) (by rw [e]) (by rw [e]; exact r3)
  · have hn0 : need = 0 := by omega
    subst hn0
    have t0 : tk 0 lo hi b.toNat = if b.toNat < 128 then (true, 0, 128, 191) else if b.toNat < 194 ∨ 244 < b.toNat then (false, 0, 128, 191)
      else (true, (if b.toNat < 224 then 1 else if b.toNat < 240 then 2 else 3), tkLo b.toNat, tkHi b.toNat) := rfl
    have k0 : ((0 : Int) < ((0 : Nat) : Int)) = False := eq_false (by omega)
    have lt (k : Nat) : ((b.toNat : Int) < (k : Int)) = (b.toNat < k) := u8lt _ _
    have lt1 : ((b.toNat : Int) < 128) = (b.toNat < 128) := u8lt _ 128
    have lt2 : ((b.toNat : Int) < 194) = (b.toNat < 194) := u8lt _ 194
    have lt3 : ((244 : Int) < (b.toNat : Int)) = (244 < b.toNat) := u8lt 244 _
    have lt4 : ((b.toNat : Int) < 224) = (b.toNat < 224) := u8lt _ 224
    have lt5 : ((b.toNat : Int) < 240) = (b.toNat < 240) := u8lt _ 240
    obtain ⟨M1, p1, r1, t1, w1⟩ := put1_row (off := 1) (v := .int .u8 128) hM (by simp)
    obtain ⟨M2, p2, r2, t2, w2⟩ := put1_row (off := 2) (v := .int .u8 191) r1 (by simp)
    by_cases h1 : b.toNat < 128
    · rw [if_pos h1] at t0
      simp +contextual only [vq, vc, ve, vv, vn, vl, ↓reduceIte, Nat.reduceEqDiff, Nat.reduceAdd, Nat.reduceMul, Nat.reduceSub, Nat.reduceLeDiff, Nat.reduceLT, Nat.reduceBEq, Nat.reduceBNe, reduceCtorEq, Int.reduceBEq, Int.reduceBNe, Int.reduceLT, Int.reduceLE, Int.reduceEq, Int.reduceToNat, Int.reduceAdd, Int.reduceSub, Int.reduceNeg, hM.get (G := G), k0, p1, p2, lt1, h1]
      exact fin (v := true) (by simp +contextual only [vq, vc, ve, vv, vn, vl, ↓reduceIte, Nat.reduceEqDiff, Nat.reduceAdd, Nat.reduceMul, Nat.reduceSub, Nat.reduceLeDiff, Nat.reduceLT, Nat.reduceBEq, Nat.reduceBNe, reduceCtorEq, Int.reduceBEq, Int.reduceBNe, Int.reduceLT, Int.reduceLE, Int.reduceEq, Int.reduceToNat, Int.reduceAdd, Int.reduceSub, Int.reduceNeg]) (t1.trans t2) (by omega) (by omega) (by rw [t0]) (by rw [t0]; exact r2)
    · rw [if_neg h1] at t0
      by_cases h2 : b.toNat < 194 ∨ 244 < b.toNat
      · rw [if_pos h2] at t0
        have k2 : (decide (b.toNat < 194) || decide (244 < b.toNat)) = true := by simpa using h2
        simp +contextual only [vq, vc, ve, vv, vn, vl, ↓reduceIte, Nat.reduceEqDiff, Nat.reduceAdd, Nat.reduceMul, Nat.reduceSub, Nat.reduceLeDiff, Nat.reduceLT, Nat.reduceBEq, Nat.reduceBNe, reduceCtorEq, Int.reduceBEq, Int.reduceBNe, Int.reduceLT, Int.reduceLE, Int.reduceEq, Int.reduceToNat, Int.reduceAdd, Int.reduceSub, Int.reduceNeg, hM.get (G := G), k0, p1, p2, lt1, h1, lt2, lt3, k2]
        exact fin (v := false) (by simp +contextual only [vq, vc, ve, vv, vn, vl, ↓reduceIte, Nat.reduceEqDiff, Nat.reduceAdd, Nat.reduceMul, Nat.reduceSub, Nat.reduceLeDiff, Nat.reduceLT, Nat.reduceBEq, Nat.reduceBNe, reduceCtorEq, Int.reduceBEq, Int.reduceBNe, Int.reduceLT, Int.reduceLE, Int.reduceEq, Int.reduceToNat, Int.reduceAdd, Int.reduceSub, Int.reduceNeg]) (t1.trans t2) (by omega) (by omega) (by rw [t0]) (by rw [t0]; exact r2)
      · rw [if_neg h2] at t0
        have k2 : (decide (b.toNat < 194) || decide (244 < b.toNat)) = false := by simpa using h2
        have eq (k : Nat) : ((b.toNat : Int) == (k : Int)) = (b.toNat == k) := int_beq _ _
        have e1 : ((b.toNat : Int) == 224) = (b.toNat == 224) := eq 224
        have e2 : ((b.toNat : Int) == 237) = (b.toNat == 237) := eq 237
        have e3 : ((b.toNat : Int) == 240) = (b.toNat == 240) := eq 240
        have e4 : ((b.toNat : Int) == 244) = (b.toNat == 244) := eq 244
        have ne (k : Nat) (h : b.toNat ≠ k) : (b.toNat == k) = false := by simpa using h
        by_cases h3 : b.toNat < 224
        · have hl : tkLo b.toNat = 128 := by unfold tkLo; rw [if_neg (by omega), if_neg (by omega)]
          have hh : tkHi b.toNat = 191 := by unfold tkHi; rw [if_neg (by omega), if_neg (by omega)]
          rw [if_pos h3, hl, hh] at t0
          obtain ⟨M3, p3, r3, t3, w3⟩ := put1_row (off := 0) (v := .int .u8 1) r2 (by simp)
          simp +contextual only [vq, vc, ve, vv, vn, vl, ↓reduceIte, Nat.reduceEqDiff, Nat.reduceAdd, Nat.reduceMul, Nat.reduceSub, Nat.reduceLeDiff, Nat.reduceLT, Nat.reduceBEq, Nat.reduceBNe, reduceCtorEq, Int.reduceBEq, Int.reduceBNe, Int.reduceLT, Int.reduceLE, Int.reduceEq, Int.reduceToNat, Int.reduceAdd, Int.reduceSub, Int.reduceNeg, hM.get (G := G), k0, p1, p2, lt1, h1, lt2, lt3, k2, lt4, h3, p3, e1, e2, e3, e4, ne 224 (by omega), ne 237 (by omega), ne 240 (by omega), ne 244 (by omega)]
          exact fin (v := true) (by simp +contextual only [vq, vc, ve, vv, vn, vl, ↓reduceIte, Nat.reduceEqDiff, Nat.reduceAdd, Nat.reduceMul, Nat.reduceSub, Nat.reduceLeDiff, Nat.reduceLT, Nat.reduceBEq, Nat.reduceBNe, reduceCtorEq, Int.reduceBEq, Int.reduceBNe, Int.reduceLT, Int.reduceLE, Int.reduceEq, Int.reduceToNat, Int.reduceAdd, Int.reduceSub, Int.reduceNeg]) ((t1.trans t2).trans t3) (by omega) (by omega) (by rw [t0]) (by rw [t0]; exact r3)
        rw [if_neg h3] at t0
        by_cases h4 : b.toNat < 240
        · rw [if_pos h4] at t0
          obtain ⟨M3, p3, r3, t3, w3⟩ := put1_row (off := 0) (v := .int .u8 2) r2 (by simp)
          by_cases q1 : b.toNat = 224
          · have hl : tkLo b.toNat = 160 := by unfold tkLo; rw [if_pos q1]
            have hh : tkHi b.toNat = 191 := by unfold tkHi; rw [if_neg (by omega), if_neg (by omega)]
            rw [hl, hh] at t0
            obtain ⟨M4, p4, r4, t4, w4⟩ := put1_row (off := 1) (v := .int .u8 160) r3 (by simp)
            simp +contextual only [vq, vc, ve, vv, vn, vl, ↓reduceIte, Nat.reduceEqDiff, Nat.reduceAdd, Nat.reduceMul, Nat.reduceSub, Nat.reduceLeDiff, Nat.reduceLT, Nat.reduceBEq, Nat.reduceBNe, reduceCtorEq, Int.reduceBEq, Int.reduceBNe, Int.reduceLT, Int.reduceLE, Int.reduceEq, Int.reduceToNat, Int.reduceAdd, Int.reduceSub, Int.reduceNeg, hM.get (G := G), k0, p1, p2, lt1, h1, lt2, lt3, k2, lt4, h3, lt5, h4, p3, e1, show (b.toNat == 224) = true by simpa using q1, p4]
            exact fin (v := true) (by simp +contextual only [vq, vc, ve, vv, vn, vl, ↓reduceIte, Nat.reduceEqDiff, Nat.reduceAdd, Nat.reduceMul, Nat.reduceSub, Nat.reduceLeDiff, Nat.reduceLT, Nat.reduceBEq, Nat.reduceBNe, reduceCtorEq, Int.reduceBEq, Int.reduceBNe, Int.reduceLT, Int.reduceLE, Int.reduceEq, Int.reduceToNat, Int.reduceAdd, Int.reduceSub, Int.reduceNeg]) (((t1.trans t2).trans t3).trans t4) (by omega) (by omega) (by rw [t0]) (by rw [t0]; exact r4)
          by_cases q2 : b.toNat = 237
          · have hl : tkLo b.toNat = 128 := by unfold tkLo; rw [if_neg (by omega), if_neg (by omega)]
            have hh : tkHi b.toNat = 159 := by unfold tkHi; rw [if_pos q2]
            rw [hl, hh] at t0
            obtain ⟨M4, p4, r4, t4, w4⟩ := put1_row (off := 2) (v := .int .u8 159) r3 (by simp)
            simp +contextual only [vq, vc, ve, vv, vn, vl, ↓reduceIte, Nat.reduceEqDiff, Nat.reduceAdd, Nat.reduceMul, Nat.reduceSub, Nat.reduceLeDiff, Nat.reduceLT, Nat.reduceBEq, Nat.reduceBNe, reduceCtorEq, Int.reduceBEq, Int.reduceBNe, Int.reduceLT, Int.reduceLE, Int.reduceEq, Int.reduceToNat, Int.reduceAdd, Int.reduceSub, Int.reduceNeg, hM.get (G := G), k0, p1, p2, lt1, h1, lt2, lt3, k2, lt4, h3, lt5, h4, p3, e1, ne 224 q1, e2, show (b.toNat == 237) = true by simpa using q2, p4]
            exact fin (v := true) (by simp +contextual only [vq, vc, ve, vv, vn, vl, ↓reduceIte, Nat.reduceEqDiff, Nat.reduceAdd, Nat.reduceMul, Nat.reduceSub, Nat.reduceLeDiff, Nat.reduceLT, Nat.reduceBEq, Nat.reduceBNe, reduceCtorEq, Int.reduceBEq, Int.reduceBNe, Int.reduceLT, Int.reduceLE, Int.reduceEq, Int.reduceToNat, Int.reduceAdd, Int.reduceSub, Int.reduceNeg]) (((t1.trans t2).trans t3).trans t4) (by omega) (by omega) (by rw [t0]) (by rw [t0]; exact r4)
          · have hl : tkLo b.toNat = 128 := by unfold tkLo; rw [if_neg (by omega), if_neg (by omega)]
            have hh : tkHi b.toNat = 191 := by unfold tkHi; rw [if_neg (by omega), if_neg (by omega)]
            rw [hl, hh] at t0
            simp +contextual only [vq, vc, ve, vv, vn, vl, ↓reduceIte, Nat.reduceEqDiff, Nat.reduceAdd, Nat.reduceMul, Nat.reduceSub, Nat.reduceLeDiff, Nat.reduceLT, Nat.reduceBEq, Nat.reduceBNe, reduceCtorEq, Int.reduceBEq, Int.reduceBNe, Int.reduceLT, Int.reduceLE, Int.reduceEq, Int.reduceToNat, Int.reduceAdd, Int.reduceSub, Int.reduceNeg, hM.get (G := G), k0, p1, p2, lt1, h1, lt2, lt3, k2, lt4, h3, lt5, h4, p3, e1, e2, e3, e4, ne 224 q1, ne 237 q2, ne 240 (by omega), ne 244 (by omega)]
            exact fin (v := true) (by simp +contextual only [vq, vc, ve, vv, vn, vl, ↓reduceIte, Nat.reduceEqDiff, Nat.reduceAdd, Nat.reduceMul, Nat.reduceSub, Nat.reduceLeDiff, Nat.reduceLT, Nat.reduceBEq, Nat.reduceBNe, reduceCtorEq, Int.reduceBEq, Int.reduceBNe, Int.reduceLT, Int.reduceLE, Int.reduceEq, Int.reduceToNat, Int.reduceAdd, Int.reduceSub, Int.reduceNeg]) ((t1.trans t2).trans t3) (by omega) (by omega) (by rw [t0]) (by rw [t0]; exact r3)
        · rw [if_neg h4] at t0
          obtain ⟨M3, p3, r3, t3, w3⟩ := put1_row (off := 0) (v := .int .u8 3) r2 (by simp)
          by_cases q1 : b.toNat = 240
          · have hl : tkLo b.toNat = 144 := by unfold tkLo; rw [if_neg (by omega), if_pos q1]
            have hh : tkHi b.toNat = 191 := by unfold tkHi; rw [if_neg (by omega), if_neg (by omega)]
            rw [hl, hh] at t0
            obtain ⟨M4, p4, r4, t4, w4⟩ := put1_row (off := 1) (v := .int .u8 144) r3 (by simp)
            simp +contextual only [vq, vc, ve, vv, vn, vl, ↓reduceIte, Nat.reduceEqDiff, Nat.reduceAdd, Nat.reduceMul, Nat.reduceSub, Nat.reduceLeDiff, Nat.reduceLT, Nat.reduceBEq, Nat.reduceBNe, reduceCtorEq, Int.reduceBEq, Int.reduceBNe, Int.reduceLT, Int.reduceLE, Int.reduceEq, Int.reduceToNat, Int.reduceAdd, Int.reduceSub, Int.reduceNeg, hM.get (G := G), k0, p1, p2, lt1, h1, lt2, lt3, k2, lt4, h3, lt5, h4, p3, e1, e2, e3, ne 224 (by omega), ne 237 (by omega), show (b.toNat == 240) = true by simpa using q1, p4]
            exact fin (v := true) (by simp +contextual only [vq, vc, ve, vv, vn, vl, ↓reduceIte, Nat.reduceEqDiff, Nat.reduceAdd, Nat.reduceMul, Nat.reduceSub, Nat.reduceLeDiff, Nat.reduceLT, Nat.reduceBEq, Nat.reduceBNe, reduceCtorEq, Int.reduceBEq, Int.reduceBNe, Int.reduceLT, Int.reduceLE, Int.reduceEq, Int.reduceToNat, Int.reduceAdd, Int.reduceSub, Int.reduceNeg]) (((t1.trans t2).trans t3).trans t4) (by omega) (by omega) (by rw [t0]) (by rw [t0]; exact r4)
          by_cases q2 : b.toNat = 244
          · have hl : tkLo b.toNat = 128 := by unfold tkLo; rw [if_neg (by omega), if_neg (by omega)]
            have hh : tkHi b.toNat = 143 := by unfold tkHi; rw [if_neg (by omega), if_pos q2]
            rw [hl, hh] at t0
            obtain ⟨M4, p4, r4, t4, w4⟩ := put1_row (off := 2) (v := .int .u8 143) r3 (by simp)
            simp +contextual only [vq, vc, ve, vv, vn, vl, ↓reduceIte, Nat.reduceEqDiff, Nat.reduceAdd, Nat.reduceMul, Nat.reduceSub, Nat.reduceLeDiff, Nat.reduceLT, Nat.reduceBEq, Nat.reduceBNe, reduceCtorEq, Int.reduceBEq, Int.reduceBNe, Int.reduceLT, Int.reduceLE, Int.reduceEq, Int.reduceToNat, Int.reduceAdd, Int.reduceSub, Int.reduceNeg, hM.get (G := G), k0, p1, p2, lt1, h1, lt2, lt3, k2, lt4, h3, lt5, h4, p3, e1, e2, e3, e4, ne 224 (by omega), ne 237 (by omega), ne 240 q1, show (b.toNat == 244) = true by simpa using q2, p4]
            exact fin (v := true) (by simp +contextual only [vq, vc, ve, vv, vn, vl, ↓reduceIte, Nat.reduceEqDiff, Nat.reduceAdd, Nat.reduceMul, Nat.reduceSub, Nat.reduceLeDiff, Nat.reduceLT, Nat.reduceBEq, Nat.reduceBNe, reduceCtorEq, Int.reduceBEq, Int.reduceBNe, Int.reduceLT, Int.reduceLE, Int.reduceEq, Int.reduceToNat, Int.reduceAdd, Int.reduceSub, Int.reduceNeg]) (((t1.trans t2).trans t3).trans t4) (by omega) (by omega) (by rw [t0]) (by rw [t0]; exact r4)
          · have hl : tkLo b.toNat = 128 := by unfold tkLo; rw [if_neg (by omega), if_neg (by omega)]
            have hh : tkHi b.toNat = 191 := by unfold tkHi; rw [if_neg (by omega), if_neg (by omega)]
            rw [hl, hh] at t0
            simp +contextual only [vq, vc, ve, vv, vn, vl, ↓reduceIte, Nat.reduceEqDiff, Nat.reduceAdd, Nat.reduceMul, Nat.reduceSub, Nat.reduceLeDiff, Nat.reduceLT, Nat.reduceBEq, Nat.reduceBNe, reduceCtorEq, Int.reduceBEq, Int.reduceBNe, Int.reduceLT, Int.reduceLE, Int.reduceEq, Int.reduceToNat, Int.reduceAdd, Int.reduceSub, Int.reduceNeg, hM.get (G := G), k0, p1, p2, lt1, h1, lt2, lt3, k2, lt4, h3, lt5, h4, p3, e1, e2, e3, e4, ne 224 (by omega), ne 237 (by omega), ne 240 q1, ne 244 q2]
            exact fin (v := true) (by simp +contextual only [vq, vc, ve, vv, vn, vl, ↓reduceIte, Nat.reduceEqDiff, Nat.reduceAdd, Nat.reduceMul, Nat.reduceSub, Nat.reduceLeDiff, Nat.reduceLT, Nat.reduceBEq, Nat.reduceBNe, reduceCtorEq, Int.reduceBEq, Int.reduceBNe, Int.reduceLT, Int.reduceLE, Int.reduceEq, Int.reduceToNat, Int.reduceAdd, Int.reduceSub, Int.reduceNeg]) ((t1.trans t2).trans t3) (by omega) (by omega) (by rw [t0]) (by rw [t0]; exact r3)
end Go.Proofs.YtmjoaiccbghijaaDoor.paramRcpts

namespace Go.Proofs.YtmjoaiccbghijaaDoor.paramRcpts
open Go.Ev hiding Comes
variable [GG]

theorem tk_lt {n lo hi b : Nat} (h : n < 4) : (tk n lo hi b).2.1 < 4 := by
  unfold tk
  repeat' split
  all_goals simp <;> omega
/-- runes.Bad: where the first wrong UTF-8 begins. -/
theorem c_runes_Bad_string (m : Mem) (s : List UInt8) (hN : s.length ≤ 1000000000000) : Go.Ev.Comes T G f_runes_Bad_string [.str s] m none ⟨.val (.int .i64 (good s.length s : Nat)), m, none⟩ := by
  refine comes2 T_runes_Bad_string rfl fun M hg hlen hlow => ?_
  simp only [F_runes_Bad_string]
  simp +contextual only [vq, vc, ve, vv, vn, vl, ↓reduceIte, Nat.reduceEqDiff, Nat.reduceAdd, Nat.reduceMul, Nat.reduceSub, Nat.reduceLeDiff, Nat.reduceLT, Nat.reduceBEq, Nat.reduceBNe, reduceCtorEq, Int.reduceBEq, Int.reduceBNe, Int.reduceLT, Int.reduceLE, Int.reduceEq, Int.reduceToNat, Int.reduceAdd, Int.reduceSub, Int.reduceNeg]
  refine new_mk fun M1 e1 => ?_
  have R0 : RowIs M1 M.bl.length (stE (0, 0, 0)) := by rw [e1]; exact row_push _ _
  have l1 : M1.low = M.low := by rw [e1]; rfl
  simp +contextual only [vq, vc, ve, vv, vn, vl, ↓reduceIte, Nat.reduceEqDiff, Nat.reduceAdd, Nat.reduceMul, Nat.reduceSub, Nat.reduceLeDiff, Nat.reduceLT, Nat.reduceBEq, Nat.reduceBNe, reduceCtorEq, Int.reduceBEq, Int.reduceBNe, Int.reduceLT, Int.reduceLE, Int.reduceEq, Int.reduceToNat, Int.reduceAdd, Int.reduceSub, Int.reduceNeg]
  refine loop2 (fun n st => ∃ i A N bg nd lo hi, st = ⟨A, N, [], none⟩ ∧ m.bl.length ≤ N.low ∧ n = s.length - i ∧ i ≤ s.length ∧ A 0 = .str s ∧ A 3 = .ptr (some ⟨.mem M.bl.length 0, 0⟩) ∧ A 4 = .int .i64 (bg : Nat) ∧ A 7 = .int .i64 s.length ∧ A 8 = .int .i64 (i : Nat) ∧ RowIs N M.bl.length (stE (nd, lo, hi)) ∧ nd < 4 ∧ pb bg i nd lo hi (s.drop i) = good s.length s) s.length ⟨0, _, _, 0, 0, 0, 0, rfl, by omega, by omega, by omega, by simp +contextual only [vq, vc, ve, vv, vn, vl, ↓reduceIte, Nat.reduceEqDiff, Nat.reduceAdd, Nat.reduceMul, Nat.reduceSub, Nat.reduceLeDiff, Nat.reduceLT, Nat.reduceBEq, Nat.reduceBNe, reduceCtorEq, Int.reduceBEq, Int.reduceBNe, Int.reduceLT, Int.reduceLE, Int.reduceEq, Int.reduceToNat, Int.reduceAdd, Int.reduceSub, Int.reduceNeg], by simp +contextual only [vq, vc, ve, vv, vn, vl, ↓reduceIte, Nat.reduceEqDiff, Nat.reduceAdd, Nat.reduceMul, Nat.reduceSub, Nat.reduceLeDiff, Nat.reduceLT, Nat.reduceBEq, Nat.reduceBNe, reduceCtorEq, Int.reduceBEq, Int.reduceBNe, Int.reduceLT, Int.reduceLE, Int.reduceEq, Int.reduceToNat, Int.reduceAdd, Int.reduceSub, Int.reduceNeg], by simp +contextual only [vq, vc, ve, vv, vn, vl, ↓reduceIte, Nat.reduceEqDiff, Nat.reduceAdd, Nat.reduceMul, Nat.reduceSub, Nat.reduceLeDiff, Nat.reduceLT, Nat.reduceBEq, Nat.reduceBNe, reduceCtorEq, Int.reduceBEq, Int.reduceBNe, Int.reduceLT, Int.reduceLE, Int.reduceEq, Int.reduceToNat, Int.reduceAdd, Int.reduceSub, Int.reduceNeg]; rfl, by simp +contextual only [vq, vc, ve, vv, vn, vl, ↓reduceIte, Nat.reduceEqDiff, Nat.reduceAdd, Nat.reduceMul, Nat.reduceSub, Nat.reduceLeDiff, Nat.reduceLT, Nat.reduceBEq, Nat.reduceBNe, reduceCtorEq, Int.reduceBEq, Int.reduceBNe, Int.reduceLT, Int.reduceLE, Int.reduceEq, Int.reduceToNat, Int.reduceAdd, Int.reduceSub, Int.reduceNeg], by simp +contextual only [vq, vc, ve, vv, vn, vl, ↓reduceIte, Nat.reduceEqDiff, Nat.reduceAdd, Nat.reduceMul, Nat.reduceSub, Nat.reduceLeDiff, Nat.reduceLT, Nat.reduceBEq, Nat.reduceBNe, reduceCtorEq, Int.reduceBEq, Int.reduceBNe, Int.reduceLT, Int.reduceLE, Int.reduceEq, Int.reduceToNat, Int.reduceAdd, Int.reduceSub, Int.reduceNeg]; rfl, R0, by omega, by rw [List.drop_zero, pb_good s.length s 0 0 0 0 (Nat.le_refl _)]; omega⟩ fun J hJ n st hI => ?_
  obtain ⟨i, A, N, bg, nd, lo, hi, rfl, lN, rfl, hi', A0, A3, A4, A7, A8, RN, hnd, hpb⟩ := hI
  simp +contextual only [vq, vc, ve, vv, vn, vl, ↓reduceIte, Nat.reduceEqDiff, Nat.reduceAdd, Nat.reduceMul, Nat.reduceSub, Nat.reduceLeDiff, Nat.reduceLT, Nat.reduceBEq, Nat.reduceBNe, reduceCtorEq, Int.reduceBEq, Int.reduceBNe, Int.reduceLT, Int.reduceLE, Int.reduceEq, Int.reduceToNat, Int.reduceAdd, Int.reduceSub, Int.reduceNeg, A7, A8]
  refine br2_dec (fun hlt => ?_) (fun hge => ?_)
  · have hd : s.drop i = s[i] :: s.drop (i + 1) := List.drop_eq_getElem_cons hlt
    rw [hd] at hpb
    obtain ⟨_, hc, N1, rfl, t1, w1, R1⟩ := c_runes_state_take N M.bl.length nd lo hi s[i] RN hnd
    have RN' := RN
    simp only [stE] at RN'
    have lN1 : m.bl.length ≤ N1.low := by omega
    by_cases hz : nd = 0
    · subst hz
      simp +contextual only [vq, vc, ve, vv, vn, vl, ↓reduceIte, Nat.reduceEqDiff, Nat.reduceAdd, Nat.reduceMul, Nat.reduceSub, Nat.reduceLeDiff, Nat.reduceLT, Nat.reduceBEq, Nat.reduceBNe, reduceCtorEq, Int.reduceBEq, Int.reduceBNe, Int.reduceLT, Int.reduceLE, Int.reduceEq, Int.reduceToNat, Int.reduceAdd, Int.reduceSub, Int.reduceNeg, A0, A3, A7, A8, RN'.get (G := G), get_byte hlt, callR_val hc]
      refine br2_mk (fun hk => ?_) (fun hk => ?_)
      · have hk : (tk 0 lo hi s[i].toNat).1 = false := by simpa using hk
        simp only [pb, hk, Bool.false_eq_true, if_false] at hpb
        try simp only [if_true] at hpb
        simp +contextual only [vq, vc, ve, vv, vn, vl, ↓reduceIte, Nat.reduceEqDiff, Nat.reduceAdd, Nat.reduceMul, Nat.reduceSub, Nat.reduceLeDiff, Nat.reduceLT, Nat.reduceBEq, Nat.reduceBNe, reduceCtorEq, Int.reduceBEq, Int.reduceBNe, Int.reduceLT, Int.reduceLE, Int.reduceEq, Int.reduceToNat, Int.reduceAdd, Int.reduceSub, Int.reduceNeg, hpb, lN1]
      · have hk : (tk 0 lo hi s[i].toNat).1 = true := by simpa using hk
        simp only [pb, hk, if_true] at hpb
        try simp only [if_true] at hpb
        simp +contextual only [vq, vc, ve, vv, vn, vl, ↓reduceIte, Nat.reduceEqDiff, Nat.reduceAdd, Nat.reduceMul, Nat.reduceSub, Nat.reduceLeDiff, Nat.reduceLT, Nat.reduceBEq, Nat.reduceBNe, reduceCtorEq, Int.reduceBEq, Int.reduceBNe, Int.reduceLT, Int.reduceLE, Int.reduceEq, Int.reduceToNat, Int.reduceAdd, Int.reduceSub, Int.reduceNeg, A8, wsucc hlt (by omega)]
        exact again2 hJ (s.length - (i + 1)) (by omega) ⟨i + 1, _, N1, i, _, _, _, rfl, lN1, rfl, by omega, by simp +contextual only [vq, vc, ve, vv, vn, vl, ↓reduceIte, Nat.reduceEqDiff, Nat.reduceAdd, Nat.reduceMul, Nat.reduceSub, Nat.reduceLeDiff, Nat.reduceLT, Nat.reduceBEq, Nat.reduceBNe, reduceCtorEq, Int.reduceBEq, Int.reduceBNe, Int.reduceLT, Int.reduceLE, Int.reduceEq, Int.reduceToNat, Int.reduceAdd, Int.reduceSub, Int.reduceNeg, A0], by simp +contextual only [vq, vc, ve, vv, vn, vl, ↓reduceIte, Nat.reduceEqDiff, Nat.reduceAdd, Nat.reduceMul, Nat.reduceSub, Nat.reduceLeDiff, Nat.reduceLT, Nat.reduceBEq, Nat.reduceBNe, reduceCtorEq, Int.reduceBEq, Int.reduceBNe, Int.reduceLT, Int.reduceLE, Int.reduceEq, Int.reduceToNat, Int.reduceAdd, Int.reduceSub, Int.reduceNeg, A3], by simp +contextual only [vq, vc, ve, vv, vn, vl, ↓reduceIte, Nat.reduceEqDiff, Nat.reduceAdd, Nat.reduceMul, Nat.reduceSub, Nat.reduceLeDiff, Nat.reduceLT, Nat.reduceBEq, Nat.reduceBNe, reduceCtorEq, Int.reduceBEq, Int.reduceBNe, Int.reduceLT, Int.reduceLE, Int.reduceEq, Int.reduceToNat, Int.reduceAdd, Int.reduceSub, Int.reduceNeg], by simp +contextual only [vq, vc, ve, vv, vn, vl, ↓reduceIte, Nat.reduceEqDiff, Nat.reduceAdd, Nat.reduceMul, Nat.reduceSub, Nat.reduceLeDiff, Nat.reduceLT, Nat.reduceBEq, Nat.reduceBNe, reduceCtorEq, Int.reduceBEq, Int.reduceBNe, Int.reduceLT, Int.reduceLE, Int.reduceEq, Int.reduceToNat, Int.reduceAdd, Int.reduceSub, Int.reduceNeg, A7], by simp +contextual only [vq, vc, ve, vv, vn, vl, ↓reduceIte, Nat.reduceEqDiff, Nat.reduceAdd, Nat.reduceMul, Nat.reduceSub, Nat.reduceLeDiff, Nat.reduceLT, Nat.reduceBEq, Nat.reduceBNe, reduceCtorEq, Int.reduceBEq, Int.reduceBNe, Int.reduceLT, Int.reduceLE, Int.reduceEq, Int.reduceToNat, Int.reduceAdd, Int.reduceSub, Int.reduceNeg], R1, tk_lt hnd, hpb⟩
    · have k1 : (nd == 0) = false := by simpa using hz
      simp +contextual only [vq, vc, ve, vv, vn, vl, ↓reduceIte, Nat.reduceEqDiff, Nat.reduceAdd, Nat.reduceMul, Nat.reduceSub, Nat.reduceLeDiff, Nat.reduceLT, Nat.reduceBEq, Nat.reduceBNe, reduceCtorEq, Int.reduceBEq, Int.reduceBNe, Int.reduceLT, Int.reduceLE, Int.reduceEq, Int.reduceToNat, Int.reduceAdd, Int.reduceSub, Int.reduceNeg, A0, A3, A7, A8, RN'.get (G := G), get_byte hlt, callR_val hc, k1]
      refine br2_mk (fun hk => ?_) (fun hk => ?_)
      · have hk : (tk nd lo hi s[i].toNat).1 = false := by simpa using hk
        simp only [pb, hk, Bool.false_eq_true, if_false] at hpb
        simp only [if_neg hz] at hpb
        simp +contextual only [vq, vc, ve, vv, vn, vl, ↓reduceIte, Nat.reduceEqDiff, Nat.reduceAdd, Nat.reduceMul, Nat.reduceSub, Nat.reduceLeDiff, Nat.reduceLT, Nat.reduceBEq, Nat.reduceBNe, reduceCtorEq, Int.reduceBEq, Int.reduceBNe, Int.reduceLT, Int.reduceLE, Int.reduceEq, Int.reduceToNat, Int.reduceAdd, Int.reduceSub, Int.reduceNeg, A4, hpb, lN1]
      · have hk : (tk nd lo hi s[i].toNat).1 = true := by simpa using hk
        simp only [pb, hk, if_true] at hpb
        simp only [if_neg hz] at hpb
        simp +contextual only [vq, vc, ve, vv, vn, vl, ↓reduceIte, Nat.reduceEqDiff, Nat.reduceAdd, Nat.reduceMul, Nat.reduceSub, Nat.reduceLeDiff, Nat.reduceLT, Nat.reduceBEq, Nat.reduceBNe, reduceCtorEq, Int.reduceBEq, Int.reduceBNe, Int.reduceLT, Int.reduceLE, Int.reduceEq, Int.reduceToNat, Int.reduceAdd, Int.reduceSub, Int.reduceNeg, A8, wsucc hlt (by omega)]
        exact again2 hJ (s.length - (i + 1)) (by omega) ⟨i + 1, _, N1, bg, _, _, _, rfl, lN1, rfl, by omega, by simp +contextual only [vq, vc, ve, vv, vn, vl, ↓reduceIte, Nat.reduceEqDiff, Nat.reduceAdd, Nat.reduceMul, Nat.reduceSub, Nat.reduceLeDiff, Nat.reduceLT, Nat.reduceBEq, Nat.reduceBNe, reduceCtorEq, Int.reduceBEq, Int.reduceBNe, Int.reduceLT, Int.reduceLE, Int.reduceEq, Int.reduceToNat, Int.reduceAdd, Int.reduceSub, Int.reduceNeg, A0], by simp +contextual only [vq, vc, ve, vv, vn, vl, ↓reduceIte, Nat.reduceEqDiff, Nat.reduceAdd, Nat.reduceMul, Nat.reduceSub, Nat.reduceLeDiff, Nat.reduceLT, Nat.reduceBEq, Nat.reduceBNe, reduceCtorEq, Int.reduceBEq, Int.reduceBNe, Int.reduceLT, Int.reduceLE, Int.reduceEq, Int.reduceToNat, Int.reduceAdd, Int.reduceSub, Int.reduceNeg, A3], by simp +contextual only [vq, vc, ve, vv, vn, vl, ↓reduceIte, Nat.reduceEqDiff, Nat.reduceAdd, Nat.reduceMul, Nat.reduceSub, Nat.reduceLeDiff, Nat.reduceLT, Nat.reduceBEq, Nat.reduceBNe, reduceCtorEq, Int.reduceBEq, Int.reduceBNe, Int.reduceLT, Int.reduceLE, Int.reduceEq, Int.reduceToNat, Int.reduceAdd, Int.reduceSub, Int.reduceNeg, A4,], by simp +contextual only [vq, vc, ve, vv, vn, vl, ↓reduceIte, Nat.reduceEqDiff, Nat.reduceAdd, Nat.reduceMul, Nat.reduceSub, Nat.reduceLeDiff, Nat.reduceLT, Nat.reduceBEq, Nat.reduceBNe, reduceCtorEq, Int.reduceBEq, Int.reduceBNe, Int.reduceLT, Int.reduceLE, Int.reduceEq, Int.reduceToNat, Int.reduceAdd, Int.reduceSub, Int.reduceNeg, A7], by simp +contextual only [vq, vc, ve, vv, vn, vl, ↓reduceIte, Nat.reduceEqDiff, Nat.reduceAdd, Nat.reduceMul, Nat.reduceSub, Nat.reduceLeDiff, Nat.reduceLT, Nat.reduceBEq, Nat.reduceBNe, reduceCtorEq, Int.reduceBEq, Int.reduceBNe, Int.reduceLT, Int.reduceLE, Int.reduceEq, Int.reduceToNat, Int.reduceAdd, Int.reduceSub, Int.reduceNeg], R1, tk_lt hnd, hpb⟩
  · have he : i = s.length := by omega
    subst he
    rw [List.drop_eq_nil_of_le (Nat.le_refl _)] at hpb
    have RN' := RN
    simp only [stE] at RN'
    simp +contextual only [vq, vc, ve, vv, vn, vl, ↓reduceIte, Nat.reduceEqDiff, Nat.reduceAdd, Nat.reduceMul, Nat.reduceSub, Nat.reduceLeDiff, Nat.reduceLT, Nat.reduceBEq, Nat.reduceBNe, reduceCtorEq, Int.reduceBEq, Int.reduceBNe, Int.reduceLT, Int.reduceLE, Int.reduceEq, Int.reduceToNat, Int.reduceAdd, Int.reduceSub, Int.reduceNeg, A0, A3, RN'.get (G := G)]
    by_cases hz : nd = 0
    · subst hz
      simp only [pb, Nat.lt_irrefl, if_false] at hpb
      simp +contextual only [vq, vc, ve, vv, vn, vl, ↓reduceIte, Nat.reduceEqDiff, Nat.reduceAdd, Nat.reduceMul, Nat.reduceSub, Nat.reduceLeDiff, Nat.reduceLT, Nat.reduceBEq, Nat.reduceBNe, reduceCtorEq, Int.reduceBEq, Int.reduceBNe, Int.reduceLT, Int.reduceLE, Int.reduceEq, Int.reduceToNat, Int.reduceAdd, Int.reduceSub, Int.reduceNeg, A0, hpb.symm, lN]
    · have k0 : (0 < nd) = True := eq_true (by omega)
      have hbg : bg = good s.length s := by
        rw [← hpb]
        simp only [pb, k0, if_true]
      subst hbg
      simp +contextual only [vq, vc, ve, vv, vn, vl, ↓reduceIte, Nat.reduceEqDiff, Nat.reduceAdd, Nat.reduceMul, Nat.reduceSub, Nat.reduceLeDiff, Nat.reduceLT, Nat.reduceBEq, Nat.reduceBNe, reduceCtorEq, Int.reduceBEq, Int.reduceBNe, Int.reduceLT, Int.reduceLE, Int.reduceEq, Int.reduceToNat, Int.reduceAdd, Int.reduceSub, Int.reduceNeg, A4, k0, lN]
end Go.Proofs.YtmjoaiccbghijaaDoor.paramRcpts

namespace Go.Proofs.YtmjoaiccbghijaaDoor.paramRcpts
open Go.Ev hiding Comes
variable [GG]

theorem c_param_typed (m : Mem) (s : List UInt8) (hs : s.length ≤ 1000000000) : Go.Ev.Comes T G f_param_typed [.str s] m none ⟨.val (match typedS s with | some n => .tuple [.str (s.take (n + 1)), .str (s.drop (n + 1)), .bool (sameU (s.take n) wUTF8), .bool true] | none => .tuple [.str [], .str [], .bool false, .bool false]), m, none⟩ := by
  refine comes2 T_param_typed rfl fun M hg hlen hlow => ?_
  have hl : m.bl.length ≤ M.low := by omega
  have h1 := c_octet_Span_string M 10 s 0 (by omega) (by omega)
  rw [Nat.zero_add, List.drop_zero] at h1
  have h1 : Go.Ev.Comes T G f_octet_Span_string [.int .i64 10, .str s, .int .i64 0] M none ⟨.val (.int .i64 (sp 10 s : Nat)), M, none⟩ := h1
  have hle := sp_le 10 s
  simp only [F_param_typed]
  by_cases a1 : sp 10 s = 0
  · have e : typedS s = none := by rw [typedS, if_pos (.inl a1)]
    have z1 : (((sp 10 s : Nat) : Int) == 0) = true := beq_iff_eq.2 (by omega)
    rw [e]
    simp +contextual only [vq, vc, ve, vv, vn, vl, ↓reduceIte, Nat.reduceEqDiff, Nat.reduceAdd, Nat.reduceMul, Nat.reduceSub, Nat.reduceLeDiff, Nat.reduceLT, Nat.reduceBEq, Nat.reduceBNe, reduceCtorEq, Int.reduceBEq, Int.reduceBNe, Int.reduceLT, Int.reduceLE, Int.reduceEq, Int.reduceToNat, Int.reduceAdd, Int.reduceSub, Int.reduceNeg, callR_val h1, z1, hl]
  · have z1 : (((sp 10 s : Nat) : Int) == 0) = false := beq_eq_false_iff_ne.2 (by omega)
    by_cases a2 : s.length ≤ sp 10 s
    · have e : typedS s = none := by rw [typedS, if_pos (.inr (by rw [List.getElem?_eq_none a2]; simp))]
      rw [e]
      simp +contextual only [vq, vc, ve, vv, vn, vl, ↓reduceIte, Nat.reduceEqDiff, Nat.reduceAdd, Nat.reduceMul, Nat.reduceSub, Nat.reduceLeDiff, Nat.reduceLT, Nat.reduceBEq, Nat.reduceBNe, reduceCtorEq, Int.reduceBEq, Int.reduceBNe, Int.reduceLT, Int.reduceLE, Int.reduceEq, Int.reduceToNat, Int.reduceAdd, Int.reduceSub, Int.reduceNeg, callR_val h1, z1, a2, hl]
    · have hlt : sp 10 s < s.length := by omega
      have hq : ((((s[sp 10 s]).toNat : Int)) != 59) = (s[sp 10 s] != 59) := by
        have := u8_eq s[sp 10 s] 59
        simp only [bne]
        exact congrArg (! ·) this
      by_cases a3 : s[sp 10 s] = 59
      · have e : typedS s = some (sp 10 s) := by rw [typedS, if_neg (by rw [get_byte hlt, a3]; simp [a1])]
        have z3 : (s[sp 10 s] != 59) = false := by simp [a3]
        rw [z3] at hq
        have w1 : IntKind.i64.wrap (((sp 10 s : Nat) : Int) + 1) = ((sp 10 s + 1 : Nat) : Int) := wrap_of (by omega) (by omega)
        have k3 : sp 10 s + 1 ≤ s.length := by omega
        have hS := fun m => c_octet_Same m (s.take (sp 10 s)) wUTF8 (by rw [List.length_take]; omega)
        unfold wUTF8 at hS
        rw [e]
        simp +contextual only [vq, vc, ve, vv, vn, vl, ↓reduceIte, Nat.reduceEqDiff, Nat.reduceAdd, Nat.reduceMul, Nat.reduceSub, Nat.reduceLeDiff, Nat.reduceLT, Nat.reduceBEq, Nat.reduceBNe, reduceCtorEq, Int.reduceBEq, Int.reduceBNe, Int.reduceLT, Int.reduceLE, Int.reduceEq, Int.reduceToNat, Int.reduceAdd, Int.reduceSub, Int.reduceNeg, callR_val h1, z1, a2, get_byte hlt, hq, w1, k3, hle, callR_val (hS _), hl]
        rfl
      · have e : typedS s = none := by rw [typedS, if_pos (.inr (by rw [get_byte hlt]; simpa using a3))]
        have z3 : (s[sp 10 s] != 59) = true := by simpa using a3
        rw [z3] at hq
        rw [e]
        simp +contextual only [vq, vc, ve, vv, vn, vl, ↓reduceIte, Nat.reduceEqDiff, Nat.reduceAdd, Nat.reduceMul, Nat.reduceSub, Nat.reduceLeDiff, Nat.reduceLT, Nat.reduceBEq, Nat.reduceBNe, reduceCtorEq, Int.reduceBEq, Int.reduceBNe, Int.reduceLT, Int.reduceLE, Int.reduceEq, Int.reduceToNat, Int.reduceAdd, Int.reduceSub, Int.reduceNeg, callR_val h1, z1, a2, get_byte hlt, hq, hl]
theorem wideB_is (b : UInt8) : wideB b = !(((b.toNat : Int) == 92) || (!isF 9 b.toNat && !isF 14 b.toNat)) := by
  have h : ∀ n : Fin 256, wideB (UInt8.ofNat n.val) = !((((UInt8.ofNat n.val).toNat : Int) == 92) || (!isF 9 (UInt8.ofNat n.val).toNat && !isF 14 (UInt8.ofNat n.val).toNat)) := by decide +kernel
  have := h ⟨b.toNat, b.toNat_lt⟩
  simp only [UInt8.ofNat_toNat] at this
  exact this
theorem c_param_isWide (m : Mem) (s : List UInt8) (hs : s.length ≤ 1000000000) : Go.Ev.Comes T G f_param_isWide [.str s] m none ⟨.val (.bool (wideS s)), m, none⟩ := by
  refine comes2 T_param_isWide rfl fun M hg hlen hlow => ?_
  have hl : m.bl.length ≤ M.low := by omega
  simp only [F_param_isWide]
  simp +contextual only [vq, vc, ve, vv, vn, vl, ↓reduceIte, Nat.reduceEqDiff, Nat.reduceAdd, Nat.reduceMul, Nat.reduceSub, Nat.reduceLeDiff, Nat.reduceLT, Nat.reduceBEq, Nat.reduceBNe, reduceCtorEq, Int.reduceBEq, Int.reduceBNe, Int.reduceLT, Int.reduceLE, Int.reduceEq, Int.reduceToNat, Int.reduceAdd, Int.reduceSub, Int.reduceNeg]
  refine new_mk fun M1 e1 => ?_
  have R1 : RowIs M1 M.bl.length (bytesE s) := by rw [e1]; exact row_push _ _
  have l1 : m.bl.length ≤ M1.low := by rw [e1]; exact hl
  simp +contextual only [vq, vc, ve, vv, vn, vl, ↓reduceIte, Nat.reduceEqDiff, Nat.reduceAdd, Nat.reduceMul, Nat.reduceSub, Nat.reduceLeDiff, Nat.reduceLT, Nat.reduceBEq, Nat.reduceBNe, reduceCtorEq, Int.reduceBEq, Int.reduceBNe, Int.reduceLT, Int.reduceLE, Int.reduceEq, Int.reduceToNat, Int.reduceAdd, Int.reduceSub, Int.reduceNeg]
  refine loop2 (fun n st => ∃ i A, st = ⟨A, M1, [], none⟩ ∧ n = s.length - i ∧ i ≤ s.length ∧ A 0 = .str s ∧ A 6 = .slice (some ⟨.mem M.bl.length 0, 0⟩) s.length s.length 1 ∧ A 7 = .int .i64 s.length ∧ A 8 = .int .i64 (i : Nat) ∧ ∀ x ∈ s.take i, wideB x = true) s.length ⟨0, _, rfl, by omega, by omega, by simp +contextual only [vq, vc, ve, vv, vn, vl, ↓reduceIte, Nat.reduceEqDiff, Nat.reduceAdd, Nat.reduceMul, Nat.reduceSub, Nat.reduceLeDiff, Nat.reduceLT, Nat.reduceBEq, Nat.reduceBNe, reduceCtorEq, Int.reduceBEq, Int.reduceBNe, Int.reduceLT, Int.reduceLE, Int.reduceEq, Int.reduceToNat, Int.reduceAdd, Int.reduceSub, Int.reduceNeg], by simp +contextual only [vq, vc, ve, vv, vn, vl, ↓reduceIte, Nat.reduceEqDiff, Nat.reduceAdd, Nat.reduceMul, Nat.reduceSub, Nat.reduceLeDiff, Nat.reduceLT, Nat.reduceBEq, Nat.reduceBNe, reduceCtorEq, Int.reduceBEq, Int.reduceBNe, Int.reduceLT, Int.reduceLE, Int.reduceEq, Int.reduceToNat, Int.reduceAdd, Int.reduceSub, Int.reduceNeg], by simp +contextual only [vq, vc, ve, vv, vn, vl, ↓reduceIte, Nat.reduceEqDiff, Nat.reduceAdd, Nat.reduceMul, Nat.reduceSub, Nat.reduceLeDiff, Nat.reduceLT, Nat.reduceBEq, Nat.reduceBNe, reduceCtorEq, Int.reduceBEq, Int.reduceBNe, Int.reduceLT, Int.reduceLE, Int.reduceEq, Int.reduceToNat, Int.reduceAdd, Int.reduceSub, Int.reduceNeg], by simp +contextual only [vq, vc, ve, vv, vn, vl, ↓reduceIte, Nat.reduceEqDiff, Nat.reduceAdd, Nat.reduceMul, Nat.reduceSub, Nat.reduceLeDiff, Nat.reduceLT, Nat.reduceBEq, Nat.reduceBNe, reduceCtorEq, Int.reduceBEq, Int.reduceBNe, Int.reduceLT, Int.reduceLE, Int.reduceEq, Int.reduceToNat, Int.reduceAdd, Int.reduceSub, Int.reduceNeg]; rfl, by simp⟩ fun J hJ n st hI => ?_
  obtain ⟨i, A, rfl, rfl, hi, A0, A6, A7, A8, hall⟩ := hI
  by_cases hlt : i < s.length
  · have hgb : (bytesE s)[i]? = some (byteE s[i]) := by simp [bytesE, hlt]
    have hw := wideB_is s[i]
    simp +contextual only [vq, vc, ve, vv, vn, vl, ↓reduceIte, Nat.reduceEqDiff, Nat.reduceAdd, Nat.reduceMul, Nat.reduceSub, Nat.reduceLeDiff, Nat.reduceLT, Nat.reduceBEq, Nat.reduceBNe, reduceCtorEq, Int.reduceBEq, Int.reduceBNe, Int.reduceLT, Int.reduceLE, Int.reduceEq, Int.reduceToNat, Int.reduceAdd, Int.reduceSub, Int.reduceNeg, A6, A7, A8, hlt, R1.get (G := G), hgb, byteE, callR_val (c_octet_Is _ _ _)]
    rw [← Bool.not_not (_ || _), ← hw]
    refine br2_mk (fun hp => ?_) (fun hp => ?_)
    · have hp : wideB s[i] = false := by simpa using hp
      have e : wideS s = false := by
        unfold wideS
        rw [Bool.and_eq_false_iff]
        left
        rw [List.all_eq_false]
        exact ⟨s[i], List.getElem_mem hlt, by simp [hp]⟩
      simp +contextual only [vq, vc, ve, vv, vn, vl, ↓reduceIte, Nat.reduceEqDiff, Nat.reduceAdd, Nat.reduceMul, Nat.reduceSub, Nat.reduceLeDiff, Nat.reduceLT, Nat.reduceBEq, Nat.reduceBNe, reduceCtorEq, Int.reduceBEq, Int.reduceBNe, Int.reduceLT, Int.reduceLE, Int.reduceEq, Int.reduceToNat, Int.reduceAdd, Int.reduceSub, Int.reduceNeg, e, l1]
    · have hp : wideB s[i] = true := by simpa using hp
      simp +contextual only [vq, vc, ve, vv, vn, vl, ↓reduceIte, Nat.reduceEqDiff, Nat.reduceAdd, Nat.reduceMul, Nat.reduceSub, Nat.reduceLeDiff, Nat.reduceLT, Nat.reduceBEq, Nat.reduceBNe, reduceCtorEq, Int.reduceBEq, Int.reduceBNe, Int.reduceLT, Int.reduceLE, Int.reduceEq, Int.reduceToNat, Int.reduceAdd, Int.reduceSub, Int.reduceNeg, A8, wsucc hlt (by omega)]
      exact again2 hJ (s.length - (i + 1)) (by omega) ⟨i + 1, _, rfl, rfl, by omega, by simp +contextual only [vq, vc, ve, vv, vn, vl, ↓reduceIte, Nat.reduceEqDiff, Nat.reduceAdd, Nat.reduceMul, Nat.reduceSub, Nat.reduceLeDiff, Nat.reduceLT, Nat.reduceBEq, Nat.reduceBNe, reduceCtorEq, Int.reduceBEq, Int.reduceBNe, Int.reduceLT, Int.reduceLE, Int.reduceEq, Int.reduceToNat, Int.reduceAdd, Int.reduceSub, Int.reduceNeg, A0], by simp +contextual only [vq, vc, ve, vv, vn, vl, ↓reduceIte, Nat.reduceEqDiff, Nat.reduceAdd, Nat.reduceMul, Nat.reduceSub, Nat.reduceLeDiff, Nat.reduceLT, Nat.reduceBEq, Nat.reduceBNe, reduceCtorEq, Int.reduceBEq, Int.reduceBNe, Int.reduceLT, Int.reduceLE, Int.reduceEq, Int.reduceToNat, Int.reduceAdd, Int.reduceSub, Int.reduceNeg, A6], by simp +contextual only [vq, vc, ve, vv, vn, vl, ↓reduceIte, Nat.reduceEqDiff, Nat.reduceAdd, Nat.reduceMul, Nat.reduceSub, Nat.reduceLeDiff, Nat.reduceLT, Nat.reduceBEq, Nat.reduceBNe, reduceCtorEq, Int.reduceBEq, Int.reduceBNe, Int.reduceLT, Int.reduceLE, Int.reduceEq, Int.reduceToNat, Int.reduceAdd, Int.reduceSub, Int.reduceNeg, A7], by simp +contextual only [vq, vc, ve, vv, vn, vl, ↓reduceIte, Nat.reduceEqDiff, Nat.reduceAdd, Nat.reduceMul, Nat.reduceSub, Nat.reduceLeDiff, Nat.reduceLT, Nat.reduceBEq, Nat.reduceBNe, reduceCtorEq, Int.reduceBEq, Int.reduceBNe, Int.reduceLT, Int.reduceLE, Int.reduceEq, Int.reduceToNat, Int.reduceAdd, Int.reduceSub, Int.reduceNeg], take_next hlt hall hp⟩
  · have he : i = s.length := by omega
    subst he
    rw [List.take_length] at hall
    have e : wideS s = (s != [] && good s.length s == s.length) := by
      unfold wideS
      rw [List.all_eq_true.2 hall, Bool.true_and]
    by_cases hz : s = []
    · subst hz
      simp +contextual only [vq, vc, ve, vv, vn, vl, ↓reduceIte, Nat.reduceEqDiff, Nat.reduceAdd, Nat.reduceMul, Nat.reduceSub, Nat.reduceLeDiff, Nat.reduceLT, Nat.reduceBEq, Nat.reduceBNe, reduceCtorEq, Int.reduceBEq, Int.reduceBNe, Int.reduceLT, Int.reduceLE, Int.reduceEq, Int.reduceToNat, Int.reduceAdd, Int.reduceSub, Int.reduceNeg, A0, A7, A8, e, l1]
    · have z : (s == []) = false := by simpa using hz
      have z2 : (s != []) = true := by simpa using hz
      simp +contextual only [vq, vc, ve, vv, vn, vl, ↓reduceIte, Nat.reduceEqDiff, Nat.reduceAdd, Nat.reduceMul, Nat.reduceSub, Nat.reduceLeDiff, Nat.reduceLT, Nat.reduceBEq, Nat.reduceBNe, reduceCtorEq, Int.reduceBEq, Int.reduceBNe, Int.reduceLT, Int.reduceLE, Int.reduceEq, Int.reduceToNat, Int.reduceAdd, Int.reduceSub, Int.reduceNeg, A0, A7, A8, e, z, z2, l1, callR_val (c_runes_Bad_string _ _ (show s.length ≤ 1000000000000 by omega))]
theorem shown_12 : ∀ b : UInt8, (decide (32 ≤ b.toNat) && decide (b.toNat ≤ 126)) = (isF 12 b.toNat && (9 != b)) := by decide +kernel
theorem shown_is (s : List UInt8) : shownS s = (s != [] && (sp 12 s == s.length) && !s.contains 9) := by
  unfold shownS
  rw [Bool.and_assoc]
  congr 1
  rw [Bool.eq_iff_iff]
  simp only [Bool.and_eq_true, beq_iff_eq, Bool.not_eq_true', List.all_eq_true]
  have h12 : ∀ b : UInt8, (decide (32 ≤ b.toNat) = true ∧ decide (b.toNat ≤ 126) = true) ↔ (isF 12 b.toNat = true ∧ 9 ≠ b) := fun b => by
    have h := shown_12 b
    rw [Bool.eq_iff_iff, Bool.and_eq_true, Bool.and_eq_true, bne_iff_ne] at h
    exact h
  constructor
  · intro h
    refine ⟨tw_end fun x hx => ((h12 x).1 (h x hx)).1, ?_⟩
    rw [List.contains_eq_any_beq, List.any_eq_false]
    intro x hx
    have := ((h12 x).1 (h x hx)).2
    simpa using this
  · rintro ⟨h1, h2⟩ x hx
    refine (h12 x).2 ⟨?_, ?_⟩
    · have e : s.takeWhile (fun b => isF 12 b.toNat) = s := (List.takeWhile_prefix (p := fun b : UInt8 => isF 12 b.toNat) (l := s)).eq_of_length h1
      rw [← e] at hx
      exact List.all_eq_true.1 (List.all_takeWhile (p := fun b : UInt8 => isF 12 b.toNat) (l := s)) x hx
    · rw [List.contains_eq_any_beq, List.any_eq_false] at h2
      have := h2 x hx
      simpa using this
theorem c_param_isShown (m : Mem) (s : List UInt8) (hs : s.length ≤ 1000000000) : Go.Ev.Comes T G f_param_isShown [.str s] m none ⟨.val (.bool (shownS s)), m, none⟩ := by
  refine comes2 T_param_isShown rfl fun M hg hlen hlow => ?_
  have hl : m.bl.length ≤ M.low := by omega
  have hC := fun m => c_strings_Contains1 m s 9
  have hB := fun m => c_octet_Bad_string m 12 s (by omega)
  rw [shown_is]
  simp only [F_param_isShown]
  have hb : (s != []) = !(s == []) := rfl
  rw [hb]
  cases h1 : (s == []) with
  | true => simp +contextual only [vq, vc, ve, vv, vn, vl, ↓reduceIte, Nat.reduceEqDiff, Nat.reduceAdd, Nat.reduceMul, Nat.reduceSub, Nat.reduceLeDiff, Nat.reduceLT, Nat.reduceBEq, Nat.reduceBNe, reduceCtorEq, Int.reduceBEq, Int.reduceBNe, Int.reduceLT, Int.reduceLE, Int.reduceEq, Int.reduceToNat, Int.reduceAdd, Int.reduceSub, Int.reduceNeg, h1, hl]
  | false =>
    cases h2 : (sp 12 s == s.length) with
    | false => simp +contextual only [vq, vc, ve, vv, vn, vl, ↓reduceIte, Nat.reduceEqDiff, Nat.reduceAdd, Nat.reduceMul, Nat.reduceSub, Nat.reduceLeDiff, Nat.reduceLT, Nat.reduceBEq, Nat.reduceBNe, reduceCtorEq, Int.reduceBEq, Int.reduceBNe, Int.reduceLT, Int.reduceLE, Int.reduceEq, Int.reduceToNat, Int.reduceAdd, Int.reduceSub, Int.reduceNeg, h1, h2, callR_val (hB _), hl]
    | true => simp +contextual only [vq, vc, ve, vv, vn, vl, ↓reduceIte, Nat.reduceEqDiff, Nat.reduceAdd, Nat.reduceMul, Nat.reduceSub, Nat.reduceLeDiff, Nat.reduceLT, Nat.reduceBEq, Nat.reduceBNe, reduceCtorEq, Int.reduceBEq, Int.reduceBNe, Int.reduceLT, Int.reduceLE, Int.reduceEq, Int.reduceToNat, Int.reduceAdd, Int.reduceSub, Int.reduceNeg, h1, h2, callR_val (hB _), callR_val (hC _), hl]
end Go.Proofs.YtmjoaiccbghijaaDoor.paramRcpts
