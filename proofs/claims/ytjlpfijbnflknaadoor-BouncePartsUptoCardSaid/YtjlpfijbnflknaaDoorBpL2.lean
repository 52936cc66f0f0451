/- A part of the proof of the statement that this claim hands in: what single functions come to. There are no conditions. -/
import Derived.Test.YtjlpfijbnflknaaDoorBpL1
import Derived.Test.YtjlpfijbnflknaaDoorBpEv32
import Derived.Test.YtjlpfijbnflknaaDoorBpEv33
set_option linter.unusedVariables false
set_option linter.unusedSimpArgs false
set_option linter.unusedSectionVars false
namespace Go.Proofs.YtjlpfijbnflknaaDoor.bounceParts
open Go.Ev hiding Comes
variable [GG]

theorem get_grown {m M : Mem} {G : Globs} (h : Grown m M) {a : Ad} {v : EV} (hg : m.get G a = some v) : M.get G a = some v := by
  unfold Mem.get at hg ⊢
  cases hr : m.row G a.base with
  | none => rw [hr] at hg; cases hg
  | some c => rw [row_old h hr]; rw [hr] at hg; exact hg
/-- All the numbers of rows. -/
def allMarks (ll : List (List UInt8)) : List Nat := ll.flatMap fun s => marks s.length s
theorem isF_digit (b : UInt8) : isF 2 b.toNat = isDg b := by revert b; decide +kernel
/-- The map counts these numbers. -/
def Counts (m : Mem) (b : Nat) (L : List Nat) : Prop := ∃ c : Int → Int, MapI .u64 .i64 m b c ∧ ∀ n : Nat, c n = L.count n
theorem Counts.look {m : Mem} {b : Nat} {L : List Nat} (h : Counts m b L) (n : Nat) : lkE m [12] (.int .i64 0) false (.map (some b)) (.int .u64 (n : Nat)) = some (.int .i64 (L.count n : Nat), m) := by
  obtain ⟨c, h1, h2⟩ := h
  rw [h1.look, h2]
theorem Counts.add {m : Mem} {b : Nat} {L : List Nat} (h : Counts m b L) (n : Nat) : ∃ m', msE m [12] (.map (some b)) (.int .u64 (n : Nat)) (.int .i64 ((L.count n + 1 : Nat) : Int)) = some (undefE, m') ∧ Counts m' b (L ++ [n]) ∧ But1 b m m' ∧ m'.low = min m.low b := by
  obtain ⟨c, h1, h2⟩ := h
  obtain ⟨m', e1, e2, e3, e4⟩ := h1.set n ((L.count n + 1 : Nat) : Int)
  refine ⟨m', e1, ⟨_, e2, fun k => ?_⟩, e3, e4⟩
  rw [List.count_append, List.count_singleton]
  by_cases hk : k = n
  · subst hk
    simp
  · have : ¬ (k : Int) = (n : Int) := by omega
    rw [if_neg this, h2]
    have : (n == k) = false := by simpa using fun h => hk h.symm
    simp [this]
theorem Counts.grown {m M : Mem} {b : Nat} {L : List Nat} (h : Counts m b L) (hg : Grown m M) : Counts M b L := let ⟨c, h1, h2⟩ := h; ⟨c, h1.grown hg, h2⟩
theorem Counts.lt {m : Mem} {b : Nat} {L : List Nat} (h : Counts m b L) : b < m.bl.length := let ⟨c, h1, h2⟩ := h; h1.lt
theorem marks_none {f : Nat} {s : List UInt8} (h : Go.Lib.index s [61, 95] < 0) : marks f s = [] := by
  cases f with
  | zero => rfl
  | succ f => simp [marks, h]
theorem marks_some {f i : Nat} {s : List UInt8} (h : Go.Lib.index s [61, 95] = i) : marks (f + 1) s = pfx 18 0 (s.drop (i + 2)) ++ marks f (s.drop (i + 2)) := by
  have : ¬ (i : Int) < 0 := by omega
  simp [marks, h, this]
theorem allMarks_len {ll : List (List UInt8)} (hs : ∀ s ∈ ll, s.length ≤ 2000000) : (allMarks ll).length ≤ 36000000 * ll.length := by
  induction ll with
  | nil => simp [allMarks]
  | cons s ll ih =>
    have h1 := ih fun s h => hs s (List.mem_cons_of_mem _ h)
    have h2 := marks_len s.length s
    have h3 := hs s (List.mem_cons_self ..)
    simp only [allMarks, List.flatMap_cons, List.length_append, List.length_cons] at h1 ⊢
    omega
theorem allMarks_any {ll : List (List UInt8)} {n : Nat} (hn : n < 10 ^ 18) : ll.any (fun s => inB s (61 :: 95 :: dec n)) = true ↔ n ∈ allMarks ll := by
  simp only [allMarks, List.mem_flatMap, List.any_eq_true]
  exact ⟨fun ⟨s, h1, h2⟩ => ⟨s, h1, (marks_inB hn).2 h2⟩, fun ⟨s, h1, h2⟩ => ⟨s, h1, (marks_inB hn).1 h2⟩⟩
theorem c_bounce_Boundary (m : Mem) (x : EV) (ll : List (List UInt8)) (hx : ByteRows G m x ll) (hl : ll.length ≤ 2000000) (hs : ∀ s ∈ ll, s.length ≤ 2000000) (n : Nat) (h1 : n ∉ allMarks ll) (h2 : ∀ k, k < n → k ∈ allMarks ll) :
    Go.Ev.Comes T G f_bounce_Boundary [x] m none ⟨.val (.str (61 :: 95 :: dec n)), m, none⟩ := by
  refine comes2 T_bounce_Boundary rfl fun M hg hlen hlow => ?_
  have hl0 : m.bl.length ≤ M.low := by omega
  have hx := hx.grown hg
  have hL := allMarks_len hs
  have hn := holes n _ h2
  obtain ⟨a0, c0, e0, sx⟩ := hx.slice
  simp only [F_bounce_Boundary]
  simp +contextual only [vq, vc, ve, vv, vn, vl, ↓reduceIte, Nat.reduceEqDiff, Nat.reduceAdd, Nat.reduceMul, Nat.reduceSub, Nat.reduceLeDiff, Nat.reduceLT, Nat.reduceBEq, Nat.reduceBNe, reduceCtorEq, Int.reduceBEq, Int.reduceBNe, Int.reduceLT, Int.reduceLE, Int.reduceEq, Int.reduceToNat, Int.reduceAdd, Int.reduceSub, Int.reduceNeg]
  refine new_mk fun M1 e1 => ?_
  have hc0 : Counts M1 M.bl.length [] := ⟨_, MapI.new e1, fun n => by simp⟩
  have hg0 : Grown M M1 := by rw [e1]; exact Grown.rfl'.push
  have lo0 : m.bl.length ≤ M1.low := by rw [e1]; exact hl0
  have lx : lnbE x = some (.int .i64 ll.length) := by rw [sx]; rfl
  simp +contextual only [vq, vc, ve, vv, vn, vl, ↓reduceIte, Nat.reduceEqDiff, Nat.reduceAdd, Nat.reduceMul, Nat.reduceSub, Nat.reduceLeDiff, Nat.reduceLT, Nat.reduceBEq, Nat.reduceBNe, reduceCtorEq, Int.reduceBEq, Int.reduceBNe, Int.reduceLT, Int.reduceLE, Int.reduceEq, Int.reduceToNat, Int.reduceAdd, Int.reduceSub, Int.reduceNeg, lx]
  refine loop2 (fun q st => ∃ (i : Nat) (A : Fr) (N : Mem), st = ⟨A, N, [], none⟩ ∧ q = ll.length - i ∧ i ≤ ll.length ∧ A 3 = .map (some M.bl.length) ∧ A 13 = x ∧ A 14 = .int .i64 ll.length ∧ A 15 = .int .i64 (i : Nat) ∧ Grown M N ∧ m.bl.length ≤ N.low ∧ Counts N M.bl.length (allMarks (ll.take i))) ll.length ⟨0, _, M1, rfl, by omega, by omega, by simp +contextual only [vq, vc, ve, vv, vn, vl, ↓reduceIte, Nat.reduceEqDiff, Nat.reduceAdd, Nat.reduceMul, Nat.reduceSub, Nat.reduceLeDiff, Nat.reduceLT, Nat.reduceBEq, Nat.reduceBNe, reduceCtorEq, Int.reduceBEq, Int.reduceBNe, Int.reduceLT, Int.reduceLE, Int.reduceEq, Int.reduceToNat, Int.reduceAdd, Int.reduceSub, Int.reduceNeg], by simp +contextual only [vq, vc, ve, vv, vn, vl, ↓reduceIte, Nat.reduceEqDiff, Nat.reduceAdd, Nat.reduceMul, Nat.reduceSub, Nat.reduceLeDiff, Nat.reduceLT, Nat.reduceBEq, Nat.reduceBNe, reduceCtorEq, Int.reduceBEq, Int.reduceBNe, Int.reduceLT, Int.reduceLE, Int.reduceEq, Int.reduceToNat, Int.reduceAdd, Int.reduceSub, Int.reduceNeg], by simp +contextual only [vq, vc, ve, vv, vn, vl, ↓reduceIte, Nat.reduceEqDiff, Nat.reduceAdd, Nat.reduceMul, Nat.reduceSub, Nat.reduceLeDiff, Nat.reduceLT, Nat.reduceBEq, Nat.reduceBNe, reduceCtorEq, Int.reduceBEq, Int.reduceBNe, Int.reduceLT, Int.reduceLE, Int.reduceEq, Int.reduceToNat, Int.reduceAdd, Int.reduceSub, Int.reduceNeg], by simp +contextual only [vq, vc, ve, vv, vn, vl, ↓reduceIte, Nat.reduceEqDiff, Nat.reduceAdd, Nat.reduceMul, Nat.reduceSub, Nat.reduceLeDiff, Nat.reduceLT, Nat.reduceBEq, Nat.reduceBNe, reduceCtorEq, Int.reduceBEq, Int.reduceBNe, Int.reduceLT, Int.reduceLE, Int.reduceEq, Int.reduceToNat, Int.reduceAdd, Int.reduceSub, Int.reduceNeg]; rfl, hg0, lo0, by simpa [allMarks] using hc0⟩ fun J hJ q st hI => ?_
  obtain ⟨i, A, N, rfl, rfl, hi, A3, A13, A14, A15, hgN, hlN, hcN⟩ := hI
  by_cases hlt : i < ll.length
  · obtain ⟨a, cap, y, e, hy1, hy2, hy⟩ := hx.at hlt
    have hsi := hs _ (List.getElem_mem hlt)
    have hy1 := get_grown hgN hy1
    rw [e] at A13
    have hms : (allMarks (ll.take i) ++ marks ll[i].length ll[i]) = allMarks (ll.take (i + 1)) := by
      rw [List.take_succ_eq_append_getElem hlt]
      simp only [allMarks, List.flatMap_append, List.flatMap_cons, List.flatMap_nil, List.append_nil]
    simp +contextual only [vq, vc, ve, vv, vn, vl, ↓reduceIte, Nat.reduceEqDiff, Nat.reduceAdd, Nat.reduceMul, Nat.reduceSub, Nat.reduceLeDiff, Nat.reduceLT, Nat.reduceBEq, Nat.reduceBNe, reduceCtorEq, Int.reduceBEq, Int.reduceBNe, Int.reduceLT, Int.reduceLE, Int.reduceEq, Int.reduceToNat, Int.reduceAdd, Int.reduceSub, Int.reduceNeg, A13, A14, A15, hlt, hy1]
    refine loop2 (fun q st => ∃ (s : List UInt8) (y : EV) (L : List Nat) (B : Fr) (K : Mem), st = ⟨B, K, [], none⟩ ∧ s.length ≤ q ∧ s.length ≤ 2000000 ∧ B 3 = .map (some M.bl.length) ∧ B 5 = y ∧ B 13 = x ∧ B 14 = .int .i64 ll.length ∧ B 15 = .int .i64 (i : Nat) ∧ BytesAt G M y s ∧ L ++ marks q s = allMarks (ll.take (i + 1)) ∧ Grown M K ∧ m.bl.length ≤ K.low ∧ Counts K M.bl.length L) ll[i].length ⟨ll[i], y, allMarks (ll.take i), _, N, rfl, by omega, hsi, by simp +contextual only [vq, vc, ve, vv, vn, vl, ↓reduceIte, Nat.reduceEqDiff, Nat.reduceAdd, Nat.reduceMul, Nat.reduceSub, Nat.reduceLeDiff, Nat.reduceLT, Nat.reduceBEq, Nat.reduceBNe, reduceCtorEq, Int.reduceBEq, Int.reduceBNe, Int.reduceLT, Int.reduceLE, Int.reduceEq, Int.reduceToNat, Int.reduceAdd, Int.reduceSub, Int.reduceNeg, A3], by simp +contextual only [vq, vc, ve, vv, vn, vl, ↓reduceIte, Nat.reduceEqDiff, Nat.reduceAdd, Nat.reduceMul, Nat.reduceSub, Nat.reduceLeDiff, Nat.reduceLT, Nat.reduceBEq, Nat.reduceBNe, reduceCtorEq, Int.reduceBEq, Int.reduceBNe, Int.reduceLT, Int.reduceLE, Int.reduceEq, Int.reduceToNat, Int.reduceAdd, Int.reduceSub, Int.reduceNeg], by simp +contextual only [vq, vc, ve, vv, vn, vl, ↓reduceIte, Nat.reduceEqDiff, Nat.reduceAdd, Nat.reduceMul, Nat.reduceSub, Nat.reduceLeDiff, Nat.reduceLT, Nat.reduceBEq, Nat.reduceBNe, reduceCtorEq, Int.reduceBEq, Int.reduceBNe, Int.reduceLT, Int.reduceLE, Int.reduceEq, Int.reduceToNat, Int.reduceAdd, Int.reduceSub, Int.reduceNeg, A13, e], by simp +contextual only [vq, vc, ve, vv, vn, vl, ↓reduceIte, Nat.reduceEqDiff, Nat.reduceAdd, Nat.reduceMul, Nat.reduceSub, Nat.reduceLeDiff, Nat.reduceLT, Nat.reduceBEq, Nat.reduceBNe, reduceCtorEq, Int.reduceBEq, Int.reduceBNe, Int.reduceLT, Int.reduceLE, Int.reduceEq, Int.reduceToNat, Int.reduceAdd, Int.reduceSub, Int.reduceNeg, A14], by simp +contextual only [vq, vc, ve, vv, vn, vl, ↓reduceIte, Nat.reduceEqDiff, Nat.reduceAdd, Nat.reduceMul, Nat.reduceSub, Nat.reduceLeDiff, Nat.reduceLT, Nat.reduceBEq, Nat.reduceBNe, reduceCtorEq, Int.reduceBEq, Int.reduceBNe, Int.reduceLT, Int.reduceLE, Int.reduceEq, Int.reduceToNat, Int.reduceAdd, Int.reduceSub, Int.reduceNeg, A15], hy, hms, hgN, hlN, hcN⟩ fun J2 hJ2 q st hI => ?_
    obtain ⟨s, y, L, B, K, rfl, hsq, hs2, B3, B5, B13, B14, B15, hy, hmL, hgK, hlK, hcK⟩ := hI
    simp +contextual only [vq, vc, ve, vv, vn, vl, ↓reduceIte, Nat.reduceEqDiff, Nat.reduceAdd, Nat.reduceMul, Nat.reduceSub, Nat.reduceLeDiff, Nat.reduceLT, Nat.reduceBEq, Nat.reduceBNe, reduceCtorEq, Int.reduceBEq, Int.reduceBNe, Int.reduceLT, Int.reduceLE, Int.reduceEq, Int.reduceToNat, Int.reduceAdd, Int.reduceSub, Int.reduceNeg, B5]
    refine new_mk fun K1 k1 => ?_
    have hsep : BytesAt G K1 (.slice (some ⟨.mem K.bl.length 0, 0⟩) 2 2 1) [61, 95] := bytes_new (s := [61, 95]) k1
    have hR : RowIs K1 K.bl.length (bytesE [61, 95]) := by rw [k1]; exact row_push _ _
    have hmk := mk_row (o := 0) (n := 2) (c := 2) (z := 1) hR (by omega)
    have hgK1 : Grown K K1 := by rw [k1]; exact Grown.rfl'.push
    have hlK1 : m.bl.length ≤ K1.low := by rw [k1]; exact hlK
    have hcK1 := hcK.grown hgK1
    have hgM1 := hgK.trans hgK1
    rcases c_bytes_Cut K1 y _ s [61, 95] (hy.grown hgM1) hsep (by simp) (by omega) with ⟨hneg, hcut⟩ | ⟨p, u, v, hpos, hroom, hcut, hparts⟩
    · rw [marks_none hneg, List.append_nil] at hmL
      subst hmL
      simp +contextual only [vq, vc, ve, vv, vn, vl, ↓reduceIte, Nat.reduceEqDiff, Nat.reduceAdd, Nat.reduceMul, Nat.reduceSub, Nat.reduceLeDiff, Nat.reduceLT, Nat.reduceBEq, Nat.reduceBNe, reduceCtorEq, Int.reduceBEq, Int.reduceBNe, Int.reduceLT, Int.reduceLE, Int.reduceEq, Int.reduceToNat, Int.reduceAdd, Int.reduceSub, Int.reduceNeg, hmk, B5, callR_val hcut, B15, wsucc hlt (by omega)]
      exact again2 hJ (ll.length - (i + 1)) (by omega) ⟨i + 1, _, K1, rfl, rfl, by omega, by simp +contextual only [vq, vc, ve, vv, vn, vl, ↓reduceIte, Nat.reduceEqDiff, Nat.reduceAdd, Nat.reduceMul, Nat.reduceSub, Nat.reduceLeDiff, Nat.reduceLT, Nat.reduceBEq, Nat.reduceBNe, reduceCtorEq, Int.reduceBEq, Int.reduceBNe, Int.reduceLT, Int.reduceLE, Int.reduceEq, Int.reduceToNat, Int.reduceAdd, Int.reduceSub, Int.reduceNeg, B3], by simp +contextual only [vq, vc, ve, vv, vn, vl, ↓reduceIte, Nat.reduceEqDiff, Nat.reduceAdd, Nat.reduceMul, Nat.reduceSub, Nat.reduceLeDiff, Nat.reduceLT, Nat.reduceBEq, Nat.reduceBNe, reduceCtorEq, Int.reduceBEq, Int.reduceBNe, Int.reduceLT, Int.reduceLE, Int.reduceEq, Int.reduceToNat, Int.reduceAdd, Int.reduceSub, Int.reduceNeg, B13], by simp +contextual only [vq, vc, ve, vv, vn, vl, ↓reduceIte, Nat.reduceEqDiff, Nat.reduceAdd, Nat.reduceMul, Nat.reduceSub, Nat.reduceLeDiff, Nat.reduceLT, Nat.reduceBEq, Nat.reduceBNe, reduceCtorEq, Int.reduceBEq, Int.reduceBNe, Int.reduceLT, Int.reduceLE, Int.reduceEq, Int.reduceToNat, Int.reduceAdd, Int.reduceSub, Int.reduceNeg, B14], by simp +contextual only [vq, vc, ve, vv, vn, vl, ↓reduceIte, Nat.reduceEqDiff, Nat.reduceAdd, Nat.reduceMul, Nat.reduceSub, Nat.reduceLeDiff, Nat.reduceLT, Nat.reduceBEq, Nat.reduceBNe, reduceCtorEq, Int.reduceBEq, Int.reduceBNe, Int.reduceLT, Int.reduceLE, Int.reduceEq, Int.reduceToNat, Int.reduceAdd, Int.reduceSub, Int.reduceNeg], hgM1, hlK1, hcK1⟩
    · obtain ⟨_, hv⟩ := hparts M hy
      simp only [List.length_cons, List.length_nil, Nat.zero_add, Nat.reduceAdd] at hv hroom
      obtain ⟨q, rfl⟩ : ∃ q', q = q' + 1 := ⟨q - 1, by omega⟩
      rw [marks_some hpos] at hmL
      simp +contextual only [vq, vc, ve, vv, vn, vl, ↓reduceIte, Nat.reduceEqDiff, Nat.reduceAdd, Nat.reduceMul, Nat.reduceSub, Nat.reduceLeDiff, Nat.reduceLT, Nat.reduceBEq, Nat.reduceBNe, reduceCtorEq, Int.reduceBEq, Int.reduceBNe, Int.reduceLT, Int.reduceLE, Int.reduceEq, Int.reduceToNat, Int.reduceAdd, Int.reduceSub, Int.reduceNeg, hmk, B5, callR_val hcut]
      have hrl : (s.drop (p + 2)).length = s.length - (p + 2) := by simp
      generalize hr : s.drop (p + 2) = r at hv hmL hrl
      obtain ⟨av, cv, ev, sv⟩ := hv.slice
      have lv : lnbE v = some (.int .i64 r.length) := by rw [sv]; rfl
      refine loop2 (fun z st => ∃ (j a : Nat) (L : List Nat) (C : Fr) (K : Mem), st = ⟨C, K, [], none⟩ ∧ z = 18 - j ∧ j ≤ 18 ∧ j ≤ r.length ∧ a < 10 ^ j ∧ C 3 = .map (some M.bl.length) ∧ C 5 = v ∧ C 7 = v ∧ C 9 = .int .u64 (a : Nat) ∧ C 10 = .int .i64 (j : Nat) ∧ C 13 = x ∧ C 14 = .int .i64 ll.length ∧ C 15 = .int .i64 (i : Nat) ∧ L ++ (pfx (18 - j) a (r.drop j) ++ marks q r) = allMarks (ll.take (i + 1)) ∧ Grown M K ∧ m.bl.length ≤ K.low ∧ Counts K M.bl.length L) 18 ⟨0, 0, L, _, K1, rfl, by omega, by omega, by omega, by omega, by simp +contextual only [vq, vc, ve, vv, vn, vl, ↓reduceIte, Nat.reduceEqDiff, Nat.reduceAdd, Nat.reduceMul, Nat.reduceSub, Nat.reduceLeDiff, Nat.reduceLT, Nat.reduceBEq, Nat.reduceBNe, reduceCtorEq, Int.reduceBEq, Int.reduceBNe, Int.reduceLT, Int.reduceLE, Int.reduceEq, Int.reduceToNat, Int.reduceAdd, Int.reduceSub, Int.reduceNeg, B3], by simp +contextual only [vq, vc, ve, vv, vn, vl, ↓reduceIte, Nat.reduceEqDiff, Nat.reduceAdd, Nat.reduceMul, Nat.reduceSub, Nat.reduceLeDiff, Nat.reduceLT, Nat.reduceBEq, Nat.reduceBNe, reduceCtorEq, Int.reduceBEq, Int.reduceBNe, Int.reduceLT, Int.reduceLE, Int.reduceEq, Int.reduceToNat, Int.reduceAdd, Int.reduceSub, Int.reduceNeg], by simp +contextual only [vq, vc, ve, vv, vn, vl, ↓reduceIte, Nat.reduceEqDiff, Nat.reduceAdd, Nat.reduceMul, Nat.reduceSub, Nat.reduceLeDiff, Nat.reduceLT, Nat.reduceBEq, Nat.reduceBNe, reduceCtorEq, Int.reduceBEq, Int.reduceBNe, Int.reduceLT, Int.reduceLE, Int.reduceEq, Int.reduceToNat, Int.reduceAdd, Int.reduceSub, Int.reduceNeg], by simp +contextual only [vq, vc, ve, vv, vn, vl, ↓reduceIte, Nat.reduceEqDiff, Nat.reduceAdd, Nat.reduceMul, Nat.reduceSub, Nat.reduceLeDiff, Nat.reduceLT, Nat.reduceBEq, Nat.reduceBNe, reduceCtorEq, Int.reduceBEq, Int.reduceBNe, Int.reduceLT, Int.reduceLE, Int.reduceEq, Int.reduceToNat, Int.reduceAdd, Int.reduceSub, Int.reduceNeg]; rfl, by simp +contextual only [vq, vc, ve, vv, vn, vl, ↓reduceIte, Nat.reduceEqDiff, Nat.reduceAdd, Nat.reduceMul, Nat.reduceSub, Nat.reduceLeDiff, Nat.reduceLT, Nat.reduceBEq, Nat.reduceBNe, reduceCtorEq, Int.reduceBEq, Int.reduceBNe, Int.reduceLT, Int.reduceLE, Int.reduceEq, Int.reduceToNat, Int.reduceAdd, Int.reduceSub, Int.reduceNeg]; rfl, by simp +contextual only [vq, vc, ve, vv, vn, vl, ↓reduceIte, Nat.reduceEqDiff, Nat.reduceAdd, Nat.reduceMul, Nat.reduceSub, Nat.reduceLeDiff, Nat.reduceLT, Nat.reduceBEq, Nat.reduceBNe, reduceCtorEq, Int.reduceBEq, Int.reduceBNe, Int.reduceLT, Int.reduceLE, Int.reduceEq, Int.reduceToNat, Int.reduceAdd, Int.reduceSub, Int.reduceNeg, B13], by simp +contextual only [vq, vc, ve, vv, vn, vl, ↓reduceIte, Nat.reduceEqDiff, Nat.reduceAdd, Nat.reduceMul, Nat.reduceSub, Nat.reduceLeDiff, Nat.reduceLT, Nat.reduceBEq, Nat.reduceBNe, reduceCtorEq, Int.reduceBEq, Int.reduceBNe, Int.reduceLT, Int.reduceLE, Int.reduceEq, Int.reduceToNat, Int.reduceAdd, Int.reduceSub, Int.reduceNeg, B14], by simp +contextual only [vq, vc, ve, vv, vn, vl, ↓reduceIte, Nat.reduceEqDiff, Nat.reduceAdd, Nat.reduceMul, Nat.reduceSub, Nat.reduceLeDiff, Nat.reduceLT, Nat.reduceBEq, Nat.reduceBNe, reduceCtorEq, Int.reduceBEq, Int.reduceBNe, Int.reduceLT, Int.reduceLE, Int.reduceEq, Int.reduceToNat, Int.reduceAdd, Int.reduceSub, Int.reduceNeg, B15], by simpa using hmL, hgM1, hlK1, hcK1⟩ fun J3 hJ3 z st hI => ?_
      obtain ⟨j, a, L, C, K, rfl, rfl, hj18, hjr, haj, C3, C5, C7, C9, C10, C13, C14, C15, hmL, hgK, hlK, hcK⟩ := hI
      have cntK : ∀ k, L.count k ≤ 100000000000000 := fun k => by
        have h1 := List.count_le_length (a := k) (l := L)
        have h2 := congrArg List.length hmL
        have h3 := allMarks_len (ll := ll.take (i + 1)) fun s h => hs s (List.mem_of_mem_take h)
        simp only [List.length_append, List.length_take] at h2 h3
        omega
      have leave : ∀ (L : List Nat) (K : Mem) (C : Fr) (Q : Post), L ++ marks q r = allMarks (ll.take (i + 1)) → Grown M K → m.bl.length ≤ K.low → Counts K M.bl.length L → C 3 = .map (some M.bl.length) → C 5 = v → C 13 = x → C 14 = .int .i64 ll.length → C 15 = .int .i64 (i : Nat) → againE J2 (q + 1) Q .normal ⟨C, K, [], none⟩ := fun L K C Q hm g l h C3 C5 C13 C14 C15 => again2 hJ2 q (by omega) ⟨r, v, L, C, K, rfl, by omega, by omega, C3, C5, C13, C14, C15, hv, hm, g, l, h⟩
      have e18 : ((j : Int) < 18) = (j < 18) := propext (by omega)
      by_cases hjl : j < r.length
      · by_cases hj : j < 18
        · obtain ⟨ah, caph, eh, _, _, _, hb⟩ := (hv.grown hgK).pos (by rintro rfl; simp at hjl)
          rw [eh] at C7
          have hb := hb j hjl
          have hcI := c_octet_Is K 2 r[j].toNat
          rw [isF_digit] at hcI
          have hdrop : r.drop j = r[j] :: r.drop (j + 1) := List.drop_eq_getElem_cons hjl
          obtain ⟨z, hz⟩ : ∃ z, 18 - j = z + 1 := ⟨17 - j, by omega⟩
          cases hd : isDg r[j] with
          | false =>
            rw [hd] at hcI
            have hm0 : pfx (18 - j) a (r.drop j) = [] := by rw [hdrop, hz]; simp [pfx, hd]
            rw [hm0, List.nil_append] at hmL
            simp +contextual only [vq, vc, ve, vv, vn, vl, ↓reduceIte, Nat.reduceEqDiff, Nat.reduceAdd, Nat.reduceMul, Nat.reduceSub, Nat.reduceLeDiff, Nat.reduceLT, Nat.reduceBEq, Nat.reduceBNe, reduceCtorEq, Int.reduceBEq, Int.reduceBNe, Int.reduceLT, Int.reduceLE, Int.reduceEq, Int.reduceToNat, Int.reduceAdd, Int.reduceSub, Int.reduceNeg, C7, C10, hjl, hj, e18, hb, callR_val hcI]
            exact leave L K _ _ hmL hgK hlK hcK (by simp +contextual only [vq, vc, ve, vv, vn, vl, ↓reduceIte, Nat.reduceEqDiff, Nat.reduceAdd, Nat.reduceMul, Nat.reduceSub, Nat.reduceLeDiff, Nat.reduceLT, Nat.reduceBEq, Nat.reduceBNe, reduceCtorEq, Int.reduceBEq, Int.reduceBNe, Int.reduceLT, Int.reduceLE, Int.reduceEq, Int.reduceToNat, Int.reduceAdd, Int.reduceSub, Int.reduceNeg, C3]) (by simp +contextual only [vq, vc, ve, vv, vn, vl, ↓reduceIte, Nat.reduceEqDiff, Nat.reduceAdd, Nat.reduceMul, Nat.reduceSub, Nat.reduceLeDiff, Nat.reduceLT, Nat.reduceBEq, Nat.reduceBNe, reduceCtorEq, Int.reduceBEq, Int.reduceBNe, Int.reduceLT, Int.reduceLE, Int.reduceEq, Int.reduceToNat, Int.reduceAdd, Int.reduceSub, Int.reduceNeg, C5]) (by simp +contextual only [vq, vc, ve, vv, vn, vl, ↓reduceIte, Nat.reduceEqDiff, Nat.reduceAdd, Nat.reduceMul, Nat.reduceSub, Nat.reduceLeDiff, Nat.reduceLT, Nat.reduceBEq, Nat.reduceBNe, reduceCtorEq, Int.reduceBEq, Int.reduceBNe, Int.reduceLT, Int.reduceLE, Int.reduceEq, Int.reduceToNat, Int.reduceAdd, Int.reduceSub, Int.reduceNeg, C13]) (by simp +contextual only [vq, vc, ve, vv, vn, vl, ↓reduceIte, Nat.reduceEqDiff, Nat.reduceAdd, Nat.reduceMul, Nat.reduceSub, Nat.reduceLeDiff, Nat.reduceLT, Nat.reduceBEq, Nat.reduceBNe, reduceCtorEq, Int.reduceBEq, Int.reduceBNe, Int.reduceLT, Int.reduceLE, Int.reduceEq, Int.reduceToNat, Int.reduceAdd, Int.reduceSub, Int.reduceNeg, C14]) (by simp +contextual only [vq, vc, ve, vv, vn, vl, ↓reduceIte, Nat.reduceEqDiff, Nat.reduceAdd, Nat.reduceMul, Nat.reduceSub, Nat.reduceLeDiff, Nat.reduceLT, Nat.reduceBEq, Nat.reduceBNe, reduceCtorEq, Int.reduceBEq, Int.reduceBNe, Int.reduceLT, Int.reduceLE, Int.reduceEq, Int.reduceToNat, Int.reduceAdd, Int.reduceSub, Int.reduceNeg, C15])
          | true =>
            rw [hd] at hcI
            have hpow : 10 ^ (j + 1) ≤ 10 ^ 18 := Nat.pow_le_pow_right (by omega) (by omega)
            rw [Nat.pow_succ] at hpow
            have hdg := hd
            simp [isDg] at hdg
            have hbl := r[j].toNat_lt
            have w1 : IntKind.u64.wrap (IntKind.u64.wrap (10 * (a : Int)) + IntKind.u64.wrap (IntKind.u8.wrap ((r[j].toNat : Int) - 48))) = ((10 * a + (r[j].toNat - 48) : Nat) : Int) := by
              rw [wrap8 (by omega) (by omega), wrapu64 (z := 10 * (a : Int)) (by omega) (by omega), wrapu64 (z := (r[j].toNat : Int) - 48) (by omega) (by omega), wrapu64 (by omega) (by omega)]
              omega
            have hnx : pfx (18 - j) a (r.drop j) = (10 * a + (r[j].toNat - 48)) :: (if 10 * a + (r[j].toNat - 48) = 0 then [] else pfx (18 - (j + 1)) (10 * a + (r[j].toNat - 48)) (r.drop (j + 1))) := by
              rw [hdrop, hz, show 18 - (j + 1) = z by omega]; simp [pfx, hd]
            rw [hnx] at hmL
            have ha' : 10 * a + (r[j].toNat - 48) < 10 ^ (j + 1) := by rw [Nat.pow_succ]; omega
            generalize 10 * a + (r[j].toNat - 48) = a' at w1 hmL ha'
            have w2 : IntKind.i64.wrap ((L.count a' : Nat) + 1 : Int) = ((L.count a' + 1 : Nat) : Int) := wsucc (n := L.count a' + 1) (by omega) (by have := cntK a'; omega)
            obtain ⟨K2, s1, s2, s3, s4⟩ := hcK.add a'
            have gK2 : Grown M K2 := (Stays.but s3 (Nat.le_refl _) (fun h => by omega)).grown hgK (Nat.le_refl _)
            have lK2 : m.bl.length ≤ K2.low := by omega
            by_cases h0 : a' = 0
            · rw [if_pos h0, ← List.append_assoc] at hmL
              have z0 : (a' == 0) = true := by simpa using h0
              simp +contextual only [vq, vc, ve, vv, vn, vl, ↓reduceIte, Nat.reduceEqDiff, Nat.reduceAdd, Nat.reduceMul, Nat.reduceSub, Nat.reduceLeDiff, Nat.reduceLT, Nat.reduceBEq, Nat.reduceBNe, reduceCtorEq, Int.reduceBEq, Int.reduceBNe, Int.reduceLT, Int.reduceLE, Int.reduceEq, Int.reduceToNat, Int.reduceAdd, Int.reduceSub, Int.reduceNeg, C3, C7, C9, C10, hjl, hj, e18, hb, callR_val hcI, w1, hcK.look a', w2, s1, z0]
              exact leave _ K2 _ _ hmL gK2 lK2 s2 (by simp +contextual only [vq, vc, ve, vv, vn, vl, ↓reduceIte, Nat.reduceEqDiff, Nat.reduceAdd, Nat.reduceMul, Nat.reduceSub, Nat.reduceLeDiff, Nat.reduceLT, Nat.reduceBEq, Nat.reduceBNe, reduceCtorEq, Int.reduceBEq, Int.reduceBNe, Int.reduceLT, Int.reduceLE, Int.reduceEq, Int.reduceToNat, Int.reduceAdd, Int.reduceSub, Int.reduceNeg, C3]) (by simp +contextual only [vq, vc, ve, vv, vn, vl, ↓reduceIte, Nat.reduceEqDiff, Nat.reduceAdd, Nat.reduceMul, Nat.reduceSub, Nat.reduceLeDiff, Nat.reduceLT, Nat.reduceBEq, Nat.reduceBNe, reduceCtorEq, Int.reduceBEq, Int.reduceBNe, Int.reduceLT, Int.reduceLE, Int.reduceEq, Int.reduceToNat, Int.reduceAdd, Int.reduceSub, Int.reduceNeg, C5]) (by simp +contextual only [vq, vc, ve, vv, vn, vl, ↓reduceIte, Nat.reduceEqDiff, Nat.reduceAdd, Nat.reduceMul, Nat.reduceSub, Nat.reduceLeDiff, Nat.reduceLT, Nat.reduceBEq, Nat.reduceBNe, reduceCtorEq, Int.reduceBEq, Int.reduceBNe, Int.reduceLT, Int.reduceLE, Int.reduceEq, Int.reduceToNat, Int.reduceAdd, Int.reduceSub, Int.reduceNeg, C13]) (by simp +contextual only [vq, vc, ve, vv, vn, vl, ↓reduceIte, Nat.reduceEqDiff, Nat.reduceAdd, Nat.reduceMul, Nat.reduceSub, Nat.reduceLeDiff, Nat.reduceLT, Nat.reduceBEq, Nat.reduceBNe, reduceCtorEq, Int.reduceBEq, Int.reduceBNe, Int.reduceLT, Int.reduceLE, Int.reduceEq, Int.reduceToNat, Int.reduceAdd, Int.reduceSub, Int.reduceNeg, C14]) (by simp +contextual only [vq, vc, ve, vv, vn, vl, ↓reduceIte, Nat.reduceEqDiff, Nat.reduceAdd, Nat.reduceMul, Nat.reduceSub, Nat.reduceLeDiff, Nat.reduceLT, Nat.reduceBEq, Nat.reduceBNe, reduceCtorEq, Int.reduceBEq, Int.reduceBNe, Int.reduceLT, Int.reduceLE, Int.reduceEq, Int.reduceToNat, Int.reduceAdd, Int.reduceSub, Int.reduceNeg, C15])
            · rw [if_neg h0, List.cons_append, List.append_cons] at hmL
              have z0 : (a' == 0) = false := by simpa using h0
              simp +contextual only [vq, vc, ve, vv, vn, vl, ↓reduceIte, Nat.reduceEqDiff, Nat.reduceAdd, Nat.reduceMul, Nat.reduceSub, Nat.reduceLeDiff, Nat.reduceLT, Nat.reduceBEq, Nat.reduceBNe, reduceCtorEq, Int.reduceBEq, Int.reduceBNe, Int.reduceLT, Int.reduceLE, Int.reduceEq, Int.reduceToNat, Int.reduceAdd, Int.reduceSub, Int.reduceNeg, C3, C7, C9, C10, hjl, hj, e18, hb, callR_val hcI, w1, hcK.look a', w2, s1, z0, wsucc hjl (by omega)]
              exact again2 hJ3 (18 - (j + 1)) (by omega) ⟨j + 1, a', L ++ [a'], _, K2, rfl, rfl, by omega, by omega, ha', by simp +contextual only [vq, vc, ve, vv, vn, vl, ↓reduceIte, Nat.reduceEqDiff, Nat.reduceAdd, Nat.reduceMul, Nat.reduceSub, Nat.reduceLeDiff, Nat.reduceLT, Nat.reduceBEq, Nat.reduceBNe, reduceCtorEq, Int.reduceBEq, Int.reduceBNe, Int.reduceLT, Int.reduceLE, Int.reduceEq, Int.reduceToNat, Int.reduceAdd, Int.reduceSub, Int.reduceNeg, C3], by simp +contextual only [vq, vc, ve, vv, vn, vl, ↓reduceIte, Nat.reduceEqDiff, Nat.reduceAdd, Nat.reduceMul, Nat.reduceSub, Nat.reduceLeDiff, Nat.reduceLT, Nat.reduceBEq, Nat.reduceBNe, reduceCtorEq, Int.reduceBEq, Int.reduceBNe, Int.reduceLT, Int.reduceLE, Int.reduceEq, Int.reduceToNat, Int.reduceAdd, Int.reduceSub, Int.reduceNeg, C5], by simp +contextual only [vq, vc, ve, vv, vn, vl, ↓reduceIte, Nat.reduceEqDiff, Nat.reduceAdd, Nat.reduceMul, Nat.reduceSub, Nat.reduceLeDiff, Nat.reduceLT, Nat.reduceBEq, Nat.reduceBNe, reduceCtorEq, Int.reduceBEq, Int.reduceBNe, Int.reduceLT, Int.reduceLE, Int.reduceEq, Int.reduceToNat, Int.reduceAdd, Int.reduceSub, Int.reduceNeg, C7, eh], by simp +contextual only [vq, vc, ve, vv, vn, vl, ↓reduceIte, Nat.reduceEqDiff, Nat.reduceAdd, Nat.reduceMul, Nat.reduceSub, Nat.reduceLeDiff, Nat.reduceLT, Nat.reduceBEq, Nat.reduceBNe, reduceCtorEq, Int.reduceBEq, Int.reduceBNe, Int.reduceLT, Int.reduceLE, Int.reduceEq, Int.reduceToNat, Int.reduceAdd, Int.reduceSub, Int.reduceNeg], by simp +contextual only [vq, vc, ve, vv, vn, vl, ↓reduceIte, Nat.reduceEqDiff, Nat.reduceAdd, Nat.reduceMul, Nat.reduceSub, Nat.reduceLeDiff, Nat.reduceLT, Nat.reduceBEq, Nat.reduceBNe, reduceCtorEq, Int.reduceBEq, Int.reduceBNe, Int.reduceLT, Int.reduceLE, Int.reduceEq, Int.reduceToNat, Int.reduceAdd, Int.reduceSub, Int.reduceNeg], by simp +contextual only [vq, vc, ve, vv, vn, vl, ↓reduceIte, Nat.reduceEqDiff, Nat.reduceAdd, Nat.reduceMul, Nat.reduceSub, Nat.reduceLeDiff, Nat.reduceLT, Nat.reduceBEq, Nat.reduceBNe, reduceCtorEq, Int.reduceBEq, Int.reduceBNe, Int.reduceLT, Int.reduceLE, Int.reduceEq, Int.reduceToNat, Int.reduceAdd, Int.reduceSub, Int.reduceNeg, C13], by simp +contextual only [vq, vc, ve, vv, vn, vl, ↓reduceIte, Nat.reduceEqDiff, Nat.reduceAdd, Nat.reduceMul, Nat.reduceSub, Nat.reduceLeDiff, Nat.reduceLT, Nat.reduceBEq, Nat.reduceBNe, reduceCtorEq, Int.reduceBEq, Int.reduceBNe, Int.reduceLT, Int.reduceLE, Int.reduceEq, Int.reduceToNat, Int.reduceAdd, Int.reduceSub, Int.reduceNeg, C14], by simp +contextual only [vq, vc, ve, vv, vn, vl, ↓reduceIte, Nat.reduceEqDiff, Nat.reduceAdd, Nat.reduceMul, Nat.reduceSub, Nat.reduceLeDiff, Nat.reduceLT, Nat.reduceBEq, Nat.reduceBNe, reduceCtorEq, Int.reduceBEq, Int.reduceBNe, Int.reduceLT, Int.reduceLE, Int.reduceEq, Int.reduceToNat, Int.reduceAdd, Int.reduceSub, Int.reduceNeg, C15], hmL, gK2, lK2, s2⟩
        · have hm0 : pfx (18 - j) a (r.drop j) = [] := by rw [show 18 - j = 0 by omega]; rfl
          rw [hm0, List.nil_append] at hmL
          simp +contextual only [vq, vc, ve, vv, vn, vl, ↓reduceIte, Nat.reduceEqDiff, Nat.reduceAdd, Nat.reduceMul, Nat.reduceSub, Nat.reduceLeDiff, Nat.reduceLT, Nat.reduceBEq, Nat.reduceBNe, reduceCtorEq, Int.reduceBEq, Int.reduceBNe, Int.reduceLT, Int.reduceLE, Int.reduceEq, Int.reduceToNat, Int.reduceAdd, Int.reduceSub, Int.reduceNeg, C7, C10, hjl, hj, e18, lv]
          exact leave L K _ _ hmL hgK hlK hcK (by simp +contextual only [vq, vc, ve, vv, vn, vl, ↓reduceIte, Nat.reduceEqDiff, Nat.reduceAdd, Nat.reduceMul, Nat.reduceSub, Nat.reduceLeDiff, Nat.reduceLT, Nat.reduceBEq, Nat.reduceBNe, reduceCtorEq, Int.reduceBEq, Int.reduceBNe, Int.reduceLT, Int.reduceLE, Int.reduceEq, Int.reduceToNat, Int.reduceAdd, Int.reduceSub, Int.reduceNeg, C3]) (by simp +contextual only [vq, vc, ve, vv, vn, vl, ↓reduceIte, Nat.reduceEqDiff, Nat.reduceAdd, Nat.reduceMul, Nat.reduceSub, Nat.reduceLeDiff, Nat.reduceLT, Nat.reduceBEq, Nat.reduceBNe, reduceCtorEq, Int.reduceBEq, Int.reduceBNe, Int.reduceLT, Int.reduceLE, Int.reduceEq, Int.reduceToNat, Int.reduceAdd, Int.reduceSub, Int.reduceNeg, C5]) (by simp +contextual only [vq, vc, ve, vv, vn, vl, ↓reduceIte, Nat.reduceEqDiff, Nat.reduceAdd, Nat.reduceMul, Nat.reduceSub, Nat.reduceLeDiff, Nat.reduceLT, Nat.reduceBEq, Nat.reduceBNe, reduceCtorEq, Int.reduceBEq, Int.reduceBNe, Int.reduceLT, Int.reduceLE, Int.reduceEq, Int.reduceToNat, Int.reduceAdd, Int.reduceSub, Int.reduceNeg, C13]) (by simp +contextual only [vq, vc, ve, vv, vn, vl, ↓reduceIte, Nat.reduceEqDiff, Nat.reduceAdd, Nat.reduceMul, Nat.reduceSub, Nat.reduceLeDiff, Nat.reduceLT, Nat.reduceBEq, Nat.reduceBNe, reduceCtorEq, Int.reduceBEq, Int.reduceBNe, Int.reduceLT, Int.reduceLE, Int.reduceEq, Int.reduceToNat, Int.reduceAdd, Int.reduceSub, Int.reduceNeg, C14]) (by simp +contextual only [vq, vc, ve, vv, vn, vl, ↓reduceIte, Nat.reduceEqDiff, Nat.reduceAdd, Nat.reduceMul, Nat.reduceSub, Nat.reduceLeDiff, Nat.reduceLT, Nat.reduceBEq, Nat.reduceBNe, reduceCtorEq, Int.reduceBEq, Int.reduceBNe, Int.reduceLT, Int.reduceLE, Int.reduceEq, Int.reduceToNat, Int.reduceAdd, Int.reduceSub, Int.reduceNeg, C15])
      · have hm0 : pfx (18 - j) a (r.drop j) = [] := by
          rw [List.drop_eq_nil_of_le (by omega)]
          cases 18 - j <;> rfl
        rw [hm0, List.nil_append] at hmL
        simp +contextual only [vq, vc, ve, vv, vn, vl, ↓reduceIte, Nat.reduceEqDiff, Nat.reduceAdd, Nat.reduceMul, Nat.reduceSub, Nat.reduceLeDiff, Nat.reduceLT, Nat.reduceBEq, Nat.reduceBNe, reduceCtorEq, Int.reduceBEq, Int.reduceBNe, Int.reduceLT, Int.reduceLE, Int.reduceEq, Int.reduceToNat, Int.reduceAdd, Int.reduceSub, Int.reduceNeg, C7, C10, hjl, lv]
        exact leave L K _ _ hmL hgK hlK hcK (by simp +contextual only [vq, vc, ve, vv, vn, vl, ↓reduceIte, Nat.reduceEqDiff, Nat.reduceAdd, Nat.reduceMul, Nat.reduceSub, Nat.reduceLeDiff, Nat.reduceLT, Nat.reduceBEq, Nat.reduceBNe, reduceCtorEq, Int.reduceBEq, Int.reduceBNe, Int.reduceLT, Int.reduceLE, Int.reduceEq, Int.reduceToNat, Int.reduceAdd, Int.reduceSub, Int.reduceNeg, C3]) (by simp +contextual only [vq, vc, ve, vv, vn, vl, ↓reduceIte, Nat.reduceEqDiff, Nat.reduceAdd, Nat.reduceMul, Nat.reduceSub, Nat.reduceLeDiff, Nat.reduceLT, Nat.reduceBEq, Nat.reduceBNe, reduceCtorEq, Int.reduceBEq, Int.reduceBNe, Int.reduceLT, Int.reduceLE, Int.reduceEq, Int.reduceToNat, Int.reduceAdd, Int.reduceSub, Int.reduceNeg, C5]) (by simp +contextual only [vq, vc, ve, vv, vn, vl, ↓reduceIte, Nat.reduceEqDiff, Nat.reduceAdd, Nat.reduceMul, Nat.reduceSub, Nat.reduceLeDiff, Nat.reduceLT, Nat.reduceBEq, Nat.reduceBNe, reduceCtorEq, Int.reduceBEq, Int.reduceBNe, Int.reduceLT, Int.reduceLE, Int.reduceEq, Int.reduceToNat, Int.reduceAdd, Int.reduceSub, Int.reduceNeg, C13]) (by simp +contextual only [vq, vc, ve, vv, vn, vl, ↓reduceIte, Nat.reduceEqDiff, Nat.reduceAdd, Nat.reduceMul, Nat.reduceSub, Nat.reduceLeDiff, Nat.reduceLT, Nat.reduceBEq, Nat.reduceBNe, reduceCtorEq, Int.reduceBEq, Int.reduceBNe, Int.reduceLT, Int.reduceLE, Int.reduceEq, Int.reduceToNat, Int.reduceAdd, Int.reduceSub, Int.reduceNeg, C14]) (by simp +contextual only [vq, vc, ve, vv, vn, vl, ↓reduceIte, Nat.reduceEqDiff, Nat.reduceAdd, Nat.reduceMul, Nat.reduceSub, Nat.reduceLeDiff, Nat.reduceLT, Nat.reduceBEq, Nat.reduceBNe, reduceCtorEq, Int.reduceBEq, Int.reduceBNe, Int.reduceLT, Int.reduceLE, Int.reduceEq, Int.reduceToNat, Int.reduceAdd, Int.reduceSub, Int.reduceNeg, C15])
  · have : i = ll.length := by omega
    subst this
    rw [List.take_length] at hcN
    simp +contextual only [vq, vc, ve, vv, vn, vl, ↓reduceIte, Nat.reduceEqDiff, Nat.reduceAdd, Nat.reduceMul, Nat.reduceSub, Nat.reduceLeDiff, Nat.reduceLT, Nat.reduceBEq, Nat.reduceBNe, reduceCtorEq, Int.reduceBEq, Int.reduceBNe, Int.reduceLT, Int.reduceLE, Int.reduceEq, Int.reduceToNat, Int.reduceAdd, Int.reduceSub, Int.reduceNeg, A13, A14, A15, hlt]
    refine loop2 (fun z st => ∃ (k : Nat) (B : Fr), st = ⟨B, N, [], none⟩ ∧ z = n - k ∧ k ≤ n ∧ B 3 = .map (some M.bl.length) ∧ B 11 = .int .u64 (k : Nat)) n ⟨0, _, rfl, by omega, by omega, by simp +contextual only [vq, vc, ve, vv, vn, vl, ↓reduceIte, Nat.reduceEqDiff, Nat.reduceAdd, Nat.reduceMul, Nat.reduceSub, Nat.reduceLeDiff, Nat.reduceLT, Nat.reduceBEq, Nat.reduceBNe, reduceCtorEq, Int.reduceBEq, Int.reduceBNe, Int.reduceLT, Int.reduceLE, Int.reduceEq, Int.reduceToNat, Int.reduceAdd, Int.reduceSub, Int.reduceNeg, A3], by simp +contextual only [vq, vc, ve, vv, vn, vl, ↓reduceIte, Nat.reduceEqDiff, Nat.reduceAdd, Nat.reduceMul, Nat.reduceSub, Nat.reduceLeDiff, Nat.reduceLT, Nat.reduceBEq, Nat.reduceBNe, reduceCtorEq, Int.reduceBEq, Int.reduceBNe, Int.reduceLT, Int.reduceLE, Int.reduceEq, Int.reduceToNat, Int.reduceAdd, Int.reduceSub, Int.reduceNeg]; rfl⟩ fun J2 hJ2 z st hI => ?_
    obtain ⟨k, B, rfl, rfl, hk, B3, B11⟩ := hI
    by_cases hkn : k < n
    · have hin : (0 : Int) < ((allMarks ll).count k : Nat) := by
        have := List.count_pos_iff.2 (h2 k hkn)
        omega
      have w1 : IntKind.u64.wrap ((k : Int) + 1) = ((k + 1 : Nat) : Int) := by rw [wrapu64 (by omega) (by omega)]; omega
      simp +contextual only [vq, vc, ve, vv, vn, vl, ↓reduceIte, Nat.reduceEqDiff, Nat.reduceAdd, Nat.reduceMul, Nat.reduceSub, Nat.reduceLeDiff, Nat.reduceLT, Nat.reduceBEq, Nat.reduceBNe, reduceCtorEq, Int.reduceBEq, Int.reduceBNe, Int.reduceLT, Int.reduceLE, Int.reduceEq, Int.reduceToNat, Int.reduceAdd, Int.reduceSub, Int.reduceNeg, B3, B11, hcN.look k, hin, w1]
      exact again2 hJ2 (n - (k + 1)) (by omega) ⟨k + 1, _, rfl, rfl, by omega, by simp +contextual only [vq, vc, ve, vv, vn, vl, ↓reduceIte, Nat.reduceEqDiff, Nat.reduceAdd, Nat.reduceMul, Nat.reduceSub, Nat.reduceLeDiff, Nat.reduceLT, Nat.reduceBEq, Nat.reduceBNe, reduceCtorEq, Int.reduceBEq, Int.reduceBNe, Int.reduceLT, Int.reduceLE, Int.reduceEq, Int.reduceToNat, Int.reduceAdd, Int.reduceSub, Int.reduceNeg, B3], by simp +contextual only [vq, vc, ve, vv, vn, vl, ↓reduceIte, Nat.reduceEqDiff, Nat.reduceAdd, Nat.reduceMul, Nat.reduceSub, Nat.reduceLeDiff, Nat.reduceLT, Nat.reduceBEq, Nat.reduceBNe, reduceCtorEq, Int.reduceBEq, Int.reduceBNe, Int.reduceLT, Int.reduceLE, Int.reduceEq, Int.reduceToNat, Int.reduceAdd, Int.reduceSub, Int.reduceNeg]⟩
    · have : k = n := by omega
      subst this
      have hin : ¬ (0 : Int) < ((allMarks ll).count k : Nat) := by
        have := List.count_eq_zero.2 h1
        omega
      have hdl := dec_len 19 k (by omega)
      have a1 : 2 + (dec k).length ≤ 9223372036854775807 := by omega
      simp +contextual only [vq, vc, ve, vv, vn, vl, ↓reduceIte, Nat.reduceEqDiff, Nat.reduceAdd, Nat.reduceMul, Nat.reduceSub, Nat.reduceLeDiff, Nat.reduceLT, Nat.reduceBEq, Nat.reduceBNe, reduceCtorEq, Int.reduceBEq, Int.reduceBNe, Int.reduceLT, Int.reduceLE, Int.reduceEq, Int.reduceToNat, Int.reduceAdd, Int.reduceSub, Int.reduceNeg, B3, B11, hcN.look k, hin, callR_val (c_octet_Decimal N k (by omega)), a1, hlN]
end Go.Proofs.YtjlpfijbnflknaaDoor.bounceParts

namespace Go.Proofs.YtjlpfijbnflknaaDoor.bounceParts
open Go.Ev hiding Comes
variable [GG]

/-- Is the answer wanted, by the whole number of the wish? -/
def wants (p0 r0 w : Int) : Bool := if p0 = 3 ∧ 0 ≤ r0 ∧ r0 ≤ 15 ∧ r0 % 2 = 0 then (if w = 1 then decide (r0 = 0 ∨ r0 / 4 % 2 = 1) else if w = 2 then decide (r0 / 8 % 2 = 1) else if w = 3 then decide (r0 / 2 % 2 = 1) else false) else false
theorem bits16 : ∀ n : Fin 16, (bitsE .and .i64 (n.val : Int) 1 != 0) = decide (n.val % 2 = 1) ∧ (bitsE .and .i64 (n.val : Int) 2 != 0) = decide (n.val / 2 % 2 = 1) ∧ (bitsE .and .i64 (n.val : Int) 4 != 0) = decide (n.val / 4 % 2 = 1) ∧ (bitsE .and .i64 (n.val : Int) 8 != 0) = decide (n.val / 8 % 2 = 1) := by decide +kernel
theorem wants_nat {n : Nat} (hn : n < 16) (w : Int) : wants 3 n w = if n % 2 = 0 then (if w = 1 then (decide (n = 0) || decide (n / 4 % 2 = 1)) else if w = 2 then decide (n / 8 % 2 = 1) else if w = 3 then decide (n / 2 % 2 = 1) else false) else false := by
  unfold wants
  by_cases h : n % 2 = 0
  · rw [if_pos h, if_pos (by omega)]
    split
    · rw [← Bool.decide_or]
      exact decide_eq_decide.2 (by omega)
    · split
      · exact decide_eq_decide.2 (by omega)
      · split
        · exact decide_eq_decide.2 (by omega)
        · rfl
  · rw [if_neg h, if_neg (by omega)]
theorem c_bounce_Wanted (m : Mem) (p0 : Int) (ps : List EV) (hps : ps.length = 20) (r0 : Int) (r1 r2 : EV) (w : Int) :
    Go.Ev.Comes T G f_bounce_Wanted [.agg (.int .i64 p0 :: ps), .agg [.int .i64 r0, r1, r2], .int .i64 w] m none ⟨.val (.bool (wants p0 r0 w)), m, none⟩ := by
  refine comes2 T_bounce_Wanted rfl fun M hg hlen hlow => ?_
  have hl0 : m.bl.length ≤ M.low := by omega
  simp only [F_bounce_Wanted]
  simp +contextual only [vq, vc, ve, vv, vn, vl, ↓reduceIte, Nat.reduceEqDiff, Nat.reduceAdd, Nat.reduceMul, Nat.reduceSub, Nat.reduceLeDiff, Nat.reduceLT, Nat.reduceBEq, Nat.reduceBNe, reduceCtorEq, Int.reduceBEq, Int.reduceBNe, Int.reduceLT, Int.reduceLE, Int.reduceEq, Int.reduceToNat, Int.reduceAdd, Int.reduceSub, Int.reduceNeg, hps]
  refine new_mk fun M1 e1 => ?_
  have R1 : RowIs M1 M.bl.length (.int .i64 p0 :: ps) := by rw [e1]; exact row_push _ _
  have l1 : m.bl.length ≤ M1.low := by rw [e1]; exact hl0
  simp +contextual only [vq, vc, ve, vv, vn, vl, ↓reduceIte, Nat.reduceEqDiff, Nat.reduceAdd, Nat.reduceMul, Nat.reduceSub, Nat.reduceLeDiff, Nat.reduceLT, Nat.reduceBEq, Nat.reduceBNe, reduceCtorEq, Int.reduceBEq, Int.reduceBNe, Int.reduceLT, Int.reduceLE, Int.reduceEq, Int.reduceToNat, Int.reduceAdd, Int.reduceSub, Int.reduceNeg]
  refine new_mk fun M2 e2 => ?_
  have R2 : RowIs M2 M1.bl.length [.int .i64 r0, r1, r2] := by rw [e2]; exact row_push _ _
  have R1 : RowIs M2 M.bl.length (.int .i64 p0 :: ps) := R1.grown (by rw [e2]; exact Grown.rfl'.push)
  have l2 : m.bl.length ≤ M2.low := by rw [e2]; exact l1
  have g0 := R1.get (G := G) 0
  have g1 := R2.get (G := G) 0
  simp only [List.getElem?_cons_zero] at g0 g1
  by_cases h3 : p0 = 3
  · subst h3
    have k0 : ((3 : Int) != 3) = false := rfl
    by_cases hr0 : r0 < 0
    · have e : wants 3 r0 w = false := by unfold wants; rw [if_neg (by omega)]
      simp +contextual only [vq, vc, ve, vv, vn, vl, ↓reduceIte, Nat.reduceEqDiff, Nat.reduceAdd, Nat.reduceMul, Nat.reduceSub, Nat.reduceLeDiff, Nat.reduceLT, Nat.reduceBEq, Nat.reduceBNe, reduceCtorEq, Int.reduceBEq, Int.reduceBNe, Int.reduceLT, Int.reduceLE, Int.reduceEq, Int.reduceToNat, Int.reduceAdd, Int.reduceSub, Int.reduceNeg, g0, g1, k0, hr0, l2, e]
    · by_cases hr1 : 15 < r0
      · have e : wants 3 r0 w = false := by unfold wants; rw [if_neg (by omega)]
        simp +contextual only [vq, vc, ve, vv, vn, vl, ↓reduceIte, Nat.reduceEqDiff, Nat.reduceAdd, Nat.reduceMul, Nat.reduceSub, Nat.reduceLeDiff, Nat.reduceLT, Nat.reduceBEq, Nat.reduceBNe, reduceCtorEq, Int.reduceBEq, Int.reduceBNe, Int.reduceLT, Int.reduceLE, Int.reduceEq, Int.reduceToNat, Int.reduceAdd, Int.reduceSub, Int.reduceNeg, g0, g1, k0, hr0, hr1, l2, e]
      · obtain ⟨n, hn, rfl⟩ : ∃ n : Nat, n < 16 ∧ r0 = n := ⟨r0.toNat, by omega, by omega⟩
        obtain ⟨b1, b2, b4, b8⟩ := bits16 ⟨n, hn⟩
        simp only at b1 b2 b4 b8
        have e := wants_nat hn w
        by_cases ho : n % 2 = 0
        · have b1 : (bitsE .and .i64 (n : Int) 1 != 0) = false := by rw [b1]; simp [ho]
          rw [if_pos ho] at e
          have en : ((n : Int) == 0) = decide (n = 0) := by cases n <;> rfl
          by_cases w1 : w = 1
          · subst w1
            rw [if_pos rfl] at e
            simp +contextual only [vq, vc, ve, vv, vn, vl, ↓reduceIte, Nat.reduceEqDiff, Nat.reduceAdd, Nat.reduceMul, Nat.reduceSub, Nat.reduceLeDiff, Nat.reduceLT, Nat.reduceBEq, Nat.reduceBNe, reduceCtorEq, Int.reduceBEq, Int.reduceBNe, Int.reduceLT, Int.reduceLE, Int.reduceEq, Int.reduceToNat, Int.reduceAdd, Int.reduceSub, Int.reduceNeg, g0, g1, k0, hr0, hr1, b1, b4, en, l2, e]
          · rw [if_neg w1] at e
            have k1 : (w == 1) = false := by simpa using w1
            by_cases w2 : w = 2
            · subst w2
              rw [if_pos rfl] at e
              simp +contextual only [vq, vc, ve, vv, vn, vl, ↓reduceIte, Nat.reduceEqDiff, Nat.reduceAdd, Nat.reduceMul, Nat.reduceSub, Nat.reduceLeDiff, Nat.reduceLT, Nat.reduceBEq, Nat.reduceBNe, reduceCtorEq, Int.reduceBEq, Int.reduceBNe, Int.reduceLT, Int.reduceLE, Int.reduceEq, Int.reduceToNat, Int.reduceAdd, Int.reduceSub, Int.reduceNeg, g0, g1, k0, hr0, hr1, b1, k1, b8, l2, e]
            · rw [if_neg w2] at e
              have k2 : (w == 2) = false := by simpa using w2
              by_cases w3 : w = 3
              · subst w3
                rw [if_pos rfl] at e
                simp +contextual only [vq, vc, ve, vv, vn, vl, ↓reduceIte, Nat.reduceEqDiff, Nat.reduceAdd, Nat.reduceMul, Nat.reduceSub, Nat.reduceLeDiff, Nat.reduceLT, Nat.reduceBEq, Nat.reduceBNe, reduceCtorEq, Int.reduceBEq, Int.reduceBNe, Int.reduceLT, Int.reduceLE, Int.reduceEq, Int.reduceToNat, Int.reduceAdd, Int.reduceSub, Int.reduceNeg, g0, g1, k0, hr0, hr1, b1, k1, k2, b2, l2, e]
              · rw [if_neg w3] at e
                have k3 : (w == 3) = false := by simpa using w3
                simp +contextual only [vq, vc, ve, vv, vn, vl, ↓reduceIte, Nat.reduceEqDiff, Nat.reduceAdd, Nat.reduceMul, Nat.reduceSub, Nat.reduceLeDiff, Nat.reduceLT, Nat.reduceBEq, Nat.reduceBNe, reduceCtorEq, Int.reduceBEq, Int.reduceBNe, Int.reduceLT, Int.reduceLE, Int.reduceEq, Int.reduceToNat, Int.reduceAdd, Int.reduceSub, Int.reduceNeg, g0, g1, k0, hr0, hr1, b1, k1, k2, k3, l2, e]
        · have b1 : (bitsE .and .i64 (n : Int) 1 != 0) = true := by rw [b1]; simp; omega
          rw [if_neg ho] at e
          simp +contextual only [vq, vc, ve, vv, vn, vl, ↓reduceIte, Nat.reduceEqDiff, Nat.reduceAdd, Nat.reduceMul, Nat.reduceSub, Nat.reduceLeDiff, Nat.reduceLT, Nat.reduceBEq, Nat.reduceBNe, reduceCtorEq, Int.reduceBEq, Int.reduceBNe, Int.reduceLT, Int.reduceLE, Int.reduceEq, Int.reduceToNat, Int.reduceAdd, Int.reduceSub, Int.reduceNeg, g0, g1, k0, hr0, hr1, b1, l2, e]
  · have e : wants p0 r0 w = false := by unfold wants; rw [if_neg (by omega)]
    have k0 : (p0 != 3) = true := by simpa using h3
    simp +contextual only [vq, vc, ve, vv, vn, vl, ↓reduceIte, Nat.reduceEqDiff, Nat.reduceAdd, Nat.reduceMul, Nat.reduceSub, Nat.reduceLeDiff, Nat.reduceLT, Nat.reduceBEq, Nat.reduceBNe, reduceCtorEq, Int.reduceBEq, Int.reduceBNe, Int.reduceLT, Int.reduceLE, Int.reduceEq, Int.reduceToNat, Int.reduceAdd, Int.reduceSub, Int.reduceNeg, g0, g1, k0, l2, e]
end Go.Proofs.YtjlpfijbnflknaaDoor.bounceParts

namespace Go.Proofs.YtjlpfijbnflknaaDoor.bounceParts
open Go.Ev hiding Comes
variable [GG]

theorem head_marks : (1 ∉ allMarks [[120, 61, 95, 48, 121], [61, 95, 50]]) ∧ ∀ k, k < 1 → k ∈ allMarks [[120, 61, 95, 48, 121], [61, 95, 50]] := by
  refine ⟨fun h => ?_, fun k hk => ?_⟩
  · have := (allMarks_any (by omega)).2 h
    rw [dec_lt (by omega)] at this
    revert this
    decide
  · have : k = 0 := by omega
    subst this
    refine (allMarks_any (by omega)).1 ?_
    rw [dec_lt (by omega)]
    decide
theorem c_l30_head (m : Mem) : Go.Ev.Comes T G f_l30_head [] m none ⟨.val (.bool true), m, none⟩ := by
  refine comes2 T_l30_head rfl fun M hg hlen hlow => ?_
  have hl0 : m.bl.length ≤ M.low := by omega
  simp only [F_l30_head]
  simp +contextual only [vq, vc, ve, vv, vn, vl, ↓reduceIte, Nat.reduceEqDiff, Nat.reduceAdd, Nat.reduceMul, Nat.reduceSub, Nat.reduceLeDiff, Nat.reduceLT, Nat.reduceBEq, Nat.reduceBNe, reduceCtorEq, Int.reduceBEq, Int.reduceBNe, Int.reduceLT, Int.reduceLE, Int.reduceEq, Int.reduceToNat, Int.reduceAdd, Int.reduceSub, Int.reduceNeg]
  refine new_mk fun M1 e1 => ?_
  have R1 : RowIs M1 M.bl.length (bytesE [120, 61, 95, 48, 121]) := by rw [e1]; exact row_push _ _
  have B1 : BytesAt G M1 (.slice (some ⟨.mem M.bl.length 0, 0⟩) 5 5 1) [120, 61, 95, 48, 121] := bytes_new (s := [120, 61, 95, 48, 121]) e1
  have k1 := mk_row (o := 0) (n := 5) (c := 5) (z := 1) R1 (by omega)
  have l1 : m.bl.length ≤ M1.low := by rw [e1]; exact hl0
  simp +contextual only [vq, vc, ve, vv, vn, vl, ↓reduceIte, Nat.reduceEqDiff, Nat.reduceAdd, Nat.reduceMul, Nat.reduceSub, Nat.reduceLeDiff, Nat.reduceLT, Nat.reduceBEq, Nat.reduceBNe, reduceCtorEq, Int.reduceBEq, Int.reduceBNe, Int.reduceLT, Int.reduceLE, Int.reduceEq, Int.reduceToNat, Int.reduceAdd, Int.reduceSub, Int.reduceNeg, k1]
  refine new_mk fun M2 e2 => ?_
  have R2 : RowIs M2 M1.bl.length (bytesE [61, 95, 50]) := by rw [e2]; exact row_push _ _
  have B2 : BytesAt G M2 (.slice (some ⟨.mem M1.bl.length 0, 0⟩) 3 3 1) [61, 95, 50] := bytes_new (s := [61, 95, 50]) e2
  have k2 := mk_row (o := 0) (n := 3) (c := 3) (z := 1) R2 (by omega)
  have l2 : m.bl.length ≤ M2.low := by rw [e2]; exact l1
  simp +contextual only [vq, vc, ve, vv, vn, vl, ↓reduceIte, Nat.reduceEqDiff, Nat.reduceAdd, Nat.reduceMul, Nat.reduceSub, Nat.reduceLeDiff, Nat.reduceLT, Nat.reduceBEq, Nat.reduceBNe, reduceCtorEq, Int.reduceBEq, Int.reduceBNe, Int.reduceLT, Int.reduceLE, Int.reduceEq, Int.reduceToNat, Int.reduceAdd, Int.reduceSub, Int.reduceNeg, k2]
  refine new_mk fun M3 e3 => ?_
  have l3 : m.bl.length ≤ M3.low := by rw [e3]; exact l2
  have g3 : Grown M2 M3 := by rw [e3]; exact Grown.rfl'.push
  have g2 : Grown M1 M2 := by rw [e2]; exact Grown.rfl'.push
  have hrows : ByteRows G M3 (.slice (some ⟨.mem M2.bl.length 0, 0⟩) 2 2 1) [[120, 61, 95, 48, 121], [61, 95, 50]] := by
    refine ⟨[.slice (some ⟨.mem M.bl.length 0, 0⟩) 5 5 1, .slice (some ⟨.mem M1.bl.length 0, 0⟩) 3 3 1], rfl, lit_rowsAt (rows := [[_], [_]]) e3 rfl (by simp), fun i x s hx hs => ?_⟩
    match i with
    | 0 =>
      simp only [List.getElem?_cons_zero, Option.some.injEq] at hx hs
      subst hx hs
      exact B1.grown (g2.trans g3)
    | 1 =>
      simp only [List.getElem?_cons_succ, List.getElem?_cons_zero, Option.some.injEq] at hx hs
      subst hx hs
      exact B2.grown g3
    | j + 2 => simp at hx
  have hB := c_bounce_Boundary M3 _ _ hrows (by simp) (by simp) 1 head_marks.1 head_marks.2
  rw [dec_lt (by omega)] at hB
  have hW := c_bounce_Wanted M3 3 [.slice none 0 0 0, .str [], .int .i64 0, .str [], .int .u8 0, .int .u8 0, .int .u8 0, .int .u8 0, .int .u8 0, .int .u8 0, .int .u8 0, .int .u8 0, .int .u8 0, .int .u8 0, .int .u8 0, .int .u8 0, .int .u8 0, .int .u8 0, .int .u8 0, .int .u8 0] rfl 0 (.bool false) (.str []) 1
  rw [show wants 3 0 1 = true by decide] at hW
  have e1' : ([61, 95, dg 1] == [61, 95, 49]) = true := by decide
  simp +contextual only [vq, vc, ve, vv, vn, vl, ↓reduceIte, Nat.reduceEqDiff, Nat.reduceAdd, Nat.reduceMul, Nat.reduceSub, Nat.reduceLeDiff, Nat.reduceLT, Nat.reduceBEq, Nat.reduceBNe, reduceCtorEq, Int.reduceBEq, Int.reduceBNe, Int.reduceLT, Int.reduceLE, Int.reduceEq, Int.reduceToNat, Int.reduceAdd, Int.reduceSub, Int.reduceNeg, callR_val hB, e1', callR_val hW, l3]
end Go.Proofs.YtjlpfijbnflknaaDoor.bounceParts

namespace Go.Proofs.YtjlpfijbnflknaaDoor.bounceParts
open Go.Ev hiding Comes

/-- Bytes, cut at each CRLF. -/
def linesF : Nat → List UInt8 → List (List UInt8)
  | 0, s => [s]
  | f + 1, s => if Go.Lib.index s [13, 10] < 0 then [s] else s.take (Go.Lib.index s [13, 10]).toNat :: linesF f (s.drop ((Go.Lib.index s [13, 10]).toNat + 2))
def lines (s : List UInt8) : List (List UInt8) := linesF s.length s
theorem index_short {s : List UInt8} (h : s.length < 2) : Go.Lib.index s [13, 10] < 0 := by
  have := Go.Lib.index_room s [13, 10]
  by_cases h0 : 0 ≤ Go.Lib.index s [13, 10]
  · have := this h0
    simp at this
    omega
  · omega
theorem linesF_eq : ∀ (f g : Nat) (s : List UInt8), s.length ≤ f → s.length ≤ g → linesF f s = linesF g s
  | 0, 0, s, _, _ => rfl
  | 0, g + 1, s, h, _ => by
    have : s.length = 0 := by omega
    simp [linesF, index_short (s := s) (by omega)]
  | f + 1, 0, s, _, h => by
    have : s.length = 0 := by omega
    simp [linesF, index_short (s := s) (by omega)]
  | f + 1, g + 1, s, hf, hg => by
    simp only [linesF]
    split
    · rfl
    · rw [linesF_eq f g _ (by simp; omega) (by simp; omega)]
theorem lines_none {s : List UInt8} (h : Go.Lib.index s [13, 10] < 0) : lines s = [s] := by
  unfold lines
  cases s.length with
  | zero => rfl
  | succ n => simp [linesF, h]
theorem lines_some {s : List UInt8} {i : Nat} (h : Go.Lib.index s [13, 10] = i) : lines s = s.take i :: lines (s.drop (i + 2)) := by
  unfold lines
  have hr := Go.Lib.index_room s [13, 10] (by omega)
  rw [h] at hr
  simp only [List.length_cons, List.length_nil] at hr
  obtain ⟨n, hn⟩ : ∃ n, s.length = n + 1 := ⟨s.length - 1, by omega⟩
  rw [hn]
  have : ¬ (i : Int) < 0 := by omega
  simp only [linesF, h, this, if_false, Int.toNat_natCast]
  rw [linesF_eq n (s.drop (i + 2)).length _ (by simp; omega) (Nat.le_refl _)]
/-- Lines, joined. -/
def join : List (List UInt8) → List UInt8
  | [] => []
  | r :: l => r ++ l.flatMap fun x => [13, 10] ++ x
theorem join_snoc {l : List (List UInt8)} {r : List UInt8} : join (l ++ [r]) = if l.length = 0 then r else join l ++ ([13, 10] ++ r) := by
  cases l with
  | nil => simp [join]
  | cons x l => simp [join]
/-- The parts of lines between marks. -/
def partsOf (op cl : List UInt8) : List (List UInt8) → Bool → List (List UInt8) → List (List UInt8) → Option (List (List UInt8))
  | [], _, _, _ => none
  | r :: ls, false, out, inner => partsOf op cl ls (r == op) out inner
  | r :: ls, true, out, inner => if (r == op || r == cl) = true then (if (r == op) = true then partsOf op cl ls true (out ++ [join inner]) [] else some (out ++ [join inner])) else partsOf op cl ls true out (inner ++ [r])
/-- The two marks. -/
def opM (b : List UInt8) : List UInt8 := 45 :: 45 :: b
def clM (b : List UInt8) : List UInt8 := 45 :: 45 :: (b ++ [45, 45])
/-- What the parts of a body are, and what is said of it. -/
def resParts (s b : List UInt8) : List (List UInt8) × List EV := match partsOf (opM b) (clM b) (lines s) false [] [] with
  | some ll => (ll, [.int .i64 0, .int .i64 0])
  | none => ([], [.int .i64 300, .int .i64 (s.length : Nat)])
/-- How much lines are. -/
def bulkL (l : List (List UInt8)) : Nat := (l.map fun s => s.length + 2).sum
theorem bulk_lines : ∀ (n : Nat) (s : List UInt8), s.length ≤ n → bulkL (lines s) = s.length + 2
  | 0, s, h => by
    rw [lines_none (index_short (by omega))]
    simp [bulkL]
  | n + 1, s, h => by
    by_cases hi : Go.Lib.index s [13, 10] < 0
    · rw [lines_none hi]
      simp [bulkL]
    · obtain ⟨i, hie⟩ : ∃ i : Nat, Go.Lib.index s [13, 10] = i := ⟨(Go.Lib.index s [13, 10]).toNat, by omega⟩
      have hr := Go.Lib.index_room s [13, 10] (by omega)
      rw [hie] at hr
      simp only [List.length_cons, List.length_nil] at hr
      rw [lines_some hie]
      have ih := bulk_lines n (s.drop (i + 2)) (by simp; omega)
      simp only [bulkL, List.map_cons, List.sum_cons, List.length_take, List.length_drop] at ih ⊢
      omega
theorem join_len {l : List (List UInt8)} : (join l).length ≤ bulkL l := by
  cases l with
  | nil => simp [join, bulkL]
  | cons r l =>
    have : ∀ l : List (List UInt8), (l.flatMap fun x => [13, 10] ++ x).length = bulkL l := by
      intro l
      induction l with
      | nil => rfl
      | cons x l ih =>
        simp only [List.flatMap_cons, List.length_append, ih, bulkL, List.map_cons, List.sum_cons, List.length_cons, List.length_nil]
        omega
    simp only [join, List.length_append, this, bulkL, List.map_cons, List.sum_cons]
    omega
end Go.Proofs.YtjlpfijbnflknaaDoor.bounceParts

namespace Go.Proofs.YtjlpfijbnflknaaDoor.bounceParts
open Go.Ev hiding Comes
variable [GG]

theorem part_getN {m : Mem} {a : Ad} {s : List UInt8} {l h : Nat} (hg : m.getN G a s.length = some (bytesE s)) (h1 : l ≤ h) (h2 : h ≤ s.length) : m.getN G (a.plus l) (h - l) = some (bytesE ((s.drop l).take (h - l))) := by
  by_cases h0 : h - l = 0
  · rw [h0]
    exact nr_true rfl _
  · have hg : m.getN G (a.plus 0) s.length = some (bytesE s) := by rw [Ad.plus_zero]; exact hg
    have := getN_part (k := l) (j := h - l) (ds := bytesE ((s.drop l).take (h - l))) hg (by omega) ⟨by rw [bytes_len]; omega, by simp [bytesE]⟩
    rwa [Nat.zero_add] at this
theorem tagB_ok' : TagOk tagB := .inr ⟨tagB / typeK, by decide, rfl⟩
/-- A growing list of private bytes; what may be written besides: its own block and those of S. -/
def PartsOut (n0 : Nat) (S : Nat → Prop) (k : Option Nat) (N : Mem) (v : EV) (ll : List (List UInt8)) : Prop :=
  ∃ xs : List EV, xs.length = ll.length ∧ Priv k 1 0 N v xs ll.length ∧ (∀ j, k = some j → n0 ≤ j) ∧ ∀ (p : Nat) (u : EV) (s : List UInt8), xs[p]? = some u → ll[p]? = some s → Off (fun j => k = some j ∨ S j) (fun M => BytesAt G M u s) N
theorem PartsOut.nil {n0 : Nat} {S : Nat → Prop} {N : Mem} : PartsOut n0 S none N (.slice none 0 0 0) [] := ⟨[], rfl, Priv.nil, (fun _ h => by cases h), fun p u s h => by simp at h⟩
theorem PartsOut.rows {n0 : Nat} {S : Nat → Prop} {k : Option Nat} {N : Mem} {v : EV} {ll : List (List UInt8)} (h : PartsOut n0 S k N v ll) : ByteRows G N v ll := by
  obtain ⟨xs, h1, h2, _, h4⟩ := h
  have e : xs = (xs.map fun x => [x]).flatten := by
    clear h1 h2 h4
    induction xs with
    | nil => rfl
    | cons x xs ih => simpa using ih
  rw [e] at h2
  exact ⟨xs, h1, h2.rows (by simp [h1]) (by simp), fun i x s hx hs => (h4 i x s hx hs).now⟩
/-- Other blocks are written. -/
theorem PartsOut.step {n0 : Nat} {S S' : Nat → Prop} {k : Option Nat} {N N' : Mem} {v : EV} {ll : List (List UInt8)} (h : PartsOut n0 S k N v ll) (hl : N.bl.length ≤ N'.bl.length) (hk : ∀ j, k = some j → N'.bl[j]? = N.bl[j]?) (hj : ∀ j, j < N.bl.length → k ≠ some j → ¬ S j → N'.bl[j]? = N.bl[j]? ∧ ¬ S' j) : PartsOut n0 S' k N' v ll := by
  obtain ⟨xs, h1, h2, h3, h4⟩ := h
  exact ⟨xs, h1, h2.keep hk, h3, fun p u s hu hs => (h4 p u s hu hs).step hl fun j hjl hn => by
    obtain ⟨e1, e2⟩ := hj j hjl (fun h => hn (.inl h)) (fun h => hn (.inr h))
    exact ⟨e1, fun h => h.elim (fun h => hn (.inl h)) e2⟩⟩
theorem PartsOut.slice {n0 : Nat} {S : Nat → Prop} {k : Option Nat} {N : Mem} {v : EV} {ll : List (List UInt8)} (h : PartsOut n0 S k N v ll) : ∃ a c e, v = .slice a ll.length c e := let ⟨_, _, h, _⟩ := h; h.slice
/-- Private bytes are put behind. -/
theorem PartsOut.add {n0 e n tg : Nat} {S : Nat → Prop} {k : Option Nat} {N N1 : Mem} {v u : EV} {ll : List (List UInt8)} {s : List UInt8} (h : PartsOut n0 S k N v ll) (hu : Priv (some e) 1 tg N u (bytesE s) n) (hke : k ≠ some e) (hS : ¬ S e) (hSl : ∀ j, S j → j < N.bl.length) (h1 : N1 = N.push (.cells [u] 0 true)) (h0 : n0 ≤ N.bl.length) (hl : ll.length ≤ 1000000000) :
    ∃ v' N' k', appendE G N1 1 24 0 v [u] 1 = some (v', N') ∧ PartsOut n0 S k' N' v' (ll ++ [s]) ∧ (k' = k ∨ k = none ∧ k' = some N1.bl.length) ∧ (∀ j, j < N.bl.length → k ≠ some j → N'.bl[j]? = N.bl[j]?) ∧ N.bl.length ≤ N'.bl.length ∧ (n0 ≤ N.low → n0 ≤ N'.low) := by
  obtain ⟨xs, x1, x2, x3, x4⟩ := h
  have hg : Grown N N1 := by rw [h1]; exact Grown.rfl'.push
  have l1 : N1.bl.length = N.bl.length + 1 := by rw [h1]; simp [Mem.push]
  have w1 : N1.low = N.low := by rw [h1]; rfl
  obtain ⟨v', N', k', ha, hp, hk, hj, hle, hw⟩ := (x2.grown hg).app (G := G) (bytes := 24) (cnt := 1) (new := [u]) tagOk_0 (by omega) rfl (by omega)
  have hkl := fun j (hj : k = some j) => x2.ltk hj
  have agree : ∀ j, j < N.bl.length → k ≠ some j → N'.bl[j]? = N.bl[j]? := fun j h1 h2 => by
    rw [hj j (by omega) (fun h => h2 h.symm), hg.at h1]
  have kk : ∀ j, j < N.bl.length → k' = some j → k = some j := fun j h1 h2 => by
    rcases hk with h | ⟨_, h⟩
    · rw [← h, h2]
    · rw [h] at h2
      cases h2
      omega
  refine ⟨v', N', k', ha, ⟨xs ++ [u], by simp [x1], by simpa using hp, fun j hj => ?_, fun p w t hw ht => ?_⟩, hk, agree, by omega, fun h => hw n0 (by omega) (by omega) x3⟩
  · rcases hk with h | ⟨_, h⟩
    · exact x3 j (by rw [← h, hj])
    · rw [h] at hj
      cases hj
      omega
  · by_cases hpl : p < xs.length
    · rw [List.getElem?_append_left hpl] at hw
      rw [List.getElem?_append_left (by omega)] at ht
      exact (x4 p w t hw ht).step (by omega) fun j h1 h2 => ⟨agree j h1 fun h => h2 (.inl h), fun h => h.elim (fun h => h2 (.inl (kk j h1 h))) fun h => h2 (.inr h)⟩
    · have hpe : p = xs.length := by
        have := (List.getElem?_eq_some_iff.1 hw).1
        simp at this
        omega
      subst hpe
      rw [List.getElem?_append_right (Nat.le_refl _), Nat.sub_self] at hw
      rw [List.getElem?_append_right (by omega), show xs.length - ll.length = 0 by omega] at ht
      simp at hw ht
      subst hw ht
      exact (hu.off (S := fun j => k = some j ∨ S j) (fun h => h.elim hke hS)).step (by omega) fun j h1 h2 => ⟨agree j h1 fun h => h2 (.inl h), fun h => h.elim (fun h => h2 (.inl (kk j h1 h))) fun h => h2 (.inr h)⟩
/-- A copy of bytes: what stands is put behind an empty literal. -/
theorem copy_lit {N N1 : Mem} {y : EV} {s : List UInt8} (h1 : N1 = N.push (.cells [] 0 true)) (hy : BytesAt G N y s) (hs : s.length ≤ 1000000000000) :
    ∃ u N2, appE G N1 1 1 tagB (.slice (some ⟨.mem N.bl.length 0, 0⟩) 0 0 1) (srcCells G N1 1 y) = some (u, N2) ∧ Priv (some N.bl.length) 1 tagB N2 u (bytesE s) s.length ∧ Grown N N2 ∧ (∀ n0, n0 ≤ N.low → n0 ≤ N.bl.length → n0 ≤ N2.low) := by
  have hg : Grown N N1 := by rw [h1]; exact Grown.rfl'.push
  have l1 : N1.bl.length = N.bl.length + 1 := by rw [h1]; simp [Mem.push]
  have w1 : N1.low = N.low := by rw [h1]; rfl
  obtain ⟨u, N2, k', ha, hp, hk, hj, hle, hw⟩ := (Priv.lit (esz := 1) (tag := tagB) (n := 0) h1 rfl).app (G := G) (bytes := 1) (cnt := s.length) (new := bytesE s) tagB_ok' (by omega) (by simp [bytesE]) (by omega)
  have hk : k' = some N.bl.length := by
    rcases hk with h | ⟨h, _⟩
    · exact h
    · cases h
  subst hk
  rw [List.nil_append, Nat.zero_add] at hp
  refine ⟨u, N2, ?_, hp, grown_of (by omega) fun j h => by rw [hj j (by omega) (fun h => by cases h; omega), hg.at h], fun n0 h h2 => hw n0 (by omega) (by omega) (fun j hj => by cases hj; omega)⟩
  rw [(hy.grown hg).src]
  exact ha
/-- Private bytes above M grow. -/
theorem priv_grow {k : Option Nat} {M N : Mem} {v : EV} {t : List UInt8} {n1 : Nat} (hv : Priv k 1 tagB N v (bytesE t) t.length) (hk : ∀ j, k = some j → M.bl.length ≤ j) (hgN : Grown M N) (hn : n1 ≤ M.bl.length) (hlN : n1 ≤ N.low) (t2 : List UInt8) (hs : t.length + t2.length ≤ 1000000000000) :
    ∃ v' N' k', appendE G N 1 1 tagB v (bytesE t2) t2.length = some (v', N') ∧ Priv k' 1 tagB N' v' (bytesE (t ++ t2)) (t ++ t2).length ∧ (∀ j, k' = some j → M.bl.length ≤ j) ∧ Grown M N' ∧ n1 ≤ N'.low := by
  have hle := hgN.le
  obtain ⟨v', N', k', ha, hp, hkk, hj, hl2, hw⟩ := hv.app (G := G) (bytes := 1) (cnt := t2.length) (new := bytesE t2) tagB_ok' (by omega) (by simp [bytesE]) (by omega)
  rw [← bytes_app, ← List.length_append] at hp
  refine ⟨v', N', k', ha, hp, fun j hj' => ?_, grown_of (by omega) fun j hj' => by rw [hj j (by omega) fun h => by have := hk j h.symm; omega, hgN.at hj'], hw _ hlN (by omega) fun j hj' => by have := hk j hj'; omega⟩
  rcases hkk with h | ⟨_, h⟩
  · exact hk j (by rw [← h, hj'])
  · rw [h] at hj'; cases hj'; omega
end Go.Proofs.YtjlpfijbnflknaaDoor.bounceParts

namespace Go.Proofs.YtjlpfijbnflknaaDoor.bounceParts
open Go.Ev hiding Comes
variable [GG]

/-- The blocks of a list and of its elements. -/
def Uses (k : Option Nat) (es : List (Option Nat)) (j : Nat) : Prop := k = some j ∨ some j ∈ es
/-- A list of its own of bytes of their own, each in another block. -/
def Outs (n0 : Nat) (k : Option Nat) (es : List (Option Nat)) (N : Mem) (v : EV) (ll : List (List UInt8)) : Prop :=
  ∃ xs : List EV, xs.length = ll.length ∧ es.length = ll.length ∧ Priv k 1 0 N v xs ll.length ∧ (∀ j, k = some j → n0 ≤ j) ∧
  (∀ (p : Nat) (u : EV) (s : List UInt8) (e : Option Nat), xs[p]? = some u → ll[p]? = some s → es[p]? = some e → Priv e 1 tagB N u (bytesE s) s.length ∧ ∀ j, e = some j → n0 ≤ j ∧ k ≠ some j) ∧
  (∀ (p q j : Nat), es[p]? = some (some j) → es[q]? = some (some j) → p = q)
section
variable {n0 : Nat} {k : Option Nat} {es : List (Option Nat)} {N N' : Mem} {v : EV} {ll : List (List UInt8)}
theorem Outs.nil : Outs n0 none [] N (.slice none 0 0 0) [] := ⟨[], rfl, rfl, Priv.nil, (fun _ h => by cases h), (fun p u s e h => by simp at h), fun p q j h => by simp at h⟩
theorem Outs.slice (h : Outs n0 k es N v ll) : ∃ a c e, v = .slice a ll.length c e := let ⟨_, _, _, h, _⟩ := h; h.slice
theorem Outs.used (h : Outs n0 k es N v ll) {j : Nat} (hj : Uses k es j) : n0 ≤ j ∧ j < N.bl.length := by
  obtain ⟨xs, h1, h2, h3, h4, h5, _⟩ := h
  rcases hj with hj | hj
  · exact ⟨h4 j hj, h3.ltk hj⟩
  · obtain ⟨p, hp⟩ := List.getElem?_of_mem hj
    have hpl := (List.getElem?_eq_some_iff.1 hp).1
    obtain ⟨a, b⟩ := h5 p _ _ _ (List.getElem?_eq_getElem (by omega : p < xs.length)) (List.getElem?_eq_getElem (by omega)) hp
    exact ⟨(b j rfl).1, a.ltk rfl⟩
theorem Outs.keep (h : Outs n0 k es N v ll) (hk : ∀ j, Uses k es j → N'.bl[j]? = N.bl[j]?) : Outs n0 k es N' v ll := by
  obtain ⟨xs, h1, h2, h3, h4, h5, h6⟩ := h
  exact ⟨xs, h1, h2, h3.keep fun j hj => hk j (.inl hj), h4, fun p u s e hu hs he => by
    obtain ⟨a, b⟩ := h5 p u s e hu hs he
    exact ⟨a.keep fun j hj => hk j (.inr (by subst hj; exact List.mem_of_getElem? he)), b⟩, h6⟩
theorem Outs.weak {n1 : Nat} (h : Outs n0 k es N v ll) (hn : n1 ≤ n0) : Outs n1 k es N v ll := by
  obtain ⟨xs, h1, h2, h3, h4, h5, h6⟩ := h
  exact ⟨xs, h1, h2, h3, fun j hj => Nat.le_trans hn (h4 j hj), fun p u s e hu hs he => ⟨(h5 p u s e hu hs he).1, fun j hj => ⟨Nat.le_trans hn ((h5 p u s e hu hs he).2 j hj).1, ((h5 p u s e hu hs he).2 j hj).2⟩⟩, h6⟩
theorem Outs.grown (h : Outs n0 k es N v ll) (hg : Grown N N') : Outs n0 k es N' v ll := h.keep fun j hj => hg.at (h.used hj).2
theorem Outs.rows (h : Outs n0 k es N v ll) : ByteRows G N v ll := by
  obtain ⟨xs, h1, h2, h3, _, h5, _⟩ := h
  have e : xs = (xs.map fun x => [x]).flatten := by
    clear h1 h3 h5
    induction xs with
    | nil => rfl
    | cons x xs ih => simpa using ih
  rw [e] at h3
  exact ⟨xs, h1, h3.rows (by simp [h1]) (by simp), fun i x s hx hs => by
    have hil : i < es.length := by have := (List.getElem?_eq_some_iff.1 hx).1; omega
    exact (h5 i x s _ hx hs (List.getElem?_eq_getElem hil)).1.bytes⟩
/-- Private bytes are put behind; the literal with them is in memory. -/
theorem Outs.add {e : Option Nat} {N1 : Mem} {u : EV} {s : List UInt8} (h : Outs n0 k es N v ll) (hu : Priv e 1 tagB N u (bytesE s) s.length) (he : ∀ j, e = some j → n0 ≤ j ∧ ¬ Uses k es j) (h1 : N1 = N.push (.cells [u] 0 true)) (h0 : n0 ≤ N.bl.length) (hl : ll.length ≤ 1000000000) :
    ∃ v' N' k', appendE G N1 1 24 0 v [u] 1 = some (v', N') ∧ Outs n0 k' (es ++ [e]) N' v' (ll ++ [s]) ∧ (k' = k ∨ k = none ∧ k' = some N1.bl.length) ∧ (∀ j, j < N.bl.length → k ≠ some j → N'.bl[j]? = N.bl[j]?) ∧ N.bl.length ≤ N'.bl.length ∧ (∀ n1, n1 ≤ n0 → n1 ≤ N.low → n1 ≤ N'.low) := by
  obtain ⟨xs, x1, x2, x3, x4, x5, x6⟩ := h
  have hg : Grown N N1 := by rw [h1]; exact Grown.rfl'.push
  have l1 : N1.bl.length = N.bl.length + 1 := by rw [h1]; simp [Mem.push]
  have w1 : N1.low = N.low := by rw [h1]; rfl
  obtain ⟨v', N', k', ha, hp, hk, hj, hle, hw⟩ := (x3.grown hg).app (G := G) (bytes := 24) (cnt := 1) (new := [u]) tagOk_0 (by omega) rfl (by omega)
  have hkl := fun j (hj : k = some j) => x3.ltk hj
  have agree : ∀ j, j < N.bl.length → k ≠ some j → N'.bl[j]? = N.bl[j]? := fun j h1 h2 => by
    rw [hj j (by omega) (fun h => h2 h.symm), hg.at h1]
  have kk : ∀ j, j < N.bl.length → k' = some j → k = some j := fun j h1 h2 => by
    rcases hk with h | ⟨_, h⟩
    · rw [← h, h2]
    · rw [h] at h2
      cases h2
      omega
  have old : ∀ (p : Nat) (w : EV) (t : List UInt8) (e : Option Nat), Priv e 1 tagB N w (bytesE t) t.length → (∀ j, e = some j → n0 ≤ j ∧ k ≠ some j) → Priv e 1 tagB N' w (bytesE t) t.length ∧ ∀ j, e = some j → n0 ≤ j ∧ k' ≠ some j := fun p w t e h g =>
    ⟨h.keep fun j hj => agree j (h.ltk hj) (g j hj).2, fun j hj => ⟨(g j hj).1, fun hq => (g j hj).2 (kk j (h.ltk hj) hq)⟩⟩
  refine ⟨v', N', k', ha, ⟨xs ++ [u], by simp [x1], by simp [x2], by simpa using hp, fun j hj => ?_, fun p w t ee hw ht hee => ?_, fun p q j hp hq => ?_⟩, hk, agree, by omega, fun n1 h1 h => hw n1 (by omega) (by omega) fun j hj => by have := x4 j hj; omega⟩
  · rcases hk with h | ⟨_, h⟩
    · exact x4 j (by rw [← h, hj])
    · rw [h] at hj
      cases hj
      omega
  · by_cases hpl : p < xs.length
    · rw [List.getElem?_append_left hpl] at hw
      rw [List.getElem?_append_left (by omega)] at ht hee
      obtain ⟨a, b⟩ := x5 p w t ee hw ht hee
      exact old p w t ee a b
    · have hpe : p = xs.length := by
        have := (List.getElem?_eq_some_iff.1 hw).1
        simp at this
        omega
      subst hpe
      rw [List.getElem?_append_right (Nat.le_refl _), Nat.sub_self] at hw
      rw [List.getElem?_append_right (by omega), show xs.length - ll.length = 0 by omega] at ht
      rw [List.getElem?_append_right (by omega), show xs.length - es.length = 0 by omega] at hee
      simp at hw ht hee
      subst hw ht hee
      exact old 0 _ _ _ hu fun j hj => ⟨(he j hj).1, fun h => (he j hj).2 (.inl h)⟩
  · have one : ∀ r, (es ++ [e])[r]? = some (some j) → (r < es.length ∧ es[r]? = some (some j)) ∨ (r = es.length ∧ e = some j) := fun r hr => by
      by_cases hrl : r < es.length
      · rw [List.getElem?_append_left hrl] at hr
        exact .inl ⟨hrl, hr⟩
      · have := (List.getElem?_eq_some_iff.1 hr).1
        simp at this
        have hre : r = es.length := by omega
        subst hre
        rw [List.getElem?_append_right (Nat.le_refl _), Nat.sub_self] at hr
        simp at hr
        exact .inr ⟨rfl, hr⟩
    rcases one p hp with ⟨_, a⟩ | ⟨a, a2⟩ <;> rcases one q hq with ⟨_, b⟩ | ⟨b, b2⟩
    · exact x6 p q j a b
    · exact absurd (.inr (List.mem_of_getElem? a)) (he j b2).2
    · exact absurd (.inr (List.mem_of_getElem? b)) (he j a2).2
    · omega
/-- A copy of bytes is put behind. -/
theorem Outs.copy {N1 : Mem} {w : EV} {s : List UInt8} (h : Outs n0 k es N v ll) (hw : BytesAt G N w s) (hs : s.length ≤ 1000000000000) (hl : ll.length ≤ 1000000000) (n1 : N1 = N.push (.cells [] 0 true)) (h0 : n0 ≤ N.bl.length) :
    ∃ a c e N2, appE G N1 1 1 tagB (.slice (some ⟨.mem N.bl.length 0, 0⟩) 0 0 1) (srcCells G N1 1 w) = some (.slice a s.length c e, N2) ∧ ∀ N3, N3 = N2.push (.cells [.slice a s.length c e] 0 true) → RowIs N3 N2.bl.length [.slice a s.length c e] ∧
      ∃ v' N4 k', appendE G N3 1 24 0 v [.slice a s.length c e] 1 = some (v', N4) ∧ Outs n0 k' (es ++ [some N.bl.length]) N4 v' (ll ++ [s]) ∧ (∀ j, j < N.bl.length → k ≠ some j → N4.bl[j]? = N.bl[j]?) ∧ N.bl.length ≤ N4.bl.length ∧ (∀ n1, n1 ≤ n0 → n1 ≤ N.low → n1 ≤ N4.low) := by
  obtain ⟨u, N2, ha, hu, hg, hw⟩ := copy_lit n1 hw hs
  obtain ⟨a, c, e, rfl⟩ := hu.slice
  refine ⟨a, c, e, N2, ha, fun N3 n3 => ⟨by rw [n3]; exact row_push _ _, ?_⟩⟩
  have hle := hg.le
  obtain ⟨v', N4, k', hb, ho, _, hag, hl4, hw4⟩ := (h.grown hg).add hu (fun j hj => by
    cases hj
    exact ⟨h0, fun hq => by have := (h.used hq).2; omega⟩) n3 (by omega) hl
  exact ⟨v', N4, k', hb, ho, fun j h1 h2 => by rw [hag j (by omega) h2, hg.at h1], by omega, fun n1 h1 h => hw4 n1 h1 (hw _ h (by omega))⟩
/-- Other private bytes grow. -/
theorem Outs.beside {kc : Option Nat} {w : EV} {t : List UInt8} (h : Outs n0 k es N v ll) (hcur : Priv kc 1 tagB N w (bytesE t) t.length) (hkc : ∀ j, kc = some j → n0 ≤ j ∧ ¬ Uses k es j) (h0 : n0 ≤ N.bl.length) (t2 : List UInt8) (hs : t.length + t2.length ≤ 1000000000000) :
    ∃ w' N' kc', appendE G N 1 1 tagB w (bytesE t2) t2.length = some (w', N') ∧ Priv kc' 1 tagB N' w' (bytesE (t ++ t2)) (t ++ t2).length ∧ (∀ j, kc' = some j → n0 ≤ j ∧ ¬ Uses k es j) ∧ Outs n0 k es N' v ll ∧ (∀ j, j < n0 → N'.bl[j]? = N.bl[j]?) ∧ N.bl.length ≤ N'.bl.length ∧ (∀ n1, n1 ≤ n0 → n1 ≤ N.low → n1 ≤ N'.low) := by
  obtain ⟨w', N', kc', ha, hp, hk, hj, hle, hw⟩ := hcur.app (G := G) (bytes := 1) (cnt := t2.length) (new := bytesE t2) tagB_ok' (by omega) (by simp [bytesE]) (by omega)
  rw [← bytes_app, ← List.length_append] at hp
  refine ⟨w', N', kc', ha, hp, fun j hj' => ?_, h.keep fun j hj' => hj j (h.used hj').2 fun e => (hkc j e.symm).2 hj', fun j hj' => hj j (by omega) fun e => by have := (hkc j e.symm).1; omega, hle, fun n1 h1 h2 => hw n1 h2 (by omega) fun j hj' => by have := (hkc j hj').1; omega⟩
  rcases hk with e | ⟨_, e⟩
  · exact hkc j (by rw [← e, hj'])
  · rw [e] at hj'
    cases hj'
    exact ⟨h0, fun hq => by have := (h.used hq).2; omega⟩
end
end Go.Proofs.YtjlpfijbnflknaaDoor.bounceParts

namespace Go.Proofs.YtjlpfijbnflknaaDoor.bounceParts
open Go.Ev hiding Comes
variable [GG]

theorem c_bounce_Parts (m : Mem) (x : EV) (s b : List UInt8) (hx : BytesAt G m x s) (hs : s.length ≤ 100000000) (hb : b.length ≤ 1000000000) :
    ∃ v m' k es, Go.Ev.Comes T G f_bounce_Parts [x, .str b] m none ⟨.val (.tuple [v, .agg (resParts s b).2]), m', none⟩ ∧ Grown m m' ∧ min m.low m.bl.length ≤ m'.low ∧ Outs m.bl.length k es m' v (resParts s b).1 := by
  suffices H : ∃ r, Go.Ev.Comes T G f_bounce_Parts [x, .str b] m none r ∧ ∃ v m' k es, r = ⟨.val (.tuple [v, .agg (resParts s b).2]), m', none⟩ ∧ Grown m m' ∧ min m.low m.bl.length ≤ m'.low ∧ Outs m.bl.length k es m' v (resParts s b).1 by
    obtain ⟨_, hc, v, m', k, es, rfl, h⟩ := H
    exact ⟨v, m', k, es, hc, h⟩
  refine comes2P T_bounce_Parts rfl fun M hg hlen hlow => ?_
  have hl0 : m.bl.length ≤ M.low := by omega
  have hx := hx.grown hg
  obtain ⟨a0, c0, e0, sx⟩ := hx.slice
  have lx : lnbE x = some (.int .i64 s.length) := by rw [sx]; rfl
  have q1 : 2 + b.length ≤ 9223372036854775807 := by omega
  have q2 : b.length ≤ 9223372036854775803 := by omega
  simp only [F_bounce_Parts]
  simp +contextual only [vq, vc, ve, vv, vn, vl, ↓reduceIte, Nat.reduceEqDiff, Nat.reduceAdd, Nat.reduceMul, Nat.reduceSub, Nat.reduceLeDiff, Nat.reduceLT, Nat.reduceBEq, Nat.reduceBNe, reduceCtorEq, Int.reduceBEq, Int.reduceBNe, Int.reduceLT, Int.reduceLE, Int.reduceEq, Int.reduceToNat, Int.reduceAdd, Int.reduceSub, Int.reduceNeg]
  refine new_mk fun M1 e1 => ?_
  simp +contextual only [vq, vc, ve, vv, vn, vl, ↓reduceIte, Nat.reduceEqDiff, Nat.reduceAdd, Nat.reduceMul, Nat.reduceSub, Nat.reduceLeDiff, Nat.reduceLT, Nat.reduceBEq, Nat.reduceBNe, reduceCtorEq, Int.reduceBEq, Int.reduceBNe, Int.reduceLT, Int.reduceLE, Int.reduceEq, Int.reduceToNat, Int.reduceAdd, Int.reduceSub, Int.reduceNeg, q1, q2]
  refine new_mk fun M2 e2 => ?_
  simp +contextual only [vq, vc, ve, vv, vn, vl, ↓reduceIte, Nat.reduceEqDiff, Nat.reduceAdd, Nat.reduceMul, Nat.reduceSub, Nat.reduceLeDiff, Nat.reduceLT, Nat.reduceBEq, Nat.reduceBNe, reduceCtorEq, Int.reduceBEq, Int.reduceBNe, Int.reduceLT, Int.reduceLE, Int.reduceEq, Int.reduceToNat, Int.reduceAdd, Int.reduceSub, Int.reduceNeg, q1, q2]
  refine new_mk fun M3 e3 => ?_
  have R1 : RowIs M3 M.bl.length [.int .i64 0, .int .i64 0] := by rw [e3, e2, e1]; simp [RowIs, Mem.push, List.getElem?_append]
  have B2 : BytesAt G M3 (.slice (some ⟨.mem M1.bl.length 0, 0⟩) (b.length + 1 + 1) (b.length + 1 + 1) 1) (opM b) := (bytes_new (s := opM b) e2).grown (by rw [e3]; exact Grown.rfl'.push)
  have B3 : BytesAt G M3 (.slice (some ⟨.mem M2.bl.length 0, 0⟩) ((b ++ [45, 45]).length + 1 + 1) ((b ++ [45, 45]).length + 1 + 1) 1) (clM b) := bytes_new (s := clM b) e3
  have g3 : Grown M M3 := by rw [e3, e2, e1]; exact ((Grown.rfl'.push).push).push
  have l3 : m.bl.length ≤ M3.low := by rw [e3, e2, e1]; exact hl0
  have b3 : M.bl.length < M3.bl.length := R1.lt
  simp +contextual only [vq, vc, ve, vv, vn, vl, ↓reduceIte, Nat.reduceEqDiff, Nat.reduceAdd, Nat.reduceMul, Nat.reduceSub, Nat.reduceLeDiff, Nat.reduceLT, Nat.reduceBEq, Nat.reduceBNe, reduceCtorEq, Int.reduceBEq, Int.reduceBNe, Int.reduceLT, Int.reduceLE, Int.reduceEq, Int.reduceToNat, Int.reduceAdd, Int.reduceSub, Int.reduceNeg]
  generalize EV.slice (some ⟨.mem M1.bl.length 0, 0⟩) (b.length + 1 + 1) (b.length + 1 + 1) 1 = opv at B2 ⊢
  generalize EV.slice (some ⟨.mem M2.bl.length 0, 0⟩) ((b ++ [45, 45]).length + 1 + 1) ((b ++ [45, 45]).length + 1 + 1) 1 = clv at B3 ⊢
  refine loop2 (fun q st => ∃ (ls : List (List UInt8)) (s' : List UInt8) (y : EV) (more inside : Bool) (out inner : List (List UInt8)) (k : Option Nat) (es : List (Option Nat)) (kc : Option Nat) (v w : EV) (A : Fr) (N : Mem), st = ⟨A, N, [], none⟩ ∧ q = ls.length ∧ ls = (if more = true then lines s' else []) ∧
      partsOf (opM b) (clM b) ls inside out inner = partsOf (opM b) (clM b) (lines s) false [] [] ∧ s'.length ≤ s.length ∧ 2 * out.length + bulkL ls + bulkL inner ≤ s.length + 2 ∧ 2 * inner.length ≤ bulkL inner ∧
      A 0 = x ∧ A 5 = .ptr (some ⟨.mem M.bl.length 0, 0⟩) ∧ A 6 = opv ∧ A 7 = clv ∧ A 8 = v ∧ A 9 = w ∧ A 10 = .int .i64 (inner.length : Nat) ∧ A 11 = .bool inside ∧ A 12 = y ∧ A 13 = .bool more ∧ (more = true → BytesAt G M y s') ∧
      Outs M3.bl.length k es N v out ∧ Priv kc 1 tagB N w (bytesE (join inner)) (join inner).length ∧ (∀ j, kc = some j → M3.bl.length ≤ j ∧ ¬ Uses k es j) ∧ Grown M3 N ∧ m.bl.length ≤ N.low)
    (lines s).length ⟨lines s, s, x, true, false, [], [], none, [], none, _, _, _, M3, rfl, rfl, rfl, rfl, Nat.le_refl _, by have := bulk_lines _ s (Nat.le_refl _); simp [bulkL] at this ⊢; omega, by simp [bulkL], by simp +contextual only [vq, vc, ve, vv, vn, vl, ↓reduceIte, Nat.reduceEqDiff, Nat.reduceAdd, Nat.reduceMul, Nat.reduceSub, Nat.reduceLeDiff, Nat.reduceLT, Nat.reduceBEq, Nat.reduceBNe, reduceCtorEq, Int.reduceBEq, Int.reduceBNe, Int.reduceLT, Int.reduceLE, Int.reduceEq, Int.reduceToNat, Int.reduceAdd, Int.reduceSub, Int.reduceNeg], by simp +contextual only [vq, vc, ve, vv, vn, vl, ↓reduceIte, Nat.reduceEqDiff, Nat.reduceAdd, Nat.reduceMul, Nat.reduceSub, Nat.reduceLeDiff, Nat.reduceLT, Nat.reduceBEq, Nat.reduceBNe, reduceCtorEq, Int.reduceBEq, Int.reduceBNe, Int.reduceLT, Int.reduceLE, Int.reduceEq, Int.reduceToNat, Int.reduceAdd, Int.reduceSub, Int.reduceNeg], by simp +contextual only [vq, vc, ve, vv, vn, vl, ↓reduceIte, Nat.reduceEqDiff, Nat.reduceAdd, Nat.reduceMul, Nat.reduceSub, Nat.reduceLeDiff, Nat.reduceLT, Nat.reduceBEq, Nat.reduceBNe, reduceCtorEq, Int.reduceBEq, Int.reduceBNe, Int.reduceLT, Int.reduceLE, Int.reduceEq, Int.reduceToNat, Int.reduceAdd, Int.reduceSub, Int.reduceNeg], by simp +contextual only [vq, vc, ve, vv, vn, vl, ↓reduceIte, Nat.reduceEqDiff, Nat.reduceAdd, Nat.reduceMul, Nat.reduceSub, Nat.reduceLeDiff, Nat.reduceLT, Nat.reduceBEq, Nat.reduceBNe, reduceCtorEq, Int.reduceBEq, Int.reduceBNe, Int.reduceLT, Int.reduceLE, Int.reduceEq, Int.reduceToNat, Int.reduceAdd, Int.reduceSub, Int.reduceNeg], by simp +contextual only [vq, vc, ve, vv, vn, vl, ↓reduceIte, Nat.reduceEqDiff, Nat.reduceAdd, Nat.reduceMul, Nat.reduceSub, Nat.reduceLeDiff, Nat.reduceLT, Nat.reduceBEq, Nat.reduceBNe, reduceCtorEq, Int.reduceBEq, Int.reduceBNe, Int.reduceLT, Int.reduceLE, Int.reduceEq, Int.reduceToNat, Int.reduceAdd, Int.reduceSub, Int.reduceNeg], by simp +contextual only [vq, vc, ve, vv, vn, vl, ↓reduceIte, Nat.reduceEqDiff, Nat.reduceAdd, Nat.reduceMul, Nat.reduceSub, Nat.reduceLeDiff, Nat.reduceLT, Nat.reduceBEq, Nat.reduceBNe, reduceCtorEq, Int.reduceBEq, Int.reduceBNe, Int.reduceLT, Int.reduceLE, Int.reduceEq, Int.reduceToNat, Int.reduceAdd, Int.reduceSub, Int.reduceNeg], by simp +contextual only [vq, vc, ve, vv, vn, vl, ↓reduceIte, Nat.reduceEqDiff, Nat.reduceAdd, Nat.reduceMul, Nat.reduceSub, Nat.reduceLeDiff, Nat.reduceLT, Nat.reduceBEq, Nat.reduceBNe, reduceCtorEq, Int.reduceBEq, Int.reduceBNe, Int.reduceLT, Int.reduceLE, Int.reduceEq, Int.reduceToNat, Int.reduceAdd, Int.reduceSub, Int.reduceNeg]; rfl, by simp +contextual only [vq, vc, ve, vv, vn, vl, ↓reduceIte, Nat.reduceEqDiff, Nat.reduceAdd, Nat.reduceMul, Nat.reduceSub, Nat.reduceLeDiff, Nat.reduceLT, Nat.reduceBEq, Nat.reduceBNe, reduceCtorEq, Int.reduceBEq, Int.reduceBNe, Int.reduceLT, Int.reduceLE, Int.reduceEq, Int.reduceToNat, Int.reduceAdd, Int.reduceSub, Int.reduceNeg], by simp +contextual only [vq, vc, ve, vv, vn, vl, ↓reduceIte, Nat.reduceEqDiff, Nat.reduceAdd, Nat.reduceMul, Nat.reduceSub, Nat.reduceLeDiff, Nat.reduceLT, Nat.reduceBEq, Nat.reduceBNe, reduceCtorEq, Int.reduceBEq, Int.reduceBNe, Int.reduceLT, Int.reduceLE, Int.reduceEq, Int.reduceToNat, Int.reduceAdd, Int.reduceSub, Int.reduceNeg], by simp +contextual only [vq, vc, ve, vv, vn, vl, ↓reduceIte, Nat.reduceEqDiff, Nat.reduceAdd, Nat.reduceMul, Nat.reduceSub, Nat.reduceLeDiff, Nat.reduceLT, Nat.reduceBEq, Nat.reduceBNe, reduceCtorEq, Int.reduceBEq, Int.reduceBNe, Int.reduceLT, Int.reduceLE, Int.reduceEq, Int.reduceToNat, Int.reduceAdd, Int.reduceSub, Int.reduceNeg], fun _ => hx, Outs.nil, Priv.nil, (fun _ h => by cases h), Grown.rfl', l3⟩ fun J hJ q st hI => ?_
  obtain ⟨ls, s', y, more, inside, out, inner, k, es, kc, v, w, A, N, rfl, rfl, hls, hp, hs', hbulk, hin, A0, A5, A6, A7, A8, A9, A10, A11, A12, A13, hy, hout, hcur, hkc, hgN, hlN⟩ := hI
  cases more with
  | false =>
    simp only [Bool.false_eq_true, if_false] at hls
    subst hls
    have hres : resParts s b = ([], [.int .i64 300, .int .i64 (s.length : Nat)]) := by
      unfold resParts
      rw [← hp]
      cases inside <;> rfl
    rw [hres]
    have RN := R1.grown hgN
    obtain ⟨N1, w1, w2, w3, w4⟩ := putN_row (off := 0) (vs := [.int .i64 300, .int .i64 (s.length : Nat)]) RN (by simp)
    have w2 : RowIs N1 M.bl.length [.int .i64 300, .int .i64 (s.length : Nat)] := w2
    have lw : m.bl.length ≤ N1.low := by omega
    simp +contextual only [vq, vc, ve, vv, vn, vl, ↓reduceIte, Nat.reduceEqDiff, Nat.reduceAdd, Nat.reduceMul, Nat.reduceSub, Nat.reduceLeDiff, Nat.reduceLT, Nat.reduceBEq, Nat.reduceBNe, reduceCtorEq, Int.reduceBEq, Int.reduceBNe, Int.reduceLT, Int.reduceLE, Int.reduceEq, Int.reduceToNat, Int.reduceAdd, Int.reduceSub, Int.reduceNeg, A0, A5, A13, lx, w1]
    exact postX_same (v := .tuple [.slice none 0 0 0, .agg [.int .i64 300, .int .i64 (s.length : Nat)]]) (by simp +contextual only [vq, vc, ve, vv, vn, vl, ↓reduceIte, Nat.reduceEqDiff, Nat.reduceAdd, Nat.reduceMul, Nat.reduceSub, Nat.reduceLeDiff, Nat.reduceLT, Nat.reduceBEq, Nat.reduceBNe, reduceCtorEq, Int.reduceBEq, Int.reduceBNe, Int.reduceLT, Int.reduceLE, Int.reduceEq, Int.reduceToNat, Int.reduceAdd, Int.reduceSub, Int.reduceNeg, w2.getN (G := G), A5]) lw rfl ⟨_, m, none, [], rfl, Grown.rfl', by omega, Outs.nil⟩
  | true =>
    simp only [if_true] at hls
    have hy := hy rfl
    simp +contextual only [vq, vc, ve, vv, vn, vl, ↓reduceIte, Nat.reduceEqDiff, Nat.reduceAdd, Nat.reduceMul, Nat.reduceSub, Nat.reduceLeDiff, Nat.reduceLT, Nat.reduceBEq, Nat.reduceBNe, reduceCtorEq, Int.reduceBEq, Int.reduceBNe, Int.reduceLT, Int.reduceLE, Int.reduceEq, Int.reduceToNat, Int.reduceAdd, Int.reduceSub, Int.reduceNeg, A12, A13]
    refine new_mk fun N1 n1 => ?_
    have hsep : BytesAt G N1 (.slice (some ⟨.mem N.bl.length 0, 0⟩) 2 2 1) [13, 10] := bytes_new (s := [13, 10]) n1
    have hmk := mk_row (m := N1) (b := N.bl.length) (o := 0) (n := 2) (c := 2) (z := 1) (cs := bytesE [13, 10]) (by rw [n1]; exact row_push _ _) (by omega)
    have gN1 : Grown N N1 := by rw [n1]; exact Grown.rfl'.push
    have g31 := hgN.trans gN1
    have lN1 : m.bl.length ≤ N1.low := by rw [n1]; exact hlN
    have hcut : ∃ (u z : EV) (more' : Bool) (r s2 : List UInt8) (ls' : List (List UInt8)), ls = r :: ls' ∧ ls' = (if more' = true then lines s2 else []) ∧ Go.Ev.Comes T G f_bytes_Cut [y, .slice (some ⟨.mem N.bl.length 0, 0⟩) 2 2 1] N1 none ⟨.val (.tuple [u, z, .bool more']), N1, none⟩ ∧ BytesAt G M u r ∧ (more' = true → BytesAt G M z s2) ∧ s2.length ≤ s.length := by
      rcases c_bytes_Cut N1 y _ s' [13, 10] (hy.grown (g3.trans g31)) hsep (by simp) (by omega) with ⟨hneg, hc⟩ | ⟨p, u, z, hpos, hroom, hc, hparts⟩
      · exact ⟨y, .slice none 0 0 0, false, s', s', [], by rw [hls, lines_none hneg], rfl, hc, hy, (fun h => by cases h), hs'⟩
      · obtain ⟨hu, hz⟩ := hparts M hy
        exact ⟨u, z, true, _, _, lines (s'.drop (p + 2)), by rw [hls, lines_some hpos], rfl, hc, hu, fun _ => hz, by simp; omega⟩
    obtain ⟨u, z, more', r, s2, ls', rfl, hls', hc, hu, hz, hs2⟩ := hcut
    have hbk : bulkL (r :: ls') = r.length + 2 + bulkL ls' := by simp [bulkL]
    rw [hbk] at hbulk
    have hq1 := c_bytes_Equal N1 u opv r (opM b) (hu.grown (g3.trans g31)) (B2.grown g31)
    have hq2 := c_bytes_Equal N1 u clv r (clM b) (hu.grown (g3.trans g31)) (B3.grown g31)
    have hout1 := hout.grown gN1
    have hcur1 := hcur.grown gN1
    have hle1 := gN1.le
    cases inside with
    | false =>
      simp +contextual only [vq, vc, ve, vv, vn, vl, ↓reduceIte, Nat.reduceEqDiff, Nat.reduceAdd, Nat.reduceMul, Nat.reduceSub, Nat.reduceLeDiff, Nat.reduceLT, Nat.reduceBEq, Nat.reduceBNe, reduceCtorEq, Int.reduceBEq, Int.reduceBNe, Int.reduceLT, Int.reduceLE, Int.reduceEq, Int.reduceToNat, Int.reduceAdd, Int.reduceSub, Int.reduceNeg, hmk, A12, A13, A6, A11, callR_val hc, callR_val hq1]
      exact again2 hJ ls'.length (by simp) ⟨ls', s2, z, more', (r == opM b), out, inner, k, es, kc, v, w, _, N1, rfl, rfl, hls', by rw [← hp]; rfl, hs2, by omega, hin, by simp +contextual only [vq, vc, ve, vv, vn, vl, ↓reduceIte, Nat.reduceEqDiff, Nat.reduceAdd, Nat.reduceMul, Nat.reduceSub, Nat.reduceLeDiff, Nat.reduceLT, Nat.reduceBEq, Nat.reduceBNe, reduceCtorEq, Int.reduceBEq, Int.reduceBNe, Int.reduceLT, Int.reduceLE, Int.reduceEq, Int.reduceToNat, Int.reduceAdd, Int.reduceSub, Int.reduceNeg, A0], by simp +contextual only [vq, vc, ve, vv, vn, vl, ↓reduceIte, Nat.reduceEqDiff, Nat.reduceAdd, Nat.reduceMul, Nat.reduceSub, Nat.reduceLeDiff, Nat.reduceLT, Nat.reduceBEq, Nat.reduceBNe, reduceCtorEq, Int.reduceBEq, Int.reduceBNe, Int.reduceLT, Int.reduceLE, Int.reduceEq, Int.reduceToNat, Int.reduceAdd, Int.reduceSub, Int.reduceNeg, A5], by simp +contextual only [vq, vc, ve, vv, vn, vl, ↓reduceIte, Nat.reduceEqDiff, Nat.reduceAdd, Nat.reduceMul, Nat.reduceSub, Nat.reduceLeDiff, Nat.reduceLT, Nat.reduceBEq, Nat.reduceBNe, reduceCtorEq, Int.reduceBEq, Int.reduceBNe, Int.reduceLT, Int.reduceLE, Int.reduceEq, Int.reduceToNat, Int.reduceAdd, Int.reduceSub, Int.reduceNeg, A6], by simp +contextual only [vq, vc, ve, vv, vn, vl, ↓reduceIte, Nat.reduceEqDiff, Nat.reduceAdd, Nat.reduceMul, Nat.reduceSub, Nat.reduceLeDiff, Nat.reduceLT, Nat.reduceBEq, Nat.reduceBNe, reduceCtorEq, Int.reduceBEq, Int.reduceBNe, Int.reduceLT, Int.reduceLE, Int.reduceEq, Int.reduceToNat, Int.reduceAdd, Int.reduceSub, Int.reduceNeg, A7], by simp +contextual only [vq, vc, ve, vv, vn, vl, ↓reduceIte, Nat.reduceEqDiff, Nat.reduceAdd, Nat.reduceMul, Nat.reduceSub, Nat.reduceLeDiff, Nat.reduceLT, Nat.reduceBEq, Nat.reduceBNe, reduceCtorEq, Int.reduceBEq, Int.reduceBNe, Int.reduceLT, Int.reduceLE, Int.reduceEq, Int.reduceToNat, Int.reduceAdd, Int.reduceSub, Int.reduceNeg, A8], by simp +contextual only [vq, vc, ve, vv, vn, vl, ↓reduceIte, Nat.reduceEqDiff, Nat.reduceAdd, Nat.reduceMul, Nat.reduceSub, Nat.reduceLeDiff, Nat.reduceLT, Nat.reduceBEq, Nat.reduceBNe, reduceCtorEq, Int.reduceBEq, Int.reduceBNe, Int.reduceLT, Int.reduceLE, Int.reduceEq, Int.reduceToNat, Int.reduceAdd, Int.reduceSub, Int.reduceNeg, A9], by simp +contextual only [vq, vc, ve, vv, vn, vl, ↓reduceIte, Nat.reduceEqDiff, Nat.reduceAdd, Nat.reduceMul, Nat.reduceSub, Nat.reduceLeDiff, Nat.reduceLT, Nat.reduceBEq, Nat.reduceBNe, reduceCtorEq, Int.reduceBEq, Int.reduceBNe, Int.reduceLT, Int.reduceLE, Int.reduceEq, Int.reduceToNat, Int.reduceAdd, Int.reduceSub, Int.reduceNeg, A10], by simp +contextual only [vq, vc, ve, vv, vn, vl, ↓reduceIte, Nat.reduceEqDiff, Nat.reduceAdd, Nat.reduceMul, Nat.reduceSub, Nat.reduceLeDiff, Nat.reduceLT, Nat.reduceBEq, Nat.reduceBNe, reduceCtorEq, Int.reduceBEq, Int.reduceBNe, Int.reduceLT, Int.reduceLE, Int.reduceEq, Int.reduceToNat, Int.reduceAdd, Int.reduceSub, Int.reduceNeg], by simp +contextual only [vq, vc, ve, vv, vn, vl, ↓reduceIte, Nat.reduceEqDiff, Nat.reduceAdd, Nat.reduceMul, Nat.reduceSub, Nat.reduceLeDiff, Nat.reduceLT, Nat.reduceBEq, Nat.reduceBNe, reduceCtorEq, Int.reduceBEq, Int.reduceBNe, Int.reduceLT, Int.reduceLE, Int.reduceEq, Int.reduceToNat, Int.reduceAdd, Int.reduceSub, Int.reduceNeg], by simp +contextual only [vq, vc, ve, vv, vn, vl, ↓reduceIte, Nat.reduceEqDiff, Nat.reduceAdd, Nat.reduceMul, Nat.reduceSub, Nat.reduceLeDiff, Nat.reduceLT, Nat.reduceBEq, Nat.reduceBNe, reduceCtorEq, Int.reduceBEq, Int.reduceBNe, Int.reduceLT, Int.reduceLE, Int.reduceEq, Int.reduceToNat, Int.reduceAdd, Int.reduceSub, Int.reduceNeg], hz, hout1, hcur1, hkc, g31, lN1⟩
    | true =>
      cases hro : (r == opM b) with
      | true =>
        rw [hro] at hq1
        simp +contextual only [vq, vc, ve, vv, vn, vl, ↓reduceIte, Nat.reduceEqDiff, Nat.reduceAdd, Nat.reduceMul, Nat.reduceSub, Nat.reduceLeDiff, Nat.reduceLT, Nat.reduceBEq, Nat.reduceBNe, reduceCtorEq, Int.reduceBEq, Int.reduceBNe, Int.reduceLT, Int.reduceLE, Int.reduceEq, Int.reduceToNat, Int.reduceAdd, Int.reduceSub, Int.reduceNeg, hmk, A6, A8, A9, A11, A12, A13, callR_val hc, callR_val hq1]
        refine new_mk fun N2 n2 => ?_
        obtain ⟨ca, cc, ce, N3, ha, hnext⟩ := hout1.copy hcur1.bytes (by have := join_len (l := inner); omega) (by omega) n2 (by have := g31.le; omega)
        simp +contextual only [vq, vc, ve, vv, vn, vl, ↓reduceIte, Nat.reduceEqDiff, Nat.reduceAdd, Nat.reduceMul, Nat.reduceSub, Nat.reduceLeDiff, Nat.reduceLT, Nat.reduceBEq, Nat.reduceBNe, reduceCtorEq, Int.reduceBEq, Int.reduceBNe, Int.reduceLT, Int.reduceLE, Int.reduceEq, Int.reduceToNat, Int.reduceAdd, Int.reduceSub, Int.reduceNeg, A9, ha]
        refine new_mk fun N4 n4 => ?_
        obtain ⟨R4, v', N5, k', hap, ho5, hag, hl5, hw5⟩ := hnext N4 n4
        have g35 : Grown M3 N5 := grown_of (by have := g31.le; omega) fun j hj => by
          rw [hag j (by have := g31.le; omega) fun h => by have := (hout.used (.inl h)).1; omega, g31.at hj]
        simp +contextual only [vq, vc, ve, vv, vn, vl, ↓reduceIte, Nat.reduceEqDiff, Nat.reduceAdd, Nat.reduceMul, Nat.reduceSub, Nat.reduceLeDiff, Nat.reduceLT, Nat.reduceBEq, Nat.reduceBNe, reduceCtorEq, Int.reduceBEq, Int.reduceBNe, Int.reduceLT, Int.reduceLE, Int.reduceEq, Int.reduceToNat, Int.reduceAdd, Int.reduceSub, Int.reduceNeg, R4.getN (G := G), hap]
        exact again2 hJ ls'.length (by simp) ⟨ls', s2, z, more', true, out ++ [join inner], [], k', _, none, v', _, _, N5, rfl, rfl, hls', by rw [← hp]; simp [partsOf, hro], hs2, by simp [bulkL] at hbulk ⊢; omega, by simp [bulkL], by simp +contextual only [vq, vc, ve, vv, vn, vl, ↓reduceIte, Nat.reduceEqDiff, Nat.reduceAdd, Nat.reduceMul, Nat.reduceSub, Nat.reduceLeDiff, Nat.reduceLT, Nat.reduceBEq, Nat.reduceBNe, reduceCtorEq, Int.reduceBEq, Int.reduceBNe, Int.reduceLT, Int.reduceLE, Int.reduceEq, Int.reduceToNat, Int.reduceAdd, Int.reduceSub, Int.reduceNeg, A0], by simp +contextual only [vq, vc, ve, vv, vn, vl, ↓reduceIte, Nat.reduceEqDiff, Nat.reduceAdd, Nat.reduceMul, Nat.reduceSub, Nat.reduceLeDiff, Nat.reduceLT, Nat.reduceBEq, Nat.reduceBNe, reduceCtorEq, Int.reduceBEq, Int.reduceBNe, Int.reduceLT, Int.reduceLE, Int.reduceEq, Int.reduceToNat, Int.reduceAdd, Int.reduceSub, Int.reduceNeg, A5], by simp +contextual only [vq, vc, ve, vv, vn, vl, ↓reduceIte, Nat.reduceEqDiff, Nat.reduceAdd, Nat.reduceMul, Nat.reduceSub, Nat.reduceLeDiff, Nat.reduceLT, Nat.reduceBEq, Nat.reduceBNe, reduceCtorEq, Int.reduceBEq, Int.reduceBNe, Int.reduceLT, Int.reduceLE, Int.reduceEq, Int.reduceToNat, Int.reduceAdd, Int.reduceSub, Int.reduceNeg, A6], by simp +contextual only [vq, vc, ve, vv, vn, vl, ↓reduceIte, Nat.reduceEqDiff, Nat.reduceAdd, Nat.reduceMul, Nat.reduceSub, Nat.reduceLeDiff, Nat.reduceLT, Nat.reduceBEq, Nat.reduceBNe, reduceCtorEq, Int.reduceBEq, Int.reduceBNe, Int.reduceLT, Int.reduceLE, Int.reduceEq, Int.reduceToNat, Int.reduceAdd, Int.reduceSub, Int.reduceNeg, A7], by simp +contextual only [vq, vc, ve, vv, vn, vl, ↓reduceIte, Nat.reduceEqDiff, Nat.reduceAdd, Nat.reduceMul, Nat.reduceSub, Nat.reduceLeDiff, Nat.reduceLT, Nat.reduceBEq, Nat.reduceBNe, reduceCtorEq, Int.reduceBEq, Int.reduceBNe, Int.reduceLT, Int.reduceLE, Int.reduceEq, Int.reduceToNat, Int.reduceAdd, Int.reduceSub, Int.reduceNeg], by simp +contextual only [vq, vc, ve, vv, vn, vl, ↓reduceIte, Nat.reduceEqDiff, Nat.reduceAdd, Nat.reduceMul, Nat.reduceSub, Nat.reduceLeDiff, Nat.reduceLT, Nat.reduceBEq, Nat.reduceBNe, reduceCtorEq, Int.reduceBEq, Int.reduceBNe, Int.reduceLT, Int.reduceLE, Int.reduceEq, Int.reduceToNat, Int.reduceAdd, Int.reduceSub, Int.reduceNeg], by simp +contextual only [vq, vc, ve, vv, vn, vl, ↓reduceIte, Nat.reduceEqDiff, Nat.reduceAdd, Nat.reduceMul, Nat.reduceSub, Nat.reduceLeDiff, Nat.reduceLT, Nat.reduceBEq, Nat.reduceBNe, reduceCtorEq, Int.reduceBEq, Int.reduceBNe, Int.reduceLT, Int.reduceLE, Int.reduceEq, Int.reduceToNat, Int.reduceAdd, Int.reduceSub, Int.reduceNeg]; rfl, by simp +contextual only [vq, vc, ve, vv, vn, vl, ↓reduceIte, Nat.reduceEqDiff, Nat.reduceAdd, Nat.reduceMul, Nat.reduceSub, Nat.reduceLeDiff, Nat.reduceLT, Nat.reduceBEq, Nat.reduceBNe, reduceCtorEq, Int.reduceBEq, Int.reduceBNe, Int.reduceLT, Int.reduceLE, Int.reduceEq, Int.reduceToNat, Int.reduceAdd, Int.reduceSub, Int.reduceNeg, A11], by simp +contextual only [vq, vc, ve, vv, vn, vl, ↓reduceIte, Nat.reduceEqDiff, Nat.reduceAdd, Nat.reduceMul, Nat.reduceSub, Nat.reduceLeDiff, Nat.reduceLT, Nat.reduceBEq, Nat.reduceBNe, reduceCtorEq, Int.reduceBEq, Int.reduceBNe, Int.reduceLT, Int.reduceLE, Int.reduceEq, Int.reduceToNat, Int.reduceAdd, Int.reduceSub, Int.reduceNeg], by simp +contextual only [vq, vc, ve, vv, vn, vl, ↓reduceIte, Nat.reduceEqDiff, Nat.reduceAdd, Nat.reduceMul, Nat.reduceSub, Nat.reduceLeDiff, Nat.reduceLT, Nat.reduceBEq, Nat.reduceBNe, reduceCtorEq, Int.reduceBEq, Int.reduceBNe, Int.reduceLT, Int.reduceLE, Int.reduceEq, Int.reduceToNat, Int.reduceAdd, Int.reduceSub, Int.reduceNeg], hz, ho5, Priv.nil, (fun _ h => by cases h), g35, hw5 _ (by have := g3.le; omega) lN1⟩
      | false =>
        rw [hro] at hq1
        cases hrc : (r == clM b) with
        | true =>
          rw [hrc] at hq2
          simp +contextual only [vq, vc, ve, vv, vn, vl, ↓reduceIte, Nat.reduceEqDiff, Nat.reduceAdd, Nat.reduceMul, Nat.reduceSub, Nat.reduceLeDiff, Nat.reduceLT, Nat.reduceBEq, Nat.reduceBNe, reduceCtorEq, Int.reduceBEq, Int.reduceBNe, Int.reduceLT, Int.reduceLE, Int.reduceEq, Int.reduceToNat, Int.reduceAdd, Int.reduceSub, Int.reduceNeg, hmk, A6, A7, A8, A9, A11, A12, A13, callR_val hc, callR_val hq1, callR_val hq2]
          refine new_mk fun N2 n2 => ?_
          obtain ⟨ca, cc, ce, N3, ha, hnext⟩ := hout1.copy hcur1.bytes (by have := join_len (l := inner); omega) (by omega) n2 (by have := g31.le; omega)
          simp +contextual only [vq, vc, ve, vv, vn, vl, ↓reduceIte, Nat.reduceEqDiff, Nat.reduceAdd, Nat.reduceMul, Nat.reduceSub, Nat.reduceLeDiff, Nat.reduceLT, Nat.reduceBEq, Nat.reduceBNe, reduceCtorEq, Int.reduceBEq, Int.reduceBNe, Int.reduceLT, Int.reduceLE, Int.reduceEq, Int.reduceToNat, Int.reduceAdd, Int.reduceSub, Int.reduceNeg, A9, ha]
          refine new_mk fun N4 n4 => ?_
          obtain ⟨R4, v', N5, k', hap, ho5, hag, hl5, hw5⟩ := hnext N4 n4
          have g35 : Grown M3 N5 := grown_of (by have := g31.le; omega) fun j hj => by
            rw [hag j (by have := g31.le; omega) fun h => by have := (hout.used (.inl h)).1; omega, g31.at hj]
          have hres : resParts s b = (out ++ [join inner], [.int .i64 0, .int .i64 0]) := by
            unfold resParts
            rw [← hp]
            simp [partsOf, hro, hrc]
          rw [hres]
          have RN := R1.grown g35
          obtain ⟨N6, w1, w2, w3, w4⟩ := putN_row (off := 0) (vs := [.int .i64 0, .int .i64 0]) RN (by simp)
          have w2 : RowIs N6 M.bl.length [.int .i64 0, .int .i64 0] := w2
          have ho6 := ho5.keep (N' := N6) fun j hj => w3.2 j (by have := (ho5.used hj).1; omega)
          have lw5 := hw5 m.bl.length (by have := g3.le; omega) lN1
          have lw : m.bl.length ≤ N6.low := by omega
          have hle3 := g3.le
          have hle5 := g35.le
          have hl6 := w3.1
          have ho7 := ho6
          obtain ⟨xs, x1, x2, x3, x4, x5, x6⟩ := ho6
          rcases x3.row with ⟨_, _, h0⟩ | ⟨j, g, hk, rfl, _⟩
          · simp at h0
          have hjn := x4 j hk
          have hnr : noref m.bl.length (.tuple [.slice (some ⟨.mem j g, 0⟩) (out ++ [join inner]).length (out ++ [join inner]).length 1, .agg [.int .i64 0, .int .i64 0]]) = false := by
            simp [noref, norefs]
            omega
          simp +contextual only [vq, vc, ve, vv, vn, vl, ↓reduceIte, Nat.reduceEqDiff, Nat.reduceAdd, Nat.reduceMul, Nat.reduceSub, Nat.reduceLeDiff, Nat.reduceLT, Nat.reduceBEq, Nat.reduceBNe, reduceCtorEq, Int.reduceBEq, Int.reduceBNe, Int.reduceLT, Int.reduceLE, Int.reduceEq, Int.reduceToNat, Int.reduceAdd, Int.reduceSub, Int.reduceNeg, R4.getN (G := G), hap, A5, w1]
          exact postX_new (by simp +contextual only [vq, vc, ve, vv, vn, vl, ↓reduceIte, Nat.reduceEqDiff, Nat.reduceAdd, Nat.reduceMul, Nat.reduceSub, Nat.reduceLeDiff, Nat.reduceLT, Nat.reduceBEq, Nat.reduceBNe, reduceCtorEq, Int.reduceBEq, Int.reduceBNe, Int.reduceLT, Int.reduceLE, Int.reduceEq, Int.reduceToNat, Int.reduceAdd, Int.reduceSub, Int.reduceNeg, w2.getN (G := G), A5]) hnr ⟨_, ⟨N6.bl, min m.low N6.low⟩, k', _, rfl, grown_of (by simp only; omega) fun i hi => by
            simp only
            rw [w3.2 i (by omega), ((hg.trans g3).trans g35).at hi], by simp only; omega, (ho7.weak (by omega)).keep fun j hj => rfl⟩
        | false =>
          rw [hrc] at hq2
          have hjl := join_len (l := inner)
          have hg31 := g31.le
          have hsrc := (hu.grown (g3.trans g31)).src
          cases hil : decide (0 < inner.length) with
          | false =>
            have h0 : inner = [] := List.length_eq_zero_iff.1 (by simpa using hil)
            subst h0
            obtain ⟨w', N2, kc', ha, hc2, hkc2, ho2, hag, hl2, hw2⟩ := hout1.beside hcur1 hkc hg31 r (by omega)
            simp +contextual only [vq, vc, ve, vv, vn, vl, ↓reduceIte, Nat.reduceEqDiff, Nat.reduceAdd, Nat.reduceMul, Nat.reduceSub, Nat.reduceLeDiff, Nat.reduceLT, Nat.reduceBEq, Nat.reduceBNe, reduceCtorEq, Int.reduceBEq, Int.reduceBNe, Int.reduceLT, Int.reduceLE, Int.reduceEq, Int.reduceToNat, Int.reduceAdd, Int.reduceSub, Int.reduceNeg, hmk, A6, A7, A8, A9, A10, A11, A12, A13, callR_val hc, callR_val hq1, callR_val hq2, hil, hsrc, ha]
            exact again2 hJ ls'.length (by simp) ⟨ls', s2, z, more', true, out, [r], k, es, kc', v, w', _, N2, rfl, rfl, hls', by rw [← hp]; simp [partsOf, hro, hrc], hs2, by simp [bulkL] at hbulk ⊢; omega, by simp [bulkL], by simp +contextual only [vq, vc, ve, vv, vn, vl, ↓reduceIte, Nat.reduceEqDiff, Nat.reduceAdd, Nat.reduceMul, Nat.reduceSub, Nat.reduceLeDiff, Nat.reduceLT, Nat.reduceBEq, Nat.reduceBNe, reduceCtorEq, Int.reduceBEq, Int.reduceBNe, Int.reduceLT, Int.reduceLE, Int.reduceEq, Int.reduceToNat, Int.reduceAdd, Int.reduceSub, Int.reduceNeg, A0], by simp +contextual only [vq, vc, ve, vv, vn, vl, ↓reduceIte, Nat.reduceEqDiff, Nat.reduceAdd, Nat.reduceMul, Nat.reduceSub, Nat.reduceLeDiff, Nat.reduceLT, Nat.reduceBEq, Nat.reduceBNe, reduceCtorEq, Int.reduceBEq, Int.reduceBNe, Int.reduceLT, Int.reduceLE, Int.reduceEq, Int.reduceToNat, Int.reduceAdd, Int.reduceSub, Int.reduceNeg, A5], by simp +contextual only [vq, vc, ve, vv, vn, vl, ↓reduceIte, Nat.reduceEqDiff, Nat.reduceAdd, Nat.reduceMul, Nat.reduceSub, Nat.reduceLeDiff, Nat.reduceLT, Nat.reduceBEq, Nat.reduceBNe, reduceCtorEq, Int.reduceBEq, Int.reduceBNe, Int.reduceLT, Int.reduceLE, Int.reduceEq, Int.reduceToNat, Int.reduceAdd, Int.reduceSub, Int.reduceNeg, A6], by simp +contextual only [vq, vc, ve, vv, vn, vl, ↓reduceIte, Nat.reduceEqDiff, Nat.reduceAdd, Nat.reduceMul, Nat.reduceSub, Nat.reduceLeDiff, Nat.reduceLT, Nat.reduceBEq, Nat.reduceBNe, reduceCtorEq, Int.reduceBEq, Int.reduceBNe, Int.reduceLT, Int.reduceLE, Int.reduceEq, Int.reduceToNat, Int.reduceAdd, Int.reduceSub, Int.reduceNeg, A7], by simp +contextual only [vq, vc, ve, vv, vn, vl, ↓reduceIte, Nat.reduceEqDiff, Nat.reduceAdd, Nat.reduceMul, Nat.reduceSub, Nat.reduceLeDiff, Nat.reduceLT, Nat.reduceBEq, Nat.reduceBNe, reduceCtorEq, Int.reduceBEq, Int.reduceBNe, Int.reduceLT, Int.reduceLE, Int.reduceEq, Int.reduceToNat, Int.reduceAdd, Int.reduceSub, Int.reduceNeg, A8], by simp +contextual only [vq, vc, ve, vv, vn, vl, ↓reduceIte, Nat.reduceEqDiff, Nat.reduceAdd, Nat.reduceMul, Nat.reduceSub, Nat.reduceLeDiff, Nat.reduceLT, Nat.reduceBEq, Nat.reduceBNe, reduceCtorEq, Int.reduceBEq, Int.reduceBNe, Int.reduceLT, Int.reduceLE, Int.reduceEq, Int.reduceToNat, Int.reduceAdd, Int.reduceSub, Int.reduceNeg], by simp +contextual only [vq, vc, ve, vv, vn, vl, ↓reduceIte, Nat.reduceEqDiff, Nat.reduceAdd, Nat.reduceMul, Nat.reduceSub, Nat.reduceLeDiff, Nat.reduceLT, Nat.reduceBEq, Nat.reduceBNe, reduceCtorEq, Int.reduceBEq, Int.reduceBNe, Int.reduceLT, Int.reduceLE, Int.reduceEq, Int.reduceToNat, Int.reduceAdd, Int.reduceSub, Int.reduceNeg]; rfl, by simp +contextual only [vq, vc, ve, vv, vn, vl, ↓reduceIte, Nat.reduceEqDiff, Nat.reduceAdd, Nat.reduceMul, Nat.reduceSub, Nat.reduceLeDiff, Nat.reduceLT, Nat.reduceBEq, Nat.reduceBNe, reduceCtorEq, Int.reduceBEq, Int.reduceBNe, Int.reduceLT, Int.reduceLE, Int.reduceEq, Int.reduceToNat, Int.reduceAdd, Int.reduceSub, Int.reduceNeg, A11], by simp +contextual only [vq, vc, ve, vv, vn, vl, ↓reduceIte, Nat.reduceEqDiff, Nat.reduceAdd, Nat.reduceMul, Nat.reduceSub, Nat.reduceLeDiff, Nat.reduceLT, Nat.reduceBEq, Nat.reduceBNe, reduceCtorEq, Int.reduceBEq, Int.reduceBNe, Int.reduceLT, Int.reduceLE, Int.reduceEq, Int.reduceToNat, Int.reduceAdd, Int.reduceSub, Int.reduceNeg], by simp +contextual only [vq, vc, ve, vv, vn, vl, ↓reduceIte, Nat.reduceEqDiff, Nat.reduceAdd, Nat.reduceMul, Nat.reduceSub, Nat.reduceLeDiff, Nat.reduceLT, Nat.reduceBEq, Nat.reduceBNe, reduceCtorEq, Int.reduceBEq, Int.reduceBNe, Int.reduceLT, Int.reduceLE, Int.reduceEq, Int.reduceToNat, Int.reduceAdd, Int.reduceSub, Int.reduceNeg], hz, ho2, by simpa [join] using hc2, hkc2, grown_of (by omega) fun j hj => by rw [hag j hj, g31.at hj], hw2 _ (by have := g3.le; omega) lN1⟩
          | true =>
            simp +contextual only [vq, vc, ve, vv, vn, vl, ↓reduceIte, Nat.reduceEqDiff, Nat.reduceAdd, Nat.reduceMul, Nat.reduceSub, Nat.reduceLeDiff, Nat.reduceLT, Nat.reduceBEq, Nat.reduceBNe, reduceCtorEq, Int.reduceBEq, Int.reduceBNe, Int.reduceLT, Int.reduceLE, Int.reduceEq, Int.reduceToNat, Int.reduceAdd, Int.reduceSub, Int.reduceNeg, hmk, A6, A7, A8, A9, A10, A11, A12, A13, callR_val hc, callR_val hq1, callR_val hq2, hil]
            refine new_mk fun N2 n2 => ?_
            have gN2 : Grown N1 N2 := by rw [n2]; exact Grown.rfl'.push
            have R2 : RowIs N2 N1.bl.length [.int .u8 13, .int .u8 10] := by rw [n2]; exact row_push _ _
            have lN2 : m.bl.length ≤ N2.low := by rw [n2]; exact lN1
            have hgl2 := gN2.le
            obtain ⟨w2, N3, kc2, ha2, hc2, hkc2, ho2, hag2, hl2, hw2⟩ := (hout1.grown gN2).beside (hcur1.grown gN2) hkc (by omega) [13, 10] (by simp; omega)
            have ha2 : appendE G N2 1 1 tagB w [.int .u8 13, .int .u8 10] 2 = some (w2, N3) := ha2
            have g3N : Grown M3 N3 := grown_of (by omega) fun j hj => by rw [hag2 j hj, gN2.at (by omega), g31.at hj]
            have lN3 := hw2 m.bl.length (by have := g3.le; omega) lN2
            have hg3N := g3N.le
            have hsrc := (hu.grown (g3.trans g3N)).src
            obtain ⟨w', N4, kc', ha, hc4, hkc4, ho4, hag, hl4, hw4⟩ := ho2.beside hc2 hkc2 (by omega) r (by simp; omega)
            have hj2 : join inner ++ [13, 10] ++ r = join (inner ++ [r]) := by
              rw [join_snoc, if_neg (by simp at hil; omega)]
              simp
            rw [hj2] at hc4
            simp +contextual only [vq, vc, ve, vv, vn, vl, ↓reduceIte, Nat.reduceEqDiff, Nat.reduceAdd, Nat.reduceMul, Nat.reduceSub, Nat.reduceLeDiff, Nat.reduceLT, Nat.reduceBEq, Nat.reduceBNe, reduceCtorEq, Int.reduceBEq, Int.reduceBNe, Int.reduceLT, Int.reduceLE, Int.reduceEq, Int.reduceToNat, Int.reduceAdd, Int.reduceSub, Int.reduceNeg, R2.getN (G := G), ha2, hsrc, ha, A10, wsucc (show inner.length < inner.length + 1 by omega) (by omega)]
            exact again2 hJ ls'.length (by simp) ⟨ls', s2, z, more', true, out, inner ++ [r], k, es, kc', v, w', _, N4, rfl, rfl, hls', by rw [← hp]; simp [partsOf, hro, hrc], hs2, by simp [bulkL] at hbulk ⊢; omega, by simp [bulkL] at hin ⊢; omega, by simp +contextual only [vq, vc, ve, vv, vn, vl, ↓reduceIte, Nat.reduceEqDiff, Nat.reduceAdd, Nat.reduceMul, Nat.reduceSub, Nat.reduceLeDiff, Nat.reduceLT, Nat.reduceBEq, Nat.reduceBNe, reduceCtorEq, Int.reduceBEq, Int.reduceBNe, Int.reduceLT, Int.reduceLE, Int.reduceEq, Int.reduceToNat, Int.reduceAdd, Int.reduceSub, Int.reduceNeg, A0], by simp +contextual only [vq, vc, ve, vv, vn, vl, ↓reduceIte, Nat.reduceEqDiff, Nat.reduceAdd, Nat.reduceMul, Nat.reduceSub, Nat.reduceLeDiff, Nat.reduceLT, Nat.reduceBEq, Nat.reduceBNe, reduceCtorEq, Int.reduceBEq, Int.reduceBNe, Int.reduceLT, Int.reduceLE, Int.reduceEq, Int.reduceToNat, Int.reduceAdd, Int.reduceSub, Int.reduceNeg, A5], by simp +contextual only [vq, vc, ve, vv, vn, vl, ↓reduceIte, Nat.reduceEqDiff, Nat.reduceAdd, Nat.reduceMul, Nat.reduceSub, Nat.reduceLeDiff, Nat.reduceLT, Nat.reduceBEq, Nat.reduceBNe, reduceCtorEq, Int.reduceBEq, Int.reduceBNe, Int.reduceLT, Int.reduceLE, Int.reduceEq, Int.reduceToNat, Int.reduceAdd, Int.reduceSub, Int.reduceNeg, A6], by simp +contextual only [vq, vc, ve, vv, vn, vl, ↓reduceIte, Nat.reduceEqDiff, Nat.reduceAdd, Nat.reduceMul, Nat.reduceSub, Nat.reduceLeDiff, Nat.reduceLT, Nat.reduceBEq, Nat.reduceBNe, reduceCtorEq, Int.reduceBEq, Int.reduceBNe, Int.reduceLT, Int.reduceLE, Int.reduceEq, Int.reduceToNat, Int.reduceAdd, Int.reduceSub, Int.reduceNeg, A7], by simp +contextual only [vq, vc, ve, vv, vn, vl, ↓reduceIte, Nat.reduceEqDiff, Nat.reduceAdd, Nat.reduceMul, Nat.reduceSub, Nat.reduceLeDiff, Nat.reduceLT, Nat.reduceBEq, Nat.reduceBNe, reduceCtorEq, Int.reduceBEq, Int.reduceBNe, Int.reduceLT, Int.reduceLE, Int.reduceEq, Int.reduceToNat, Int.reduceAdd, Int.reduceSub, Int.reduceNeg, A8], by simp +contextual only [vq, vc, ve, vv, vn, vl, ↓reduceIte, Nat.reduceEqDiff, Nat.reduceAdd, Nat.reduceMul, Nat.reduceSub, Nat.reduceLeDiff, Nat.reduceLT, Nat.reduceBEq, Nat.reduceBNe, reduceCtorEq, Int.reduceBEq, Int.reduceBNe, Int.reduceLT, Int.reduceLE, Int.reduceEq, Int.reduceToNat, Int.reduceAdd, Int.reduceSub, Int.reduceNeg], by simp +contextual only [vq, vc, ve, vv, vn, vl, ↓reduceIte, Nat.reduceEqDiff, Nat.reduceAdd, Nat.reduceMul, Nat.reduceSub, Nat.reduceLeDiff, Nat.reduceLT, Nat.reduceBEq, Nat.reduceBNe, reduceCtorEq, Int.reduceBEq, Int.reduceBNe, Int.reduceLT, Int.reduceLE, Int.reduceEq, Int.reduceToNat, Int.reduceAdd, Int.reduceSub, Int.reduceNeg]; simp, by simp +contextual only [vq, vc, ve, vv, vn, vl, ↓reduceIte, Nat.reduceEqDiff, Nat.reduceAdd, Nat.reduceMul, Nat.reduceSub, Nat.reduceLeDiff, Nat.reduceLT, Nat.reduceBEq, Nat.reduceBNe, reduceCtorEq, Int.reduceBEq, Int.reduceBNe, Int.reduceLT, Int.reduceLE, Int.reduceEq, Int.reduceToNat, Int.reduceAdd, Int.reduceSub, Int.reduceNeg, A11], by simp +contextual only [vq, vc, ve, vv, vn, vl, ↓reduceIte, Nat.reduceEqDiff, Nat.reduceAdd, Nat.reduceMul, Nat.reduceSub, Nat.reduceLeDiff, Nat.reduceLT, Nat.reduceBEq, Nat.reduceBNe, reduceCtorEq, Int.reduceBEq, Int.reduceBNe, Int.reduceLT, Int.reduceLE, Int.reduceEq, Int.reduceToNat, Int.reduceAdd, Int.reduceSub, Int.reduceNeg], by simp +contextual only [vq, vc, ve, vv, vn, vl, ↓reduceIte, Nat.reduceEqDiff, Nat.reduceAdd, Nat.reduceMul, Nat.reduceSub, Nat.reduceLeDiff, Nat.reduceLT, Nat.reduceBEq, Nat.reduceBNe, reduceCtorEq, Int.reduceBEq, Int.reduceBNe, Int.reduceLT, Int.reduceLE, Int.reduceEq, Int.reduceToNat, Int.reduceAdd, Int.reduceSub, Int.reduceNeg], hz, ho4, hc4, hkc4, grown_of (by omega) fun j hj => by rw [hag j hj, g3N.at hj], hw4 _ (by have := g3.le; omega) lN3⟩
end Go.Proofs.YtjlpfijbnflknaaDoor.bounceParts

namespace Go.Proofs.YtjlpfijbnflknaaDoor.bounceParts
open Go.Ev hiding Comes
variable [GG]

/-- A slice of texts. -/
def StrsAt (m : Mem) (v : EV) (l : List (List UInt8)) : Prop := RowsAt G m 1 v (l.map fun r => [.str r])
theorem priv_strs {k : Option Nat} {m : Mem} {v : EV} {l : List (List UInt8)} (h : Priv k 1 0 m v (l.map .str) l.length) : StrsAt m v l := by
  have e : l.map EV.str = (l.map fun r => [EV.str r]).flatten := by
    clear h
    induction l with
    | nil => rfl
    | cons x xs ih => simpa using ih
  rw [e] at h
  exact h.rows (by simp) (by simp)
theorem crlf_at {s : List UInt8} {j : Nat} (h : j + 1 < s.length) : (s.drop j).take 2 = [13, 10] ↔ s[j] = 13 ∧ s[j + 1] = 10 := by
  rw [List.drop_eq_getElem_cons (show j < s.length by omega), List.drop_eq_getElem_cons h]
  simp only [List.take_succ_cons, List.take_zero, List.cons.injEq, and_true]
theorem c_r30_Rows (m : Mem) (x : EV) (s : List UInt8) (hx : BytesAt G m x s) (hs : s.length ≤ 100000000) :
    ∃ v m', Go.Ev.Comes T G f_r30_Rows [x] m none ⟨.val v, m', none⟩ ∧ Grown m m' ∧ min m.low m.bl.length ≤ m'.low ∧ StrsAt m' v (lines s) := by
  suffices H : ∃ r, Go.Ev.Comes T G f_r30_Rows [x] m none r ∧ ∃ v m', r = ⟨.val v, m', none⟩ ∧ Grown m m' ∧ min m.low m.bl.length ≤ m'.low ∧ StrsAt m' v (lines s) by
    obtain ⟨_, hc, v, m', rfl, h⟩ := H
    exact ⟨v, m', hc, h⟩
  refine comes2P T_r30_Rows rfl fun M hg hlen hlow => ?_
  have hl0 : m.bl.length ≤ M.low := by omega
  have hx := hx.grown hg
  obtain ⟨a0, c0, e0, sx⟩ := hx.slice
  have lx : lnbE x = some (.int .i64 s.length) := by rw [sx]; rfl
  simp only [F_r30_Rows]
  simp +contextual only [vq, vc, ve, vv, vn, vl, ↓reduceIte, Nat.reduceEqDiff, Nat.reduceAdd, Nat.reduceMul, Nat.reduceSub, Nat.reduceLeDiff, Nat.reduceLT, Nat.reduceBEq, Nat.reduceBNe, reduceCtorEq, Int.reduceBEq, Int.reduceBNe, Int.reduceLT, Int.reduceLE, Int.reduceEq, Int.reduceToNat, Int.reduceAdd, Int.reduceSub, Int.reduceNeg]
  refine loop2 (fun q st => ∃ (i b : Nat) (out : List (List UInt8)) (k : Option Nat) (v : EV) (A : Fr) (N : Mem), st = ⟨A, N, [], none⟩ ∧ q = s.length - i ∧ 1 ≤ i ∧ b ≤ i ∧ b ≤ s.length ∧ i ≤ s.length + 1 ∧ out.length ≤ b ∧ A 0 = x ∧ A 3 = v ∧ A 4 = .int .i64 (b : Nat) ∧ A 5 = .int .i64 (i : Nat) ∧ Priv k 1 0 N v (out.map .str) out.length ∧ (∀ j, k = some j → M.bl.length ≤ j) ∧ Grown M N ∧ m.bl.length ≤ N.low ∧ out ++ lines (s.drop b) = lines s ∧ ∀ j, b ≤ j → j + 1 < i → (s.drop j).take 2 ≠ [13, 10]) (s.length - 1) ⟨1, 0, [], none, _, _, M, rfl, rfl, by omega, by omega, by omega, by omega, by simp, by simp +contextual only [vq, vc, ve, vv, vn, vl, ↓reduceIte, Nat.reduceEqDiff, Nat.reduceAdd, Nat.reduceMul, Nat.reduceSub, Nat.reduceLeDiff, Nat.reduceLT, Nat.reduceBEq, Nat.reduceBNe, reduceCtorEq, Int.reduceBEq, Int.reduceBNe, Int.reduceLT, Int.reduceLE, Int.reduceEq, Int.reduceToNat, Int.reduceAdd, Int.reduceSub, Int.reduceNeg], by simp +contextual only [vq, vc, ve, vv, vn, vl, ↓reduceIte, Nat.reduceEqDiff, Nat.reduceAdd, Nat.reduceMul, Nat.reduceSub, Nat.reduceLeDiff, Nat.reduceLT, Nat.reduceBEq, Nat.reduceBNe, reduceCtorEq, Int.reduceBEq, Int.reduceBNe, Int.reduceLT, Int.reduceLE, Int.reduceEq, Int.reduceToNat, Int.reduceAdd, Int.reduceSub, Int.reduceNeg], by simp +contextual only [vq, vc, ve, vv, vn, vl, ↓reduceIte, Nat.reduceEqDiff, Nat.reduceAdd, Nat.reduceMul, Nat.reduceSub, Nat.reduceLeDiff, Nat.reduceLT, Nat.reduceBEq, Nat.reduceBNe, reduceCtorEq, Int.reduceBEq, Int.reduceBNe, Int.reduceLT, Int.reduceLE, Int.reduceEq, Int.reduceToNat, Int.reduceAdd, Int.reduceSub, Int.reduceNeg]; rfl, by simp +contextual only [vq, vc, ve, vv, vn, vl, ↓reduceIte, Nat.reduceEqDiff, Nat.reduceAdd, Nat.reduceMul, Nat.reduceSub, Nat.reduceLeDiff, Nat.reduceLT, Nat.reduceBEq, Nat.reduceBNe, reduceCtorEq, Int.reduceBEq, Int.reduceBNe, Int.reduceLT, Int.reduceLE, Int.reduceEq, Int.reduceToNat, Int.reduceAdd, Int.reduceSub, Int.reduceNeg]; rfl, Priv.nil, (fun _ h => by cases h), Grown.rfl', hl0, by simp, fun j h1 h2 => by omega⟩ fun J hJ q st hI => ?_
  obtain ⟨i, b, out, k, v, A, N, rfl, rfl, hi1, hbi, hbs, his, hob, A0, A3, A4, A5, hv, hk, hgN, hlN, hlin, hno⟩ := hI
  by_cases hlt : i < s.length
  · obtain ⟨a, cap, ex, hc, ho, hgx, hat⟩ := (hx.grown hgN).pos (by rintro rfl; simp at hlt)
    rw [ex] at A0
    by_cases hbi2 : b < i
    · have hm1 : IntKind.i64.wrap ((i : Int) - 1) = ((i - 1 : Nat) : Int) := wrap_of (by omega) (by omega)
      have hil : i - 1 < s.length := by omega
      have u1 : ((s[i].toNat : Int) == 10) = (s[i] == 10) := u8_eq s[i] 10
      have u2 : ((s[i - 1].toNat : Int) == 13) = (s[i - 1] == 13) := u8_eq s[i - 1] 13
      have hcr := crlf_at (s := s) (j := i - 1) (by omega)
      have hii : i - 1 + 1 = i := by omega
      simp only [hii] at hcr
      have next : (s.drop (i - 1)).take 2 ≠ [13, 10] → ∀ j, b ≤ j → j + 1 < i + 1 → (s.drop j).take 2 ≠ [13, 10] := fun h j h1 h2 => by
        by_cases hj : j = i - 1
        · rw [hj]; exact h
        · exact hno j h1 (by omega)
      cases h1 : s[i] == 10 with
      | false =>
        rw [h1] at u1
        have hn : (s.drop (i - 1)).take 2 ≠ [13, 10] := fun h => by
          have := (hcr.1 h).2
          simp [this] at h1
        simp +contextual only [vq, vc, ve, vv, vn, vl, ↓reduceIte, Nat.reduceEqDiff, Nat.reduceAdd, Nat.reduceMul, Nat.reduceSub, Nat.reduceLeDiff, Nat.reduceLT, Nat.reduceBEq, Nat.reduceBNe, reduceCtorEq, Int.reduceBEq, Int.reduceBNe, Int.reduceLT, Int.reduceLE, Int.reduceEq, Int.reduceToNat, Int.reduceAdd, Int.reduceSub, Int.reduceNeg, A0, A3, A4, A5, hlt, hbi2, hat _ hlt, hat _ hil, hm1, hil, u1, wsucc hlt (by omega)]
        exact again2 hJ (s.length - (i + 1)) (by omega) ⟨i + 1, b, out, k, v, _, N, rfl, rfl, by omega, by omega, by omega, by omega, by omega, by simp +contextual only [vq, vc, ve, vv, vn, vl, ↓reduceIte, Nat.reduceEqDiff, Nat.reduceAdd, Nat.reduceMul, Nat.reduceSub, Nat.reduceLeDiff, Nat.reduceLT, Nat.reduceBEq, Nat.reduceBNe, reduceCtorEq, Int.reduceBEq, Int.reduceBNe, Int.reduceLT, Int.reduceLE, Int.reduceEq, Int.reduceToNat, Int.reduceAdd, Int.reduceSub, Int.reduceNeg, A0, ex], by simp +contextual only [vq, vc, ve, vv, vn, vl, ↓reduceIte, Nat.reduceEqDiff, Nat.reduceAdd, Nat.reduceMul, Nat.reduceSub, Nat.reduceLeDiff, Nat.reduceLT, Nat.reduceBEq, Nat.reduceBNe, reduceCtorEq, Int.reduceBEq, Int.reduceBNe, Int.reduceLT, Int.reduceLE, Int.reduceEq, Int.reduceToNat, Int.reduceAdd, Int.reduceSub, Int.reduceNeg, A3], by simp +contextual only [vq, vc, ve, vv, vn, vl, ↓reduceIte, Nat.reduceEqDiff, Nat.reduceAdd, Nat.reduceMul, Nat.reduceSub, Nat.reduceLeDiff, Nat.reduceLT, Nat.reduceBEq, Nat.reduceBNe, reduceCtorEq, Int.reduceBEq, Int.reduceBNe, Int.reduceLT, Int.reduceLE, Int.reduceEq, Int.reduceToNat, Int.reduceAdd, Int.reduceSub, Int.reduceNeg, A4], by simp +contextual only [vq, vc, ve, vv, vn, vl, ↓reduceIte, Nat.reduceEqDiff, Nat.reduceAdd, Nat.reduceMul, Nat.reduceSub, Nat.reduceLeDiff, Nat.reduceLT, Nat.reduceBEq, Nat.reduceBNe, reduceCtorEq, Int.reduceBEq, Int.reduceBNe, Int.reduceLT, Int.reduceLE, Int.reduceEq, Int.reduceToNat, Int.reduceAdd, Int.reduceSub, Int.reduceNeg], hv, hk, hgN, hlN, hlin, next hn⟩
      | true =>
        rw [h1] at u1
        cases h2 : s[i - 1] == 13 with
        | false =>
          rw [h2] at u2
          have hn : (s.drop (i - 1)).take 2 ≠ [13, 10] := fun h => by
            have := (hcr.1 h).1
            simp [this] at h2
          simp +contextual only [vq, vc, ve, vv, vn, vl, ↓reduceIte, Nat.reduceEqDiff, Nat.reduceAdd, Nat.reduceMul, Nat.reduceSub, Nat.reduceLeDiff, Nat.reduceLT, Nat.reduceBEq, Nat.reduceBNe, reduceCtorEq, Int.reduceBEq, Int.reduceBNe, Int.reduceLT, Int.reduceLE, Int.reduceEq, Int.reduceToNat, Int.reduceAdd, Int.reduceSub, Int.reduceNeg, A0, A3, A4, A5, hlt, hbi2, hat _ hlt, hat _ hil, hm1, hil, u1, u2, wsucc hlt (by omega)]
          exact again2 hJ (s.length - (i + 1)) (by omega) ⟨i + 1, b, out, k, v, _, N, rfl, rfl, by omega, by omega, by omega, by omega, by omega, by simp +contextual only [vq, vc, ve, vv, vn, vl, ↓reduceIte, Nat.reduceEqDiff, Nat.reduceAdd, Nat.reduceMul, Nat.reduceSub, Nat.reduceLeDiff, Nat.reduceLT, Nat.reduceBEq, Nat.reduceBNe, reduceCtorEq, Int.reduceBEq, Int.reduceBNe, Int.reduceLT, Int.reduceLE, Int.reduceEq, Int.reduceToNat, Int.reduceAdd, Int.reduceSub, Int.reduceNeg, A0, ex], by simp +contextual only [vq, vc, ve, vv, vn, vl, ↓reduceIte, Nat.reduceEqDiff, Nat.reduceAdd, Nat.reduceMul, Nat.reduceSub, Nat.reduceLeDiff, Nat.reduceLT, Nat.reduceBEq, Nat.reduceBNe, reduceCtorEq, Int.reduceBEq, Int.reduceBNe, Int.reduceLT, Int.reduceLE, Int.reduceEq, Int.reduceToNat, Int.reduceAdd, Int.reduceSub, Int.reduceNeg, A3], by simp +contextual only [vq, vc, ve, vv, vn, vl, ↓reduceIte, Nat.reduceEqDiff, Nat.reduceAdd, Nat.reduceMul, Nat.reduceSub, Nat.reduceLeDiff, Nat.reduceLT, Nat.reduceBEq, Nat.reduceBNe, reduceCtorEq, Int.reduceBEq, Int.reduceBNe, Int.reduceLT, Int.reduceLE, Int.reduceEq, Int.reduceToNat, Int.reduceAdd, Int.reduceSub, Int.reduceNeg, A4], by simp +contextual only [vq, vc, ve, vv, vn, vl, ↓reduceIte, Nat.reduceEqDiff, Nat.reduceAdd, Nat.reduceMul, Nat.reduceSub, Nat.reduceLeDiff, Nat.reduceLT, Nat.reduceBEq, Nat.reduceBNe, reduceCtorEq, Int.reduceBEq, Int.reduceBNe, Int.reduceLT, Int.reduceLE, Int.reduceEq, Int.reduceToNat, Int.reduceAdd, Int.reduceSub, Int.reduceNeg], hv, hk, hgN, hlN, hlin, next hn⟩
        | true =>
          rw [h2] at u2
          have hy : (s.drop (i - 1)).take 2 = [13, 10] := hcr.2 ⟨by simpa using h2, by simpa using h1⟩
          have hidx : Go.Lib.index (s.drop b) [13, 10] = ((i - 1 - b : Nat) : Int) := index_at (t := [13, 10]) (by simp; omega) (by
            rw [List.drop_drop, show b + (i - 1 - b) = i - 1 by omega]
            exact hy) fun j hj => by
            rw [List.drop_drop]
            exact hno _ (by omega) (by omega)
          rw [lines_some hidx, List.drop_drop, show b + (i - 1 - b + 2) = i + 1 by omega] at hlin
          have hpg := part_getN hgx (show b ≤ i - 1 by omega) (by omega)
          have hbl : b ≤ i - 1 := by omega
          have hic : i - 1 ≤ cap := by omega
          simp +contextual only [vq, vc, ve, vv, vn, vl, ↓reduceIte, Nat.reduceEqDiff, Nat.reduceAdd, Nat.reduceMul, Nat.reduceSub, Nat.reduceLeDiff, Nat.reduceLT, Nat.reduceBEq, Nat.reduceBNe, reduceCtorEq, Int.reduceBEq, Int.reduceBNe, Int.reduceLT, Int.reduceLE, Int.reduceEq, Int.reduceToNat, Int.reduceAdd, Int.reduceSub, Int.reduceNeg, A0, A3, A4, A5, hlt, hbi2, hat _ hlt, hat _ hil, hm1, hil, u1, u2, hbl, hic, hpg]
          refine new_mk fun N1 n1 => ?_
          have gN1 : Grown N N1 := by rw [n1]; exact Grown.rfl'.push
          have R1 : RowIs N1 N.bl.length [.str ((s.drop b).take (i - 1 - b))] := by rw [n1]; exact row_push _ _
          have lN1 : m.bl.length ≤ N1.low := by rw [n1]; exact hlN
          obtain ⟨v', N2, k', ha, hv2, hk2, hag, hl2, hw2⟩ := (hv.grown gN1).app (G := G) (bytes := 16) (cnt := 1) (new := [.str ((s.drop b).take (i - 1 - b))]) tagOk_0 (by omega) rfl (by omega)
          have hgl := gN1.le
          have hgl2 := hgN.le
          have hk2' : ∀ j, k' = some j → M.bl.length ≤ j := fun j hj => by
            rcases hk2 with h | ⟨_, h⟩
            · exact hk j (by rw [← h, hj])
            · rw [h] at hj; cases hj; omega
          have g2 : Grown M N2 := grown_of (by omega) fun j hj => by
            rw [hag j (by omega) fun h => by have := hk j h.symm; omega, (hgN.trans gN1).at hj]
          simp +contextual only [vq, vc, ve, vv, vn, vl, ↓reduceIte, Nat.reduceEqDiff, Nat.reduceAdd, Nat.reduceMul, Nat.reduceSub, Nat.reduceLeDiff, Nat.reduceLT, Nat.reduceBEq, Nat.reduceBNe, reduceCtorEq, Int.reduceBEq, Int.reduceBNe, Int.reduceLT, Int.reduceLE, Int.reduceEq, Int.reduceToNat, Int.reduceAdd, Int.reduceSub, Int.reduceNeg, R1.getN (G := G), ha, A5, wsucc hlt (by omega)]
          exact again2 hJ (s.length - (i + 1)) (by omega) ⟨i + 1, i + 1, out ++ [(s.drop b).take (i - 1 - b)], k', v', _, N2, rfl, rfl, by omega, by omega, by omega, by omega, by simp; omega, by simp +contextual only [vq, vc, ve, vv, vn, vl, ↓reduceIte, Nat.reduceEqDiff, Nat.reduceAdd, Nat.reduceMul, Nat.reduceSub, Nat.reduceLeDiff, Nat.reduceLT, Nat.reduceBEq, Nat.reduceBNe, reduceCtorEq, Int.reduceBEq, Int.reduceBNe, Int.reduceLT, Int.reduceLE, Int.reduceEq, Int.reduceToNat, Int.reduceAdd, Int.reduceSub, Int.reduceNeg, A0, ex], by simp +contextual only [vq, vc, ve, vv, vn, vl, ↓reduceIte, Nat.reduceEqDiff, Nat.reduceAdd, Nat.reduceMul, Nat.reduceSub, Nat.reduceLeDiff, Nat.reduceLT, Nat.reduceBEq, Nat.reduceBNe, reduceCtorEq, Int.reduceBEq, Int.reduceBNe, Int.reduceLT, Int.reduceLE, Int.reduceEq, Int.reduceToNat, Int.reduceAdd, Int.reduceSub, Int.reduceNeg], by simp +contextual only [vq, vc, ve, vv, vn, vl, ↓reduceIte, Nat.reduceEqDiff, Nat.reduceAdd, Nat.reduceMul, Nat.reduceSub, Nat.reduceLeDiff, Nat.reduceLT, Nat.reduceBEq, Nat.reduceBNe, reduceCtorEq, Int.reduceBEq, Int.reduceBNe, Int.reduceLT, Int.reduceLE, Int.reduceEq, Int.reduceToNat, Int.reduceAdd, Int.reduceSub, Int.reduceNeg], by simp +contextual only [vq, vc, ve, vv, vn, vl, ↓reduceIte, Nat.reduceEqDiff, Nat.reduceAdd, Nat.reduceMul, Nat.reduceSub, Nat.reduceLeDiff, Nat.reduceLT, Nat.reduceBEq, Nat.reduceBNe, reduceCtorEq, Int.reduceBEq, Int.reduceBNe, Int.reduceLT, Int.reduceLE, Int.reduceEq, Int.reduceToNat, Int.reduceAdd, Int.reduceSub, Int.reduceNeg], by simpa using hv2, hk2', g2, hw2 _ lN1 (by omega) (fun j hj => by have := hk j hj; omega), by rw [← hlin]; simp, fun j h1 h2 => by omega⟩
    · simp +contextual only [vq, vc, ve, vv, vn, vl, ↓reduceIte, Nat.reduceEqDiff, Nat.reduceAdd, Nat.reduceMul, Nat.reduceSub, Nat.reduceLeDiff, Nat.reduceLT, Nat.reduceBEq, Nat.reduceBNe, reduceCtorEq, Int.reduceBEq, Int.reduceBNe, Int.reduceLT, Int.reduceLE, Int.reduceEq, Int.reduceToNat, Int.reduceAdd, Int.reduceSub, Int.reduceNeg, A0, A4, A5, hlt, hbi2, wsucc hlt (by omega)]
      exact again2 hJ (s.length - (i + 1)) (by omega) ⟨i + 1, b, out, k, v, _, N, rfl, rfl, by omega, by omega, by omega, by omega, by omega, by simp +contextual only [vq, vc, ve, vv, vn, vl, ↓reduceIte, Nat.reduceEqDiff, Nat.reduceAdd, Nat.reduceMul, Nat.reduceSub, Nat.reduceLeDiff, Nat.reduceLT, Nat.reduceBEq, Nat.reduceBNe, reduceCtorEq, Int.reduceBEq, Int.reduceBNe, Int.reduceLT, Int.reduceLE, Int.reduceEq, Int.reduceToNat, Int.reduceAdd, Int.reduceSub, Int.reduceNeg, A0, ex], by simp +contextual only [vq, vc, ve, vv, vn, vl, ↓reduceIte, Nat.reduceEqDiff, Nat.reduceAdd, Nat.reduceMul, Nat.reduceSub, Nat.reduceLeDiff, Nat.reduceLT, Nat.reduceBEq, Nat.reduceBNe, reduceCtorEq, Int.reduceBEq, Int.reduceBNe, Int.reduceLT, Int.reduceLE, Int.reduceEq, Int.reduceToNat, Int.reduceAdd, Int.reduceSub, Int.reduceNeg, A3], by simp +contextual only [vq, vc, ve, vv, vn, vl, ↓reduceIte, Nat.reduceEqDiff, Nat.reduceAdd, Nat.reduceMul, Nat.reduceSub, Nat.reduceLeDiff, Nat.reduceLT, Nat.reduceBEq, Nat.reduceBNe, reduceCtorEq, Int.reduceBEq, Int.reduceBNe, Int.reduceLT, Int.reduceLE, Int.reduceEq, Int.reduceToNat, Int.reduceAdd, Int.reduceSub, Int.reduceNeg, A4], by simp +contextual only [vq, vc, ve, vv, vn, vl, ↓reduceIte, Nat.reduceEqDiff, Nat.reduceAdd, Nat.reduceMul, Nat.reduceSub, Nat.reduceLeDiff, Nat.reduceLT, Nat.reduceBEq, Nat.reduceBNe, reduceCtorEq, Int.reduceBEq, Int.reduceBNe, Int.reduceLT, Int.reduceLE, Int.reduceEq, Int.reduceToNat, Int.reduceAdd, Int.reduceSub, Int.reduceNeg], hv, hk, hgN, hlN, hlin, fun j h1 h2 => by omega⟩
  · have hnone : Go.Lib.index (s.drop b) [13, 10] < 0 := by
      have := index_no (s := s.drop b) (t := [13, 10]) fun j hj => by
        rw [List.drop_drop]
        simp at hj
        exact hno _ (by omega) (by omega)
      omega
    rw [lines_none hnone] at hlin
    have hgl2 := hgN.le
    have fin : ∀ N1, N1 = N.push (.cells [.str (s.drop b)] 0 true) → RowIs N1 N.bl.length [.str (s.drop b)] ∧ ∃ a c e N2, appendE G N1 1 16 0 v [.str (s.drop b)] 1 = some (.slice a c c e, N2) ∧ noref m.bl.length (.slice a c c e) = false ∧ ∃ v m', (⟨.val (.slice a c c e), ⟨N2.bl, min m.low N2.low⟩, none⟩ : CR) = ⟨.val v, m', none⟩ ∧ Grown m m' ∧ min m.low m.bl.length ≤ m'.low ∧ StrsAt m' v (lines s) := fun N1 n1 => by
      have gN1 : Grown N N1 := by rw [n1]; exact Grown.rfl'.push
      have lN1 : m.bl.length ≤ N1.low := by rw [n1]; exact hlN
      obtain ⟨v', N2, k', ha, hv2, hk2, hag, hl2, hw2⟩ := (hv.grown gN1).app (G := G) (bytes := 16) (cnt := 1) (new := [.str (s.drop b)]) tagOk_0 (by omega) rfl (by omega)
      have hgl := gN1.le
      have hk2' : ∀ j, k' = some j → M.bl.length ≤ j := fun j hj => by
        rcases hk2 with h | ⟨_, h⟩
        · exact hk j (by rw [← h, hj])
        · rw [h] at hj; cases hj; omega
      have g2 : Grown M N2 := grown_of (by omega) fun j hj => by
        rw [hag j (by omega) fun h => by have := hk j h.symm; omega, (hgN.trans gN1).at hj]
      have hw3 := hw2 m.bl.length lN1 (by omega) (fun j hj => by have := hk j hj; omega)
      have hv3 : Priv k' 1 0 N2 v' ((lines s).map .str) (lines s).length := by rw [← hlin]; simpa using hv2
      rcases hv2.row with ⟨_, _, h0⟩ | ⟨j, g, hj, rfl, _⟩
      · omega
      · have := hk2' j hj
        refine ⟨by rw [n1]; exact row_push _ _, _, _, _, N2, ha, by simp [noref]; omega, _, _, rfl, hg.trans g2, by simp only; omega, ?_⟩
        exact priv_strs (hv3.keep fun _ _ => rfl)
    rcases hx.grown hgN with ⟨rfl, rfl⟩ | ⟨a, cap, ex, hc, ho, hgx⟩
    · have hb0 : b = 0 := by simpa using hbs
      subst hb0
      have hlt0 : ¬ i < 0 := by omega
      have k0 : slE 1 (.slice none 0 0 0) (some (.int .i64 ((0 : Nat) : Int))) none = some (.slice none 0 0 0) := rfl
      rw [List.drop_nil] at fin
      simp +contextual only [vq, vc, ve, vv, vn, vl, ↓reduceIte, Nat.reduceEqDiff, Nat.reduceAdd, Nat.reduceMul, Nat.reduceSub, Nat.reduceLeDiff, Nat.reduceLT, Nat.reduceBEq, Nat.reduceBNe, reduceCtorEq, Int.reduceBEq, Int.reduceBNe, Int.reduceLT, Int.reduceLE, Int.reduceEq, Int.reduceToNat, Int.reduceAdd, Int.reduceSub, Int.reduceNeg, A0, A3, A4, A5, hlt0, k0]
      refine new_mk fun N1 n1 => ?_
      obtain ⟨R1, ra, rc, re, N2, ha, hnr, hfin⟩ := fin N1 n1
      simp +contextual only [vq, vc, ve, vv, vn, vl, ↓reduceIte, Nat.reduceEqDiff, Nat.reduceAdd, Nat.reduceMul, Nat.reduceSub, Nat.reduceLeDiff, Nat.reduceLT, Nat.reduceBEq, Nat.reduceBNe, reduceCtorEq, Int.reduceBEq, Int.reduceBNe, Int.reduceLT, Int.reduceLE, Int.reduceEq, Int.reduceToNat, Int.reduceAdd, Int.reduceSub, Int.reduceNeg, R1.getN (G := G), ha]
      exact postX_new (by simp +contextual only [vq, vc, ve, vv, vn, vl, ↓reduceIte, Nat.reduceEqDiff, Nat.reduceAdd, Nat.reduceMul, Nat.reduceSub, Nat.reduceLeDiff, Nat.reduceLT, Nat.reduceBEq, Nat.reduceBNe, reduceCtorEq, Int.reduceBEq, Int.reduceBNe, Int.reduceLT, Int.reduceLE, Int.reduceEq, Int.reduceToNat, Int.reduceAdd, Int.reduceSub, Int.reduceNeg]) hnr hfin
    · have hpg := part_getN hgx hbs (Nat.le_refl _)
      rw [List.take_of_length_le (by simp)] at hpg
      have hbc : b ≤ s.length := hbs
      rw [ex] at A0
      simp +contextual only [vq, vc, ve, vv, vn, vl, ↓reduceIte, Nat.reduceEqDiff, Nat.reduceAdd, Nat.reduceMul, Nat.reduceSub, Nat.reduceLeDiff, Nat.reduceLT, Nat.reduceBEq, Nat.reduceBNe, reduceCtorEq, Int.reduceBEq, Int.reduceBNe, Int.reduceLT, Int.reduceLE, Int.reduceEq, Int.reduceToNat, Int.reduceAdd, Int.reduceSub, Int.reduceNeg, A0, A3, A4, A5, hlt, hbc, hc, hpg]
      refine new_mk fun N1 n1 => ?_
      obtain ⟨R1, ra, rc, re, N2, ha, hnr, hfin⟩ := fin N1 n1
      simp +contextual only [vq, vc, ve, vv, vn, vl, ↓reduceIte, Nat.reduceEqDiff, Nat.reduceAdd, Nat.reduceMul, Nat.reduceSub, Nat.reduceLeDiff, Nat.reduceLT, Nat.reduceBEq, Nat.reduceBNe, reduceCtorEq, Int.reduceBEq, Int.reduceBNe, Int.reduceLT, Int.reduceLE, Int.reduceEq, Int.reduceToNat, Int.reduceAdd, Int.reduceSub, Int.reduceNeg, R1.getN (G := G), ha]
      exact postX_new (by simp +contextual only [vq, vc, ve, vv, vn, vl, ↓reduceIte, Nat.reduceEqDiff, Nat.reduceAdd, Nat.reduceMul, Nat.reduceSub, Nat.reduceLeDiff, Nat.reduceLT, Nat.reduceBEq, Nat.reduceBNe, reduceCtorEq, Int.reduceBEq, Int.reduceBNe, Int.reduceLT, Int.reduceLE, Int.reduceEq, Int.reduceToNat, Int.reduceAdd, Int.reduceSub, Int.reduceNeg]) hnr hfin
end Go.Proofs.YtjlpfijbnflknaaDoor.bounceParts

namespace Go.Proofs.YtjlpfijbnflknaaDoor.bounceParts
open Go.Ev hiding Comes
variable [GG]

theorem bulk_take {l : List (List UInt8)} {i : Nat} (hi : i < l.length) : bulkL (l.take i) + (l[i].length + 2) ≤ bulkL l := by
  have h : bulkL l = bulkL (l.take i) + bulkL (l.drop i) := by
    have e : l = l.take i ++ l.drop i := (List.take_append_drop i l).symm
    unfold bulkL
    conv => lhs; rw [e]
    rw [List.map_append, List.sum_append]
  rw [h, List.drop_eq_getElem_cons hi]
  simp only [bulkL, List.map_cons, List.sum_cons]
  omega
theorem StrsAt.at {m : Mem} {v : EV} {l : List (List UInt8)} (h : StrsAt m v l) {i : Nat} (hi : i < l.length) : ∃ a cap, v = .slice (some a) l.length cap 1 ∧ m.get G (a.plus i) = some (.str l[i]) ∧ oldAd m.bl.length a = true := by
  obtain ⟨a, cap, e, hc, hg, ho⟩ := RowsAt.at h (i := i) (by simpa using hi)
  refine ⟨a, cap, by rw [e]; simp, ?_, ho⟩
  rw [List.getElem_map, Nat.mul_one] at hg
  exact get_of_getN hg
theorem StrsAt.grown {m M : Mem} (hg : Grown m M) {v : EV} {l : List (List UInt8)} (h : StrsAt m v l) : StrsAt M v l := RowsAt.grown hg h
theorem StrsAt.slice {m : Mem} {v : EV} {l : List (List UInt8)} (h : StrsAt m v l) : ∃ a c e, v = .slice a l.length c e := by
  obtain ⟨a, c, e, h⟩ := RowsAt.slice h
  exact ⟨a, c, e, by rw [h]; simp⟩
theorem c_r30_joined (m : Mem) (x : EV) (l : List (List UInt8)) (hx : StrsAt m x l) (hl : bulkL l ≤ 1000000000) (hll : l.length ≤ 1000000000) :
    ∃ v m' k, Go.Ev.Comes T G f_r30_joined [x] m none ⟨.val v, m', none⟩ ∧ Grown m m' ∧ min m.low m.bl.length ≤ m'.low ∧ Priv k 1 tagB m' v (bytesE (join l)) (join l).length ∧ ∀ j, k = some j → m.bl.length ≤ j := by
  suffices H : ∃ r, Go.Ev.Comes T G f_r30_joined [x] m none r ∧ ∃ v m' k, r = ⟨.val v, m', none⟩ ∧ Grown m m' ∧ min m.low m.bl.length ≤ m'.low ∧ Priv k 1 tagB m' v (bytesE (join l)) (join l).length ∧ ∀ j, k = some j → m.bl.length ≤ j by
    obtain ⟨_, hc, v, m', k, rfl, h⟩ := H
    exact ⟨v, m', k, hc, h⟩
  refine comes2P T_r30_joined rfl fun M hg hlen hlow => ?_
  have hl0 : m.bl.length ≤ M.low := by omega
  have hx := hx.grown hg
  obtain ⟨a0, c0, e0, sx⟩ := hx.slice
  have lx : lnbE x = some (.int .i64 l.length) := by rw [sx]; rfl
  simp only [F_r30_joined]
  simp +contextual only [vq, vc, ve, vv, vn, vl, ↓reduceIte, Nat.reduceEqDiff, Nat.reduceAdd, Nat.reduceMul, Nat.reduceSub, Nat.reduceLeDiff, Nat.reduceLT, Nat.reduceBEq, Nat.reduceBNe, reduceCtorEq, Int.reduceBEq, Int.reduceBNe, Int.reduceLT, Int.reduceLE, Int.reduceEq, Int.reduceToNat, Int.reduceAdd, Int.reduceSub, Int.reduceNeg]
  refine loop2 (fun q st => ∃ (i : Nat) (k : Option Nat) (v : EV) (A : Fr) (N : Mem), st = ⟨A, N, [], none⟩ ∧ q = l.length - i ∧ i ≤ l.length ∧ A 0 = x ∧ A 3 = v ∧ A 4 = .int .i64 (i : Nat) ∧ Priv k 1 tagB N v (bytesE (join (l.take i))) (join (l.take i)).length ∧ (∀ j, k = some j → M.bl.length ≤ j) ∧ Grown M N ∧ m.bl.length ≤ N.low) l.length ⟨0, none, _, _, M, rfl, by omega, by omega, by simp +contextual only [vq, vc, ve, vv, vn, vl, ↓reduceIte, Nat.reduceEqDiff, Nat.reduceAdd, Nat.reduceMul, Nat.reduceSub, Nat.reduceLeDiff, Nat.reduceLT, Nat.reduceBEq, Nat.reduceBNe, reduceCtorEq, Int.reduceBEq, Int.reduceBNe, Int.reduceLT, Int.reduceLE, Int.reduceEq, Int.reduceToNat, Int.reduceAdd, Int.reduceSub, Int.reduceNeg], by simp +contextual only [vq, vc, ve, vv, vn, vl, ↓reduceIte, Nat.reduceEqDiff, Nat.reduceAdd, Nat.reduceMul, Nat.reduceSub, Nat.reduceLeDiff, Nat.reduceLT, Nat.reduceBEq, Nat.reduceBNe, reduceCtorEq, Int.reduceBEq, Int.reduceBNe, Int.reduceLT, Int.reduceLE, Int.reduceEq, Int.reduceToNat, Int.reduceAdd, Int.reduceSub, Int.reduceNeg], by simp +contextual only [vq, vc, ve, vv, vn, vl, ↓reduceIte, Nat.reduceEqDiff, Nat.reduceAdd, Nat.reduceMul, Nat.reduceSub, Nat.reduceLeDiff, Nat.reduceLT, Nat.reduceBEq, Nat.reduceBNe, reduceCtorEq, Int.reduceBEq, Int.reduceBNe, Int.reduceLT, Int.reduceLE, Int.reduceEq, Int.reduceToNat, Int.reduceAdd, Int.reduceSub, Int.reduceNeg]; rfl, Priv.nil, (fun _ h => by cases h), Grown.rfl', hl0⟩ fun J hJ q st hI => ?_
  obtain ⟨i, k, v, A, N, rfl, rfl, hi, A0, A3, A4, hv, hk, hgN, hlN⟩ := hI
  have grow : ∀ (k : Option Nat) (v : EV) (N : Mem) (t : List UInt8), Priv k 1 tagB N v (bytesE t) t.length → (∀ j, k = some j → M.bl.length ≤ j) → Grown M N → m.bl.length ≤ N.low → ∀ t2 : List UInt8, t.length + t2.length ≤ 1000000000000 → ∃ v' N' k', appendE G N 1 1 tagB v (bytesE t2) t2.length = some (v', N') ∧ Priv k' 1 tagB N' v' (bytesE (t ++ t2)) (t ++ t2).length ∧ (∀ j, k' = some j → M.bl.length ≤ j) ∧ Grown M N' ∧ m.bl.length ≤ N'.low := fun k v N t hv hk hgN hlN t2 hs => by
    have hle := hgN.le
    obtain ⟨v', N', k', ha, hp, hkk, hj, hl2, hw⟩ := hv.app (G := G) (bytes := 1) (cnt := t2.length) (new := bytesE t2) tagB_ok' (by omega) (by simp [bytesE]) (by omega)
    rw [← bytes_app, ← List.length_append] at hp
    refine ⟨v', N', k', ha, hp, fun j hj' => ?_, grown_of (by omega) fun j hj' => by rw [hj j (by omega) fun h => by have := hk j h.symm; omega, hgN.at hj'], hw _ hlN (by omega) fun j hj' => by have := hk j hj'; omega⟩
    rcases hkk with h | ⟨_, h⟩
    · exact hk j (by rw [← h, hj'])
    · rw [h] at hj'; cases hj'; omega
  by_cases hlt : i < l.length
  · obtain ⟨a, cap, ex, hy, ho⟩ := (hx.grown hgN).at hlt
    have hbt := bulk_take hlt
    have hjl := join_len (l := l.take i)
    have hjs : join (l.take (i + 1)) = if i = 0 then l[i] else join (l.take i) ++ ([13, 10] ++ l[i]) := by
      rw [List.take_succ_eq_append_getElem hlt, join_snoc, List.length_take, Nat.min_eq_left hi]
    rw [ex] at A0
    by_cases h0 : i = 0
    · subst h0
      obtain ⟨v', N', k', ha, hp, hk', hg', hl'⟩ := grow k v N _ hv hk hgN hlN l[0] (by omega)
      have k1 : ¬ 0 < 0 := by omega
      rw [if_pos rfl] at hjs
      rw [Ad.plus_zero] at hy
      simp +contextual only [vq, vc, ve, vv, vn, vl, ↓reduceIte, Nat.reduceEqDiff, Nat.reduceAdd, Nat.reduceMul, Nat.reduceSub, Nat.reduceLeDiff, Nat.reduceLT, Nat.reduceBEq, Nat.reduceBNe, reduceCtorEq, Int.reduceBEq, Int.reduceBNe, Int.reduceLT, Int.reduceLE, Int.reduceEq, Int.reduceToNat, Int.reduceAdd, Int.reduceSub, Int.reduceNeg, A0, A3, A4, hlt, hy, ha]
      exact again2 hJ (l.length - 1) (by omega) ⟨1, k', v', _, N', rfl, rfl, by omega, by simp +contextual only [vq, vc, ve, vv, vn, vl, ↓reduceIte, Nat.reduceEqDiff, Nat.reduceAdd, Nat.reduceMul, Nat.reduceSub, Nat.reduceLeDiff, Nat.reduceLT, Nat.reduceBEq, Nat.reduceBNe, reduceCtorEq, Int.reduceBEq, Int.reduceBNe, Int.reduceLT, Int.reduceLE, Int.reduceEq, Int.reduceToNat, Int.reduceAdd, Int.reduceSub, Int.reduceNeg, A0, ex], by simp +contextual only [vq, vc, ve, vv, vn, vl, ↓reduceIte, Nat.reduceEqDiff, Nat.reduceAdd, Nat.reduceMul, Nat.reduceSub, Nat.reduceLeDiff, Nat.reduceLT, Nat.reduceBEq, Nat.reduceBNe, reduceCtorEq, Int.reduceBEq, Int.reduceBNe, Int.reduceLT, Int.reduceLE, Int.reduceEq, Int.reduceToNat, Int.reduceAdd, Int.reduceSub, Int.reduceNeg], by simp +contextual only [vq, vc, ve, vv, vn, vl, ↓reduceIte, Nat.reduceEqDiff, Nat.reduceAdd, Nat.reduceMul, Nat.reduceSub, Nat.reduceLeDiff, Nat.reduceLT, Nat.reduceBEq, Nat.reduceBNe, reduceCtorEq, Int.reduceBEq, Int.reduceBNe, Int.reduceLT, Int.reduceLE, Int.reduceEq, Int.reduceToNat, Int.reduceAdd, Int.reduceSub, Int.reduceNeg]; rfl, by rw [hjs]; exact hp, hk', hg', hl'⟩
    · have k1 : 0 < i := by omega
      rw [if_neg h0] at hjs
      simp +contextual only [vq, vc, ve, vv, vn, vl, ↓reduceIte, Nat.reduceEqDiff, Nat.reduceAdd, Nat.reduceMul, Nat.reduceSub, Nat.reduceLeDiff, Nat.reduceLT, Nat.reduceBEq, Nat.reduceBNe, reduceCtorEq, Int.reduceBEq, Int.reduceBNe, Int.reduceLT, Int.reduceLE, Int.reduceEq, Int.reduceToNat, Int.reduceAdd, Int.reduceSub, Int.reduceNeg, A0, A3, A4, hlt, hy, k1]
      refine new_mk fun N1 n1 => ?_
      have gN1 : Grown N N1 := by rw [n1]; exact Grown.rfl'.push
      have R1 : RowIs N1 N.bl.length [.int .u8 13, .int .u8 10] := by rw [n1]; exact row_push _ _
      obtain ⟨v1, N2, kb, ha1, hp1, hk1, hg1, hl1⟩ := grow k v N1 _ (hv.grown gN1) hk (hgN.trans gN1) (by rw [n1]; exact hlN) [13, 10] (by simp; omega)
      have ha1 : appendE G N1 1 1 tagB v [.int .u8 13, .int .u8 10] 2 = some (v1, N2) := ha1
      obtain ⟨v', N', k', ha, hp, hk', hg', hl'⟩ := grow kb v1 N2 _ hp1 hk1 hg1 hl1 l[i] (by simp; omega)
      obtain ⟨a', cap', ex', hy2, _⟩ := (hx.grown hg1).at hlt
      rw [ex] at ex'
      cases ex'
      rw [List.append_assoc, ← hjs] at hp
      simp +contextual only [vq, vc, ve, vv, vn, vl, ↓reduceIte, Nat.reduceEqDiff, Nat.reduceAdd, Nat.reduceMul, Nat.reduceSub, Nat.reduceLeDiff, Nat.reduceLT, Nat.reduceBEq, Nat.reduceBNe, reduceCtorEq, Int.reduceBEq, Int.reduceBNe, Int.reduceLT, Int.reduceLE, Int.reduceEq, Int.reduceToNat, Int.reduceAdd, Int.reduceSub, Int.reduceNeg, R1.getN (G := G), ha1, A0, hlt, hy2, ha, A4, wsucc hlt (by omega)]
      exact again2 hJ (l.length - (i + 1)) (by omega) ⟨i + 1, k', v', _, N', rfl, rfl, by omega, by simp +contextual only [vq, vc, ve, vv, vn, vl, ↓reduceIte, Nat.reduceEqDiff, Nat.reduceAdd, Nat.reduceMul, Nat.reduceSub, Nat.reduceLeDiff, Nat.reduceLT, Nat.reduceBEq, Nat.reduceBNe, reduceCtorEq, Int.reduceBEq, Int.reduceBNe, Int.reduceLT, Int.reduceLE, Int.reduceEq, Int.reduceToNat, Int.reduceAdd, Int.reduceSub, Int.reduceNeg, A0, ex], by simp +contextual only [vq, vc, ve, vv, vn, vl, ↓reduceIte, Nat.reduceEqDiff, Nat.reduceAdd, Nat.reduceMul, Nat.reduceSub, Nat.reduceLeDiff, Nat.reduceLT, Nat.reduceBEq, Nat.reduceBNe, reduceCtorEq, Int.reduceBEq, Int.reduceBNe, Int.reduceLT, Int.reduceLE, Int.reduceEq, Int.reduceToNat, Int.reduceAdd, Int.reduceSub, Int.reduceNeg], by simp +contextual only [vq, vc, ve, vv, vn, vl, ↓reduceIte, Nat.reduceEqDiff, Nat.reduceAdd, Nat.reduceMul, Nat.reduceSub, Nat.reduceLeDiff, Nat.reduceLT, Nat.reduceBEq, Nat.reduceBNe, reduceCtorEq, Int.reduceBEq, Int.reduceBNe, Int.reduceLT, Int.reduceLE, Int.reduceEq, Int.reduceToNat, Int.reduceAdd, Int.reduceSub, Int.reduceNeg], hp, hk', hg', hl'⟩
  · have hil : i = l.length := by omega
    subst hil
    rw [List.take_length] at hv
    rcases hv.row with ⟨rfl, h1, h2⟩ | ⟨j, g, hj, rfl, _⟩
    · simp +contextual only [vq, vc, ve, vv, vn, vl, ↓reduceIte, Nat.reduceEqDiff, Nat.reduceAdd, Nat.reduceMul, Nat.reduceSub, Nat.reduceLeDiff, Nat.reduceLT, Nat.reduceBEq, Nat.reduceBNe, reduceCtorEq, Int.reduceBEq, Int.reduceBNe, Int.reduceLT, Int.reduceLE, Int.reduceEq, Int.reduceToNat, Int.reduceAdd, Int.reduceSub, Int.reduceNeg, A0, A3, A4, hlt, lx]
      exact postX_same (v := .slice none 0 0 0) (by simp +contextual only [vq, vc, ve, vv, vn, vl, ↓reduceIte, Nat.reduceEqDiff, Nat.reduceAdd, Nat.reduceMul, Nat.reduceSub, Nat.reduceLeDiff, Nat.reduceLT, Nat.reduceBEq, Nat.reduceBNe, reduceCtorEq, Int.reduceBEq, Int.reduceBNe, Int.reduceLT, Int.reduceLE, Int.reduceEq, Int.reduceToNat, Int.reduceAdd, Int.reduceSub, Int.reduceNeg]) hlN rfl ⟨_, m, none, rfl, Grown.rfl', by omega, by rw [h1, h2]; exact Priv.nil, (fun _ h => by cases h)⟩
    · have hkj := hk j hj
      simp +contextual only [vq, vc, ve, vv, vn, vl, ↓reduceIte, Nat.reduceEqDiff, Nat.reduceAdd, Nat.reduceMul, Nat.reduceSub, Nat.reduceLeDiff, Nat.reduceLT, Nat.reduceBEq, Nat.reduceBNe, reduceCtorEq, Int.reduceBEq, Int.reduceBNe, Int.reduceLT, Int.reduceLE, Int.reduceEq, Int.reduceToNat, Int.reduceAdd, Int.reduceSub, Int.reduceNeg, A0, A3, A4, hlt, lx]
      exact postX_new (v := .slice (some ⟨.mem j g, 0⟩) (join l).length (join l).length 1) (by simp +contextual only [vq, vc, ve, vv, vn, vl, ↓reduceIte, Nat.reduceEqDiff, Nat.reduceAdd, Nat.reduceMul, Nat.reduceSub, Nat.reduceLeDiff, Nat.reduceLT, Nat.reduceBEq, Nat.reduceBNe, reduceCtorEq, Int.reduceBEq, Int.reduceBNe, Int.reduceLT, Int.reduceLE, Int.reduceEq, Int.reduceToNat, Int.reduceAdd, Int.reduceSub, Int.reduceNeg]) (by simp [noref]; omega) ⟨_, _, k, rfl, hg.trans hgN, by simp only; omega, hv.keep fun _ _ => rfl, fun i hi => by have := hk i hi; omega⟩
end Go.Proofs.YtjlpfijbnflknaaDoor.bounceParts
