/- A part of the proof of the statement that this claim hands in: what single functions come to. There are no conditions. -/
import Derived.Test.YtjlpfijbnflknaaDoorBwL1
import Derived.Test.YtjlpfijbnflknaaDoorBwEv20
import Derived.Test.YtjlpfijbnflknaaDoorBwEv30
import Derived.Test.YtjlpfijbnflknaaDoorBwEv32
set_option linter.unusedVariables false
set_option linter.unusedSimpArgs false
set_option linter.unusedSectionVars false
namespace Go.Proofs.YtjlpfijbnflknaaDoor.bounceWants
open Go.Ev hiding Comes
variable [GG]

theorem get_grown {m M : Mem} {G : Globs} (h : Grown m M) {a : Ad} {v : EV} (hg : m.get G a = some v) : M.get G a = some v := by
  unfold Mem.get at hg ⊢
  cases hr : m.row G a.base with
  | none => rw [hr] at hg; cases hg
  | some c => rw [row_old h hr]; rw [hr] at hg; exact hg
/-- All the numbers of rows. -/
def allMarks (ll : List (List UInt8)) : List Nat := ll.flatMap fun s => marks s.length s
theorem isF_digit (b : UInt8) : isF 2 b.toNat = isDg b := by revert b; decide +kernel
/-- The map counts these numbers. -/
def Counts (m : Mem) (b : Nat) (L : List Nat) : Prop := ∃ c : Int → Int, MapI .u64 .i64 m b c ∧ ∀ n : Nat, c n = L.count n
theorem Counts.look {m : Mem} {b : Nat} {L : List Nat} (h : Counts m b L) (n : Nat) : lkE m [12] (.int .i64 0) false (.map (some b)) (.int .u64 (n : Nat)) = some (.int .i64 (L.count n : Nat), m) := by
  obtain ⟨c, h1, h2⟩ := h
  rw [h1.look, h2]
theorem Counts.add {m : Mem} {b : Nat} {L : List Nat} (h : Counts m b L) (n : Nat) : ∃ m', msE m [12] (.map (some b)) (.int .u64 (n : Nat)) (.int .i64 ((L.count n + 1 : Nat) : Int)) = some (undefE, m') ∧ Counts m' b (L ++ [n]) ∧ But1 b m m' ∧ m'.low = min m.low b := by
  obtain ⟨c, h1, h2⟩ := h
  obtain ⟨m', e1, e2, e3, e4⟩ := h1.set n ((L.count n + 1 : Nat) : Int)
  refine ⟨m', e1, ⟨_, e2, fun k => ?_⟩, e3, e4⟩
  rw [List.count_append, List.count_singleton]
  by_cases hk : k = n
  · subst hk
    simp
  · have : ¬ (k : Int) = (n : Int) := by omega
    rw [if_neg this, h2]
    have : (n == k) = false := by simpa using fun h => hk h.symm
    simp [this]
theorem Counts.grown {m M : Mem} {b : Nat} {L : List Nat} (h : Counts m b L) (hg : Grown m M) : Counts M b L := let ⟨c, h1, h2⟩ := h; ⟨c, h1.grown hg, h2⟩
theorem Counts.lt {m : Mem} {b : Nat} {L : List Nat} (h : Counts m b L) : b < m.bl.length := let ⟨c, h1, h2⟩ := h; h1.lt
theorem marks_none {f : Nat} {s : List UInt8} (h : Go.Lib.index s [61, 95] < 0) : marks f s = [] := by
  cases f with
  | zero => rfl
  | succ f => simp [marks, h]
theorem marks_some {f i : Nat} {s : List UInt8} (h : Go.Lib.index s [61, 95] = i) : marks (f + 1) s = pfx 18 0 (s.drop (i + 2)) ++ marks f (s.drop (i + 2)) := by
  have : ¬ (i : Int) < 0 := by omega
  simp [marks, h, this]
theorem allMarks_len {ll : List (List UInt8)} (hs : ∀ s ∈ ll, s.length ≤ 2000000) : (allMarks ll).length ≤ 36000000 * ll.length := by
  induction ll with
  | nil => simp [allMarks]
  | cons s ll ih =>
    have h1 := ih fun s h => hs s (List.mem_cons_of_mem _ h)
    have h2 := marks_len s.length s
    have h3 := hs s (List.mem_cons_self ..)
    simp only [allMarks, List.flatMap_cons, List.length_append, List.length_cons] at h1 ⊢
    omega
theorem allMarks_any {ll : List (List UInt8)} {n : Nat} (hn : n < 10 ^ 18) : ll.any (fun s => inB s (61 :: 95 :: dec n)) = true ↔ n ∈ allMarks ll := by
  simp only [allMarks, List.mem_flatMap, List.any_eq_true]
  exact ⟨fun ⟨s, h1, h2⟩ => ⟨s, h1, (marks_inB hn).2 h2⟩, fun ⟨s, h1, h2⟩ => ⟨s, h1, (marks_inB hn).1 h2⟩⟩
theorem c_bounce_Boundary (m : Mem) (x : EV) (ll : List (List UInt8)) (hx : ByteRows G m x ll) (hl : ll.length ≤ 2000000) (hs : ∀ s ∈ ll, s.length ≤ 2000000) (n : Nat) (h1 : n ∉ allMarks ll) (h2 : ∀ k, k < n → k ∈ allMarks ll) :
    Go.Ev.Comes T G f_bounce_Boundary [x] m none ⟨.val (.str (61 :: 95 :: dec n)), m, none⟩ := by
  refine comes2 T_bounce_Boundary rfl fun M hg hlen hlow => ?_
  have hl0 : m.bl.length ≤ M.low := by omega
  have hx := hx.grown hg
  have hL := allMarks_len hs
  have hn := holes n _ h2
  obtain ⟨a0, c0, e0, sx⟩ := hx.slice
  simp only [F_bounce_Boundary]
  simp +contextual only [vq, vc, ve, vv, vn, vl, ↓reduceIte, Nat.reduceEqDiff, Nat.reduceAdd, Nat.reduceMul, Nat.reduceSub, Nat.reduceLeDiff, Nat.reduceLT, Nat.reduceBEq, Nat.reduceBNe, reduceCtorEq, Int.reduceBEq, Int.reduceBNe, Int.reduceLT, Int.reduceLE, Int.reduceEq, Int.reduceToNat, Int.reduceAdd, Int.reduceSub, Int.reduceNeg]
  refine new_mk fun M1 e1 => ?_
  have hc0 : Counts M1 M.bl.length [] := ⟨_, MapI.new e1, fun n => by simp⟩
  have hg0 : Grown M M1 := by rw [e1]; exact Grown.rfl'.push
  have lo0 : m.bl.length ≤ M1.low := by rw [e1]; exact hl0
  have lx : lnbE x = some (.int .i64 ll.length) := by rw [sx]; rfl
  simp +contextual only [vq, vc, ve, vv, vn, vl, ↓reduceIte, Nat.reduceEqDiff, Nat.reduceAdd, Nat.reduceMul, Nat.reduceSub, Nat.reduceLeDiff, Nat.reduceLT, Nat.reduceBEq, Nat.reduceBNe, reduceCtorEq, Int.reduceBEq, Int.reduceBNe, Int.reduceLT, Int.reduceLE, Int.reduceEq, Int.reduceToNat, Int.reduceAdd, Int.reduceSub, Int.reduceNeg, lx]
  refine loop2 (fun q st => ∃ (i : Nat) (A : Fr) (N : Mem), st = ⟨A, N, [], none⟩ ∧ q = ll.length - i ∧ i ≤ ll.length ∧ A 3 = .map (some M.bl.length) ∧ A 13 = x ∧ A 14 = .int .i64 ll.length ∧ A 15 = .int .i64 (i : Nat) ∧ Grown M N ∧ m.bl.length ≤ N.low ∧ Counts N M.bl.length (allMarks (ll.take i))) ll.length ⟨0, _, M1, rfl, by omega, by omega, by simp +contextual only [vq, vc, ve, vv, vn, vl, ↓reduceIte, Nat.reduceEqDiff, Nat.reduceAdd, Nat.reduceMul, Nat.reduceSub, Nat.reduceLeDiff, Nat.reduceLT, Nat.reduceBEq, Nat.reduceBNe, reduceCtorEq, Int.reduceBEq, Int.reduceBNe, Int.reduceLT, Int.reduceLE, Int.reduceEq, Int.reduceToNat, Int.reduceAdd, Int.reduceSub, Int.reduceNeg], by simp +contextual only [vq, vc, ve, vv, vn, vl, ↓reduceIte, Nat.reduceEqDiff, Nat.reduceAdd, Nat.reduceMul, Nat.reduceSub, Nat.reduceLeDiff, Nat.reduceLT, Nat.reduceBEq, Nat.reduceBNe, reduceCtorEq, Int.reduceBEq, Int.reduceBNe, Int.reduceLT, Int.reduceLE, Int.reduceEq, Int.reduceToNat, Int.reduceAdd, Int.reduceSub, Int.reduceNeg], by simp +contextual only [vq, vc, ve, vv, vn, vl, ↓reduceIte, Nat.reduceEqDiff, Nat.reduceAdd, Nat.reduceMul, Nat.reduceSub, Nat.reduceLeDiff, Nat.reduceLT, Nat.reduceBEq, Nat.reduceBNe, reduceCtorEq, Int.reduceBEq, Int.reduceBNe, Int.reduceLT, Int.reduceLE, Int.reduceEq, Int.reduceToNat, Int.reduceAdd, Int.reduceSub, Int.reduceNeg], by simp +contextual only [vq, vc, ve, vv, vn, vl, ↓reduceIte, Nat.reduceEqDiff, Nat.reduceAdd, Nat.reduceMul, Nat.reduceSub, Nat.reduceLeDiff, Nat.reduceLT, Nat.reduceBEq, Nat.reduceBNe, reduceCtorEq, Int.reduceBEq, Int.reduceBNe, Int.reduceLT, Int.reduceLE, Int.reduceEq, Int.reduceToNat, Int.reduceAdd, Int.reduceSub, Int.reduceNeg]; rfl, hg0, lo0, by simpa [allMarks] using hc0⟩ fun J hJ q st hI => ?_
  obtain ⟨i, A, N, rfl, rfl, hi, A3, A13, A14, A15, hgN, hlN, hcN⟩ := hI
  by_cases hlt : i < ll.length
  · obtain ⟨a, cap, y, e, hy1, hy2, hy⟩ := hx.at hlt
    have hsi := hs _ (List.getElem_mem hlt)
    have hy1 := get_grown hgN hy1
    rw [e] at A13
    have hms : (allMarks (ll.take i) ++ marks ll[i].length ll[i]) = allMarks (ll.take (i + 1)) := by
      rw [List.take_succ_eq_append_getElem hlt]
      simp only [allMarks, List.flatMap_append, List.flatMap_cons, List.flatMap_nil, List.append_nil]
    simp +contextual only [vq, vc, ve, vv, vn, vl, ↓reduceIte, Nat.reduceEqDiff, Nat.reduceAdd, Nat.reduceMul, Nat.reduceSub, Nat.reduceLeDiff, Nat.reduceLT, Nat.reduceBEq, Nat.reduceBNe, reduceCtorEq, Int.reduceBEq, Int.reduceBNe, Int.reduceLT, Int.reduceLE, Int.reduceEq, Int.reduceToNat, Int.reduceAdd, Int.reduceSub, Int.reduceNeg, A13, A14, A15, hlt, hy1]
    refine loop2 (fun q st => ∃ (s : List UInt8) (y : EV) (L : List Nat) (B : Fr) (K : Mem), st = ⟨B, K, [], none⟩ ∧ s.length ≤ q ∧ s.length ≤ 2000000 ∧ B 3 = .map (some M.bl.length) ∧ B 5 = y ∧ B 13 = x ∧ B 14 = .int .i64 ll.length ∧ B 15 = .int .i64 (i : Nat) ∧ BytesAt G M y s ∧ L ++ marks q s = allMarks (ll.take (i + 1)) ∧ Grown M K ∧ m.bl.length ≤ K.low ∧ Counts K M.bl.length L) ll[i].length ⟨ll[i], y, allMarks (ll.take i), _, N, rfl, by omega, hsi, by simp +contextual only [vq, vc, ve, vv, vn, vl, ↓reduceIte, Nat.reduceEqDiff, Nat.reduceAdd, Nat.reduceMul, Nat.reduceSub, Nat.reduceLeDiff, Nat.reduceLT, Nat.reduceBEq, Nat.reduceBNe, reduceCtorEq, Int.reduceBEq, Int.reduceBNe, Int.reduceLT, Int.reduceLE, Int.reduceEq, Int.reduceToNat, Int.reduceAdd, Int.reduceSub, Int.reduceNeg, A3], by simp +contextual only [vq, vc, ve, vv, vn, vl, ↓reduceIte, Nat.reduceEqDiff, Nat.reduceAdd, Nat.reduceMul, Nat.reduceSub, Nat.reduceLeDiff, Nat.reduceLT, Nat.reduceBEq, Nat.reduceBNe, reduceCtorEq, Int.reduceBEq, Int.reduceBNe, Int.reduceLT, Int.reduceLE, Int.reduceEq, Int.reduceToNat, Int.reduceAdd, Int.reduceSub, Int.reduceNeg], by simp +contextual only [vq, vc, ve, vv, vn, vl, ↓reduceIte, Nat.reduceEqDiff, Nat.reduceAdd, Nat.reduceMul, Nat.reduceSub, Nat.reduceLeDiff, Nat.reduceLT, Nat.reduceBEq, Nat.reduceBNe, reduceCtorEq, Int.reduceBEq, Int.reduceBNe, Int.reduceLT, Int.reduceLE, Int.reduceEq, Int.reduceToNat, Int.reduceAdd, Int.reduceSub, Int.reduceNeg, A13, e], by simp +contextual only [vq, vc, ve, vv, vn, vl, ↓reduceIte, Nat.reduceEqDiff, Nat.reduceAdd, Nat.reduceMul, Nat.reduceSub, Nat.reduceLeDiff, Nat.reduceLT, Nat.reduceBEq, Nat.reduceBNe, reduceCtorEq, Int.reduceBEq, Int.reduceBNe, Int.reduceLT, Int.reduceLE, Int.reduceEq, Int.reduceToNat, Int.reduceAdd, Int.reduceSub, Int.reduceNeg, A14], by simp +contextual only [vq, vc, ve, vv, vn, vl, ↓reduceIte, Nat.reduceEqDiff, Nat.reduceAdd, Nat.reduceMul, Nat.reduceSub, Nat.reduceLeDiff, Nat.reduceLT, Nat.reduceBEq, Nat.reduceBNe, reduceCtorEq, Int.reduceBEq, Int.reduceBNe, Int.reduceLT, Int.reduceLE, Int.reduceEq, Int.reduceToNat, Int.reduceAdd, Int.reduceSub, Int.reduceNeg, A15], hy, hms, hgN, hlN, hcN⟩ fun J2 hJ2 q st hI => ?_
    obtain ⟨s, y, L, B, K, rfl, hsq, hs2, B3, B5, B13, B14, B15, hy, hmL, hgK, hlK, hcK⟩ := hI
    simp +contextual only [vq, vc, ve, vv, vn, vl, ↓reduceIte, Nat.reduceEqDiff, Nat.reduceAdd, Nat.reduceMul, Nat.reduceSub, Nat.reduceLeDiff, Nat.reduceLT, Nat.reduceBEq, Nat.reduceBNe, reduceCtorEq, Int.reduceBEq, Int.reduceBNe, Int.reduceLT, Int.reduceLE, Int.reduceEq, Int.reduceToNat, Int.reduceAdd, Int.reduceSub, Int.reduceNeg, B5]
    refine new_mk fun K1 k1 => ?_
    have hsep : BytesAt G K1 (.slice (some ⟨.mem K.bl.length 0, 0⟩) 2 2 1) [61, 95] := bytes_new (s := [61, 95]) k1
    have hR : RowIs K1 K.bl.length (bytesE [61, 95]) := by rw [k1]; exact row_push _ _
    have hmk := mk_row (o := 0) (n := 2) (c := 2) (z := 1) hR (by omega)
    have hgK1 : Grown K K1 := by rw [k1]; exact Grown.rfl'.push
    have hlK1 : m.bl.length ≤ K1.low := by rw [k1]; exact hlK
    have hcK1 := hcK.grown hgK1
    have hgM1 := hgK.trans hgK1
    rcases c_bytes_Cut K1 y _ s [61, 95] (hy.grown hgM1) hsep (by simp) (by omega) with ⟨hneg, hcut⟩ | ⟨p, u, v, hpos, hroom, hcut, hparts⟩
    · rw [marks_none hneg, List.append_nil] at hmL
      subst hmL
      simp +contextual only [vq, vc, ve, vv, vn, vl, ↓reduceIte, Nat.reduceEqDiff, Nat.reduceAdd, Nat.reduceMul, Nat.reduceSub, Nat.reduceLeDiff, Nat.reduceLT, Nat.reduceBEq, Nat.reduceBNe, reduceCtorEq, Int.reduceBEq, Int.reduceBNe, Int.reduceLT, Int.reduceLE, Int.reduceEq, Int.reduceToNat, Int.reduceAdd, Int.reduceSub, Int.reduceNeg, hmk, B5, callR_val hcut, B15, wsucc hlt (by omega)]
      exact again2 hJ (ll.length - (i + 1)) (by omega) ⟨i + 1, _, K1, rfl, rfl, by omega, by simp +contextual only [vq, vc, ve, vv, vn, vl, ↓reduceIte, Nat.reduceEqDiff, Nat.reduceAdd, Nat.reduceMul, Nat.reduceSub, Nat.reduceLeDiff, Nat.reduceLT, Nat.reduceBEq, Nat.reduceBNe, reduceCtorEq, Int.reduceBEq, Int.reduceBNe, Int.reduceLT, Int.reduceLE, Int.reduceEq, Int.reduceToNat, Int.reduceAdd, Int.reduceSub, Int.reduceNeg, B3], by simp +contextual only [vq, vc, ve, vv, vn, vl, ↓reduceIte, Nat.reduceEqDiff, Nat.reduceAdd, Nat.reduceMul, Nat.reduceSub, Nat.reduceLeDiff, Nat.reduceLT, Nat.reduceBEq, Nat.reduceBNe, reduceCtorEq, Int.reduceBEq, Int.reduceBNe, Int.reduceLT, Int.reduceLE, Int.reduceEq, Int.reduceToNat, Int.reduceAdd, Int.reduceSub, Int.reduceNeg, B13], by simp +contextual only [vq, vc, ve, vv, vn, vl, ↓reduceIte, Nat.reduceEqDiff, Nat.reduceAdd, Nat.reduceMul, Nat.reduceSub, Nat.reduceLeDiff, Nat.reduceLT, Nat.reduceBEq, Nat.reduceBNe, reduceCtorEq, Int.reduceBEq, Int.reduceBNe, Int.reduceLT, Int.reduceLE, Int.reduceEq, Int.reduceToNat, Int.reduceAdd, Int.reduceSub, Int.reduceNeg, B14], by simp +contextual only [vq, vc, ve, vv, vn, vl, ↓reduceIte, Nat.reduceEqDiff, Nat.reduceAdd, Nat.reduceMul, Nat.reduceSub, Nat.reduceLeDiff, Nat.reduceLT, Nat.reduceBEq, Nat.reduceBNe, reduceCtorEq, Int.reduceBEq, Int.reduceBNe, Int.reduceLT, Int.reduceLE, Int.reduceEq, Int.reduceToNat, Int.reduceAdd, Int.reduceSub, Int.reduceNeg], hgM1, hlK1, hcK1⟩
    · obtain ⟨_, hv⟩ := hparts M hy
      simp only [List.length_cons, List.length_nil, Nat.zero_add, Nat.reduceAdd] at hv hroom
      obtain ⟨q, rfl⟩ : ∃ q', q = q' + 1 := ⟨q - 1, by omega⟩
      rw [marks_some hpos] at hmL
      simp +contextual only [vq, vc, ve, vv, vn, vl, ↓reduceIte, Nat.reduceEqDiff, Nat.reduceAdd, Nat.reduceMul, Nat.reduceSub, Nat.reduceLeDiff, Nat.reduceLT, Nat.reduceBEq, Nat.reduceBNe, reduceCtorEq, Int.reduceBEq, Int.reduceBNe, Int.reduceLT, Int.reduceLE, Int.reduceEq, Int.reduceToNat, Int.reduceAdd, Int.reduceSub, Int.reduceNeg, hmk, B5, callR_val hcut]
      have hrl : (s.drop (p + 2)).length = s.length - (p + 2) := by simp
      generalize hr : s.drop (p + 2) = r at hv hmL hrl
      obtain ⟨av, cv, ev, sv⟩ := hv.slice
      have lv : lnbE v = some (.int .i64 r.length) := by rw [sv]; rfl
      refine loop2 (fun z st => ∃ (j a : Nat) (L : List Nat) (C : Fr) (K : Mem), st = ⟨C, K, [], none⟩ ∧ z = 18 - j ∧ j ≤ 18 ∧ j ≤ r.length ∧ a < 10 ^ j ∧ C 3 = .map (some M.bl.length) ∧ C 5 = v ∧ C 7 = v ∧ C 9 = .int .u64 (a : Nat) ∧ C 10 = .int .i64 (j : Nat) ∧ C 13 = x ∧ C 14 = .int .i64 ll.length ∧ C 15 = .int .i64 (i : Nat) ∧ L ++ (pfx (18 - j) a (r.drop j) ++ marks q r) = allMarks (ll.take (i + 1)) ∧ Grown M K ∧ m.bl.length ≤ K.low ∧ Counts K M.bl.length L) 18 ⟨0, 0, L, _, K1, rfl, by omega, by omega, by omega, by omega, by simp +contextual only [vq, vc, ve, vv, vn, vl, ↓reduceIte, Nat.reduceEqDiff, Nat.reduceAdd, Nat.reduceMul, Nat.reduceSub, Nat.reduceLeDiff, Nat.reduceLT, Nat.reduceBEq, Nat.reduceBNe, reduceCtorEq, Int.reduceBEq, Int.reduceBNe, Int.reduceLT, Int.reduceLE, Int.reduceEq, Int.reduceToNat, Int.reduceAdd, Int.reduceSub, Int.reduceNeg, B3], by simp +contextual only [vq, vc, ve, vv, vn, vl, ↓reduceIte, Nat.reduceEqDiff, Nat.reduceAdd, Nat.reduceMul, Nat.reduceSub, Nat.reduceLeDiff, Nat.reduceLT, Nat.reduceBEq, Nat.reduceBNe, reduceCtorEq, Int.reduceBEq, Int.reduceBNe, Int.reduceLT, Int.reduceLE, Int.reduceEq, Int.reduceToNat, Int.reduceAdd, Int.reduceSub, Int.reduceNeg], by simp +contextual only [vq, vc, ve, vv, vn, vl, ↓reduceIte, Nat.reduceEqDiff, Nat.reduceAdd, Nat.reduceMul, Nat.reduceSub, Nat.reduceLeDiff, Nat.reduceLT, Nat.reduceBEq, Nat.reduceBNe, reduceCtorEq, Int.reduceBEq, Int.reduceBNe, Int.reduceLT, Int.reduceLE, Int.reduceEq, Int.reduceToNat, Int.reduceAdd, Int.reduceSub, Int.reduceNeg], by simp +contextual only [vq, vc, ve, vv, vn, vl, ↓reduceIte, Nat.reduceEqDiff, Nat.reduceAdd, Nat.reduceMul, Nat.reduceSub, Nat.reduceLeDiff, Nat.reduceLT, Nat.reduceBEq, Nat.reduceBNe, reduceCtorEq, Int.reduceBEq, Int.reduceBNe, Int.reduceLT, Int.reduceLE, Int.reduceEq, Int.reduceToNat, Int.reduceAdd, Int.reduceSub, Int.reduceNeg]; rfl, by simp +contextual only [vq, vc, ve, vv, vn, vl, ↓reduceIte, Nat.reduceEqDiff, Nat.reduceAdd, Nat.reduceMul, Nat.reduceSub, Nat.reduceLeDiff, Nat.reduceLT, Nat.reduceBEq, Nat.reduceBNe, reduceCtorEq, Int.reduceBEq, Int.reduceBNe, Int.reduceLT, Int.reduceLE, Int.reduceEq, Int.reduceToNat, Int.reduceAdd, Int.reduceSub, Int.reduceNeg]; rfl, by simp +contextual only [vq, vc, ve, vv, vn, vl, ↓reduceIte, Nat.reduceEqDiff, Nat.reduceAdd, Nat.reduceMul, Nat.reduceSub, Nat.reduceLeDiff, Nat.reduceLT, Nat.reduceBEq, Nat.reduceBNe, reduceCtorEq, Int.reduceBEq, Int.reduceBNe, Int.reduceLT, Int.reduceLE, Int.reduceEq, Int.reduceToNat, Int.reduceAdd, Int.reduceSub, Int.reduceNeg, B13], by simp +contextual only [vq, vc, ve, vv, vn, vl, ↓reduceIte, Nat.reduceEqDiff, Nat.reduceAdd, Nat.reduceMul, Nat.reduceSub, Nat.reduceLeDiff, Nat.reduceLT, Nat.reduceBEq, Nat.reduceBNe, reduceCtorEq, Int.reduceBEq, Int.reduceBNe, Int.reduceLT, Int.reduceLE, Int.reduceEq, Int.reduceToNat, Int.reduceAdd, Int.reduceSub, Int.reduceNeg, B14], by simp +contextual only [vq, vc, ve, vv, vn, vl, ↓reduceIte, Nat.reduceEqDiff, Nat.reduceAdd, Nat.reduceMul, Nat.reduceSub, Nat.reduceLeDiff, Nat.reduceLT, Nat.reduceBEq, Nat.reduceBNe, reduceCtorEq, Int.reduceBEq, Int.reduceBNe, Int.reduceLT, Int.reduceLE, Int.reduceEq, Int.reduceToNat, Int.reduceAdd, Int.reduceSub, Int.reduceNeg, B15], by simpa using hmL, hgM1, hlK1, hcK1⟩ fun J3 hJ3 z st hI => ?_
      obtain ⟨j, a, L, C, K, rfl, rfl, hj18, hjr, haj, C3, C5, C7, C9, C10, C13, C14, C15, hmL, hgK, hlK, hcK⟩ := hI
      have cntK : ∀ k, L.count k ≤ 100000000000000 := fun k => by
        have h1 := List.count_le_length (a := k) (l := L)
        have h2 := congrArg List.length hmL
        have h3 := allMarks_len (ll := ll.take (i + 1)) fun s h => hs s (List.mem_of_mem_take h)
        simp only [List.length_append, List.length_take] at h2 h3
        omega
      have leave : ∀ (L : List Nat) (K : Mem) (C : Fr) (Q : Post), L ++ marks q r = allMarks (ll.take (i + 1)) → Grown M K → m.bl.length ≤ K.low → Counts K M.bl.length L → C 3 = .map (some M.bl.length) → C 5 = v → C 13 = x → C 14 = .int .i64 ll.length → C 15 = .int .i64 (i : Nat) → againE J2 (q + 1) Q .normal ⟨C, K, [], none⟩ := fun L K C Q hm g l h C3 C5 C13 C14 C15 => again2 hJ2 q (by omega) ⟨r, v, L, C, K, rfl, by omega, by omega, C3, C5, C13, C14, C15, hv, hm, g, l, h⟩
      have e18 : ((j : Int) < 18) = (j < 18) := propext (by omega)
      by_cases hjl : j < r.length
      · by_cases hj : j < 18
        · obtain ⟨ah, caph, eh, _, _, _, hb⟩ := (hv.grown hgK).pos (by rintro rfl; simp at hjl)
          rw [eh] at C7
          have hb := hb j hjl
          have hcI := c_octet_Is K 2 r[j].toNat
          rw [isF_digit] at hcI
          have hdrop : r.drop j = r[j] :: r.drop (j + 1) := List.drop_eq_getElem_cons hjl
          obtain ⟨z, hz⟩ : ∃ z, 18 - j = z + 1 := ⟨17 - j, by omega⟩
          cases hd : isDg r[j] with
          | false =>
            rw [hd] at hcI
            have hm0 : pfx (18 - j) a (r.drop j) = [] := by rw [hdrop, hz]; simp [pfx, hd]
            rw [hm0, List.nil_append] at hmL
            simp +contextual only [vq, vc, ve, vv, vn, vl, ↓reduceIte, Nat.reduceEqDiff, Nat.reduceAdd, Nat.reduceMul, Nat.reduceSub, Nat.reduceLeDiff, Nat.reduceLT, Nat.reduceBEq, Nat.reduceBNe, reduceCtorEq, Int.reduceBEq, Int.reduceBNe, Int.reduceLT, Int.reduceLE, Int.reduceEq, Int.reduceToNat, Int.reduceAdd, Int.reduceSub, Int.reduceNeg, C7, C10, hjl, hj, e18, hb, callR_val hcI]
            exact leave L K _ _ hmL hgK hlK hcK (by simp +contextual only [vq, vc, ve, vv, vn, vl, ↓reduceIte, Nat.reduceEqDiff, Nat.reduceAdd, Nat.reduceMul, Nat.reduceSub, Nat.reduceLeDiff, Nat.reduceLT, Nat.reduceBEq, Nat.reduceBNe, reduceCtorEq, Int.reduceBEq, Int.reduceBNe, Int.reduceLT, Int.reduceLE, Int.reduceEq, Int.reduceToNat, Int.reduceAdd, Int.reduceSub, Int.reduceNeg, C3]) (by simp +contextual only [vq, vc, ve, vv, vn, vl, ↓reduceIte, Nat.reduceEqDiff, Nat.reduceAdd, Nat.reduceMul, Nat.reduceSub, Nat.reduceLeDiff, Nat.reduceLT, Nat.reduceBEq, Nat.reduceBNe, reduceCtorEq, Int.reduceBEq, Int.reduceBNe, Int.reduceLT, Int.reduceLE, Int.reduceEq, Int.reduceToNat, Int.reduceAdd, Int.reduceSub, Int.reduceNeg, C5]) (by simp +contextual only [vq, vc, ve, vv, vn, vl, ↓reduceIte, Nat.reduceEqDiff, Nat.reduceAdd, Nat.reduceMul, Nat.reduceSub, Nat.reduceLeDiff, Nat.reduceLT, Nat.reduceBEq, Nat.reduceBNe, reduceCtorEq, Int.reduceBEq, Int.reduceBNe, Int.reduceLT, Int.reduceLE, Int.reduceEq, Int.reduceToNat, Int.reduceAdd, Int.reduceSub, Int.reduceNeg, C13]) (by simp +contextual only [vq, vc, ve, vv, vn, vl, ↓reduceIte, Nat.reduceEqDiff, Nat.reduceAdd, Nat.reduceMul, Nat.reduceSub, Nat.reduceLeDiff, Nat.reduceLT, Nat.reduceBEq, Nat.reduceBNe, reduceCtorEq, Int.reduceBEq, Int.reduceBNe, Int.reduceLT, Int.reduceLE, Int.reduceEq, Int.reduceToNat, Int.reduceAdd, Int.reduceSub, Int.reduceNeg, C14]) (by simp +contextual only [vq, vc, ve, vv, vn, vl, ↓reduceIte, Nat.reduceEqDiff, Nat.reduceAdd, Nat.reduceMul, Nat.reduceSub, Nat.reduceLeDiff, Nat.reduceLT, Nat.reduceBEq, Nat.reduceBNe, reduceCtorEq, Int.reduceBEq, Int.reduceBNe, Int.reduceLT, Int.reduceLE, Int.reduceEq, Int.reduceToNat, Int.reduceAdd, Int.reduceSub, Int.reduceNeg, C15])
          | true =>
            rw [hd] at hcI
            have hpow : 10 ^ (j + 1) ≤ 10 ^ 18 := Nat.pow_le_pow_right (by omega) (by omega)
            rw [Nat.pow_succ] at hpow
            have hdg := hd
            simp [isDg] at hdg
            have hbl := r[j].toNat_lt
            have w1 : IntKind.u64.wrap (IntKind.u64.wrap (10 * (a : Int)) + IntKind.u64.wrap (IntKind.u8.wrap ((r[j].toNat : Int) - 48))) = ((10 * a + (r[j].toNat - 48) : Nat) : Int) := by
              rw [wrap8 (by omega) (by omega), wrapu64 (z := 10 * (a : Int)) (by omega) (by omega), wrapu64 (z := (r[j].toNat : Int) - 48) (by omega) (by omega), wrapu64 (by omega) (by omega)]
              omega
            have hnx : pfx (18 - j) a (r.drop j) = (10 * a + (r[j].toNat - 48)) :: (if 10 * a + (r[j].toNat - 48) = 0 then [] else pfx (18 - (j + 1)) (10 * a + (r[j].toNat - 48)) (r.drop (j + 1))) := by
              rw [hdrop, hz, show 18 - (j + 1) = z by omega]; simp [pfx, hd]
            rw [hnx] at hmL
            have ha' : 10 * a + (r[j].toNat - 48) < 10 ^ (j + 1) := by rw [Nat.pow_succ]; omega
            generalize 10 * a + (r[j].toNat - 48) = a' at w1 hmL ha'
            have w2 : IntKind.i64.wrap ((L.count a' : Nat) + 1 : Int) = ((L.count a' + 1 : Nat) : Int) := wsucc (n := L.count a' + 1) (by omega) (by have := cntK a'; omega)
            obtain ⟨K2, s1, s2, s3, s4⟩ := hcK.add a'
            have gK2 : Grown M K2 := (Stays.but s3 (Nat.le_refl _) (fun h => by omega)).grown hgK (Nat.le_refl _)
            have lK2 : m.bl.length ≤ K2.low := by omega
            by_cases h0 : a' = 0
            · rw [if_pos h0, ← List.append_assoc] at hmL
              have z0 : (a' == 0) = true := by simpa using h0
              simp +contextual only [vq, vc, ve, vv, vn, vl, ↓reduceIte, Nat.reduceEqDiff, Nat.reduceAdd, Nat.reduceMul, Nat.reduceSub, Nat.reduceLeDiff, Nat.reduceLT, Nat.reduceBEq, Nat.reduceBNe, reduceCtorEq, Int.reduceBEq, Int.reduceBNe, Int.reduceLT, Int.reduceLE, Int.reduceEq, Int.reduceToNat, Int.reduceAdd, Int.reduceSub, Int.reduceNeg, C3, C7, C9, C10, hjl, hj, e18, hb, callR_val hcI, w1, hcK.look a', w2, s1, z0]
              exact leave _ K2 _ _ hmL gK2 lK2 s2 (by simp +contextual only [vq, vc, ve, vv, vn, vl, ↓reduceIte, Nat.reduceEqDiff, Nat.reduceAdd, Nat.reduceMul, Nat.reduceSub, Nat.reduceLeDiff, Nat.reduceLT, Nat.reduceBEq, Nat.reduceBNe, reduceCtorEq, Int.reduceBEq, Int.reduceBNe, Int.reduceLT, Int.reduceLE, Int.reduceEq, Int.reduceToNat, Int.reduceAdd, Int.reduceSub, Int.reduceNeg, C3]) (by simp +contextual only [vq, vc, ve, vv, vn, vl, ↓reduceIte, Nat.reduceEqDiff, Nat.reduceAdd, Nat.reduceMul, Nat.reduceSub, Nat.reduceLeDiff, Nat.reduceLT, Nat.reduceBEq, Nat.reduceBNe, reduceCtorEq, Int.reduceBEq, Int.reduceBNe, Int.reduceLT, Int.reduceLE, Int.reduceEq, Int.reduceToNat, Int.reduceAdd, Int.reduceSub, Int.reduceNeg, C5]) (by simp +contextual only [vq, vc, ve, vv, vn, vl, ↓reduceIte, Nat.reduceEqDiff, Nat.reduceAdd, Nat.reduceMul, Nat.reduceSub, Nat.reduceLeDiff, Nat.reduceLT, Nat.reduceBEq, Nat.reduceBNe, reduceCtorEq, Int.reduceBEq, Int.reduceBNe, Int.reduceLT, Int.reduceLE, Int.reduceEq, Int.reduceToNat, Int.reduceAdd, Int.reduceSub, Int.reduceNeg, C13]) (by simp +contextual only [vq, vc, ve, vv, vn, vl, ↓reduceIte, Nat.reduceEqDiff, Nat.reduceAdd, Nat.reduceMul, Nat.reduceSub, Nat.reduceLeDiff, Nat.reduceLT, Nat.reduceBEq, Nat.reduceBNe, reduceCtorEq, Int.reduceBEq, Int.reduceBNe, Int.reduceLT, Int.reduceLE, Int.reduceEq, Int.reduceToNat, Int.reduceAdd, Int.reduceSub, Int.reduceNeg, C14]) (by simp +contextual only [vq, vc, ve, vv, vn, vl, ↓reduceIte, Nat.reduceEqDiff, Nat.reduceAdd, Nat.reduceMul, Nat.reduceSub, Nat.reduceLeDiff, Nat.reduceLT, Nat.reduceBEq, Nat.reduceBNe, reduceCtorEq, Int.reduceBEq, Int.reduceBNe, Int.reduceLT, Int.reduceLE, Int.reduceEq, Int.reduceToNat, Int.reduceAdd, Int.reduceSub, Int.reduceNeg, C15])
            · rw [if_neg h0, List.cons_append, List.append_cons] at hmL
              have z0 : (a' == 0) = false := by simpa using h0
              simp +contextual only [vq, vc, ve, vv, vn, vl, ↓reduceIte, Nat.reduceEqDiff, Nat.reduceAdd, Nat.reduceMul, Nat.reduceSub, Nat.reduceLeDiff, Nat.reduceLT, Nat.reduceBEq, Nat.reduceBNe, reduceCtorEq, Int.reduceBEq, Int.reduceBNe, Int.reduceLT, Int.reduceLE, Int.reduceEq, Int.reduceToNat, Int.reduceAdd, Int.reduceSub, Int.reduceNeg, C3, C7, C9, C10, hjl, hj, e18, hb, callR_val hcI, w1, hcK.look a', w2, s1, z0, wsucc hjl (by omega)]
              exact again2 hJ3 (18 - (j + 1)) (by omega) ⟨j + 1, a', L ++ [a'], _, K2, rfl, rfl, by omega, by omega, ha', by simp +contextual only [vq, vc, ve, vv, vn, vl, ↓reduceIte, Nat.reduceEqDiff, Nat.reduceAdd, Nat.reduceMul, Nat.reduceSub, Nat.reduceLeDiff, Nat.reduceLT, Nat.reduceBEq, Nat.reduceBNe, reduceCtorEq, Int.reduceBEq, Int.reduceBNe, Int.reduceLT, Int.reduceLE, Int.reduceEq, Int.reduceToNat, Int.reduceAdd, Int.reduceSub, Int.reduceNeg, C3], by simp +contextual only [vq, vc, ve, vv, vn, vl, ↓reduceIte, Nat.reduceEqDiff, Nat.reduceAdd, Nat.reduceMul, Nat.reduceSub, Nat.reduceLeDiff, Nat.reduceLT, Nat.reduceBEq, Nat.reduceBNe, reduceCtorEq, Int.reduceBEq, Int.reduceBNe, Int.reduceLT, Int.reduceLE, Int.reduceEq, Int.reduceToNat, Int.reduceAdd, Int.reduceSub, Int.reduceNeg, C5], by simp +contextual only [vq, vc, ve, vv, vn, vl, ↓reduceIte, Nat.reduceEqDiff, Nat.reduceAdd, Nat.reduceMul, Nat.reduceSub, Nat.reduceLeDiff, Nat.reduceLT, Nat.reduceBEq, Nat.reduceBNe, reduceCtorEq, Int.reduceBEq, Int.reduceBNe, Int.reduceLT, Int.reduceLE, Int.reduceEq, Int.reduceToNat, Int.reduceAdd, Int.reduceSub, Int.reduceNeg, C7, eh], by simp +contextual only [vq, vc, ve, vv, vn, vl, ↓reduceIte, Nat.reduceEqDiff, Nat.reduceAdd, Nat.reduceMul, Nat.reduceSub, Nat.reduceLeDiff, Nat.reduceLT, Nat.reduceBEq, Nat.reduceBNe, reduceCtorEq, Int.reduceBEq, Int.reduceBNe, Int.reduceLT, Int.reduceLE, Int.reduceEq, Int.reduceToNat, Int.reduceAdd, Int.reduceSub, Int.reduceNeg], by simp +contextual only [vq, vc, ve, vv, vn, vl, ↓reduceIte, Nat.reduceEqDiff, Nat.reduceAdd, Nat.reduceMul, Nat.reduceSub, Nat.reduceLeDiff, Nat.reduceLT, Nat.reduceBEq, Nat.reduceBNe, reduceCtorEq, Int.reduceBEq, Int.reduceBNe, Int.reduceLT, Int.reduceLE, Int.reduceEq, Int.reduceToNat, Int.reduceAdd, Int.reduceSub, Int.reduceNeg], by simp +contextual only [vq, vc, ve, vv, vn, vl, ↓reduceIte, Nat.reduceEqDiff, Nat.reduceAdd, Nat.reduceMul, Nat.reduceSub, Nat.reduceLeDiff, Nat.reduceLT, Nat.reduceBEq, Nat.reduceBNe, reduceCtorEq, Int.reduceBEq, Int.reduceBNe, Int.reduceLT, Int.reduceLE, Int.reduceEq, Int.reduceToNat, Int.reduceAdd, Int.reduceSub, Int.reduceNeg, C13], by simp +contextual only [vq, vc, ve, vv, vn, vl, ↓reduceIte, Nat.reduceEqDiff, Nat.reduceAdd, Nat.reduceMul, Nat.reduceSub, Nat.reduceLeDiff, Nat.reduceLT, Nat.reduceBEq, Nat.reduceBNe, reduceCtorEq, Int.reduceBEq, Int.reduceBNe, Int.reduceLT, Int.reduceLE, Int.reduceEq, Int.reduceToNat, Int.reduceAdd, Int.reduceSub, Int.reduceNeg, C14], by simp +contextual only [vq, vc, ve, vv, vn, vl, ↓reduceIte, Nat.reduceEqDiff, Nat.reduceAdd, Nat.reduceMul, Nat.reduceSub, Nat.reduceLeDiff, Nat.reduceLT, Nat.reduceBEq, Nat.reduceBNe, reduceCtorEq, Int.reduceBEq, Int.reduceBNe, Int.reduceLT, Int.reduceLE, Int.reduceEq, Int.reduceToNat, Int.reduceAdd, Int.reduceSub, Int.reduceNeg, C15], hmL, gK2, lK2, s2⟩
        · have hm0 : pfx (18 - j) a (r.drop j) = [] := by rw [show 18 - j = 0 by omega]; rfl
          rw [hm0, List.nil_append] at hmL
          simp +contextual only [vq, vc, ve, vv, vn, vl, ↓reduceIte, Nat.reduceEqDiff, Nat.reduceAdd, Nat.reduceMul, Nat.reduceSub, Nat.reduceLeDiff, Nat.reduceLT, Nat.reduceBEq, Nat.reduceBNe, reduceCtorEq, Int.reduceBEq, Int.reduceBNe, Int.reduceLT, Int.reduceLE, Int.reduceEq, Int.reduceToNat, Int.reduceAdd, Int.reduceSub, Int.reduceNeg, C7, C10, hjl, hj, e18, lv]
          exact leave L K _ _ hmL hgK hlK hcK (by simp +contextual only [vq, vc, ve, vv, vn, vl, ↓reduceIte, Nat.reduceEqDiff, Nat.reduceAdd, Nat.reduceMul, Nat.reduceSub, Nat.reduceLeDiff, Nat.reduceLT, Nat.reduceBEq, Nat.reduceBNe, reduceCtorEq, Int.reduceBEq, Int.reduceBNe, Int.reduceLT, Int.reduceLE, Int.reduceEq, Int.reduceToNat, Int.reduceAdd, Int.reduceSub, Int.reduceNeg, C3]) (by simp +contextual only [vq, vc, ve, vv, vn, vl, ↓reduceIte, Nat.reduceEqDiff, Nat.reduceAdd, Nat.reduceMul, Nat.reduceSub, Nat.reduceLeDiff, Nat.reduceLT, Nat.reduceBEq, Nat.reduceBNe, reduceCtorEq, Int.reduceBEq, Int.reduceBNe, Int.reduceLT, Int.reduceLE, Int.reduceEq, Int.reduceToNat, Int.reduceAdd, Int.reduceSub, Int.reduceNeg, C5]) (by simp +contextual only [vq, vc, ve, vv, vn, vl, ↓reduceIte, Nat.reduceEqDiff, Nat.reduceAdd, Nat.reduceMul, Nat.reduceSub, Nat.reduceLeDiff, Nat.reduceLT, Nat.reduceBEq, Nat.reduceBNe, reduceCtorEq, Int.reduceBEq, Int.reduceBNe, Int.reduceLT, Int.reduceLE, Int.reduceEq, Int.reduceToNat, Int.reduceAdd, Int.reduceSub, Int.reduceNeg, C13]) (by simp +contextual only [vq, vc, ve, vv, vn, vl, ↓reduceIte, Nat.reduceEqDiff, Nat.reduceAdd, Nat.reduceMul, Nat.reduceSub, Nat.reduceLeDiff, Nat.reduceLT, Nat.reduceBEq, Nat.reduceBNe, reduceCtorEq, Int.reduceBEq, Int.reduceBNe, Int.reduceLT, Int.reduceLE, Int.reduceEq, Int.reduceToNat, Int.reduceAdd, Int.reduceSub, Int.reduceNeg, C14]) (by simp +contextual only [vq, vc, ve, vv, vn, vl, ↓reduceIte, Nat.reduceEqDiff, Nat.reduceAdd, Nat.reduceMul, Nat.reduceSub, Nat.reduceLeDiff, Nat.reduceLT, Nat.reduceBEq, Nat.reduceBNe, reduceCtorEq, Int.reduceBEq, Int.reduceBNe, Int.reduceLT, Int.reduceLE, Int.reduceEq, Int.reduceToNat, Int.reduceAdd, Int.reduceSub, Int.reduceNeg, C15])
      · have hm0 : pfx (18 - j) a (r.drop j) = [] := by
          rw [List.drop_eq_nil_of_le (by omega)]
          cases 18 - j <;> rfl
        rw [hm0, List.nil_append] at hmL
        simp +contextual only [vq, vc, ve, vv, vn, vl, ↓reduceIte, Nat.reduceEqDiff, Nat.reduceAdd, Nat.reduceMul, Nat.reduceSub, Nat.reduceLeDiff, Nat.reduceLT, Nat.reduceBEq, Nat.reduceBNe, reduceCtorEq, Int.reduceBEq, Int.reduceBNe, Int.reduceLT, Int.reduceLE, Int.reduceEq, Int.reduceToNat, Int.reduceAdd, Int.reduceSub, Int.reduceNeg, C7, C10, hjl, lv]
        exact leave L K _ _ hmL hgK hlK hcK (by simp +contextual only [vq, vc, ve, vv, vn, vl, ↓reduceIte, Nat.reduceEqDiff, Nat.reduceAdd, Nat.reduceMul, Nat.reduceSub, Nat.reduceLeDiff, Nat.reduceLT, Nat.reduceBEq, Nat.reduceBNe, reduceCtorEq, Int.reduceBEq, Int.reduceBNe, Int.reduceLT, Int.reduceLE, Int.reduceEq, Int.reduceToNat, Int.reduceAdd, Int.reduceSub, Int.reduceNeg, C3]) (by simp +contextual only [vq, vc, ve, vv, vn, vl, ↓reduceIte, Nat.reduceEqDiff, Nat.reduceAdd, Nat.reduceMul, Nat.reduceSub, Nat.reduceLeDiff, Nat.reduceLT, Nat.reduceBEq, Nat.reduceBNe, reduceCtorEq, Int.reduceBEq, Int.reduceBNe, Int.reduceLT, Int.reduceLE, Int.reduceEq, Int.reduceToNat, Int.reduceAdd, Int.reduceSub, Int.reduceNeg, C5]) (by simp +contextual only [vq, vc, ve, vv, vn, vl, ↓reduceIte, Nat.reduceEqDiff, Nat.reduceAdd, Nat.reduceMul, Nat.reduceSub, Nat.reduceLeDiff, Nat.reduceLT, Nat.reduceBEq, Nat.reduceBNe, reduceCtorEq, Int.reduceBEq, Int.reduceBNe, Int.reduceLT, Int.reduceLE, Int.reduceEq, Int.reduceToNat, Int.reduceAdd, Int.reduceSub, Int.reduceNeg, C13]) (by simp +contextual only [vq, vc, ve, vv, vn, vl, ↓reduceIte, Nat.reduceEqDiff, Nat.reduceAdd, Nat.reduceMul, Nat.reduceSub, Nat.reduceLeDiff, Nat.reduceLT, Nat.reduceBEq, Nat.reduceBNe, reduceCtorEq, Int.reduceBEq, Int.reduceBNe, Int.reduceLT, Int.reduceLE, Int.reduceEq, Int.reduceToNat, Int.reduceAdd, Int.reduceSub, Int.reduceNeg, C14]) (by simp +contextual only [vq, vc, ve, vv, vn, vl, ↓reduceIte, Nat.reduceEqDiff, Nat.reduceAdd, Nat.reduceMul, Nat.reduceSub, Nat.reduceLeDiff, Nat.reduceLT, Nat.reduceBEq, Nat.reduceBNe, reduceCtorEq, Int.reduceBEq, Int.reduceBNe, Int.reduceLT, Int.reduceLE, Int.reduceEq, Int.reduceToNat, Int.reduceAdd, Int.reduceSub, Int.reduceNeg, C15])
  · have : i = ll.length := by omega
    subst this
    rw [List.take_length] at hcN
    simp +contextual only [vq, vc, ve, vv, vn, vl, ↓reduceIte, Nat.reduceEqDiff, Nat.reduceAdd, Nat.reduceMul, Nat.reduceSub, Nat.reduceLeDiff, Nat.reduceLT, Nat.reduceBEq, Nat.reduceBNe, reduceCtorEq, Int.reduceBEq, Int.reduceBNe, Int.reduceLT, Int.reduceLE, Int.reduceEq, Int.reduceToNat, Int.reduceAdd, Int.reduceSub, Int.reduceNeg, A13, A14, A15, hlt]
    refine loop2 (fun z st => ∃ (k : Nat) (B : Fr), st = ⟨B, N, [], none⟩ ∧ z = n - k ∧ k ≤ n ∧ B 3 = .map (some M.bl.length) ∧ B 11 = .int .u64 (k : Nat)) n ⟨0, _, rfl, by omega, by omega, by simp +contextual only [vq, vc, ve, vv, vn, vl, ↓reduceIte, Nat.reduceEqDiff, Nat.reduceAdd, Nat.reduceMul, Nat.reduceSub, Nat.reduceLeDiff, Nat.reduceLT, Nat.reduceBEq, Nat.reduceBNe, reduceCtorEq, Int.reduceBEq, Int.reduceBNe, Int.reduceLT, Int.reduceLE, Int.reduceEq, Int.reduceToNat, Int.reduceAdd, Int.reduceSub, Int.reduceNeg, A3], by simp +contextual only [vq, vc, ve, vv, vn, vl, ↓reduceIte, Nat.reduceEqDiff, Nat.reduceAdd, Nat.reduceMul, Nat.reduceSub, Nat.reduceLeDiff, Nat.reduceLT, Nat.reduceBEq, Nat.reduceBNe, reduceCtorEq, Int.reduceBEq, Int.reduceBNe, Int.reduceLT, Int.reduceLE, Int.reduceEq, Int.reduceToNat, Int.reduceAdd, Int.reduceSub, Int.reduceNeg]; rfl⟩ fun J2 hJ2 z st hI => ?_
    obtain ⟨k, B, rfl, rfl, hk, B3, B11⟩ := hI
    by_cases hkn : k < n
    · have hin : (0 : Int) < ((allMarks ll).count k : Nat) := by
        have := List.count_pos_iff.2 (h2 k hkn)
        omega
      have w1 : IntKind.u64.wrap ((k : Int) + 1) = ((k + 1 : Nat) : Int) := by rw [wrapu64 (by omega) (by omega)]; omega
      simp +contextual only [vq, vc, ve, vv, vn, vl, ↓reduceIte, Nat.reduceEqDiff, Nat.reduceAdd, Nat.reduceMul, Nat.reduceSub, Nat.reduceLeDiff, Nat.reduceLT, Nat.reduceBEq, Nat.reduceBNe, reduceCtorEq, Int.reduceBEq, Int.reduceBNe, Int.reduceLT, Int.reduceLE, Int.reduceEq, Int.reduceToNat, Int.reduceAdd, Int.reduceSub, Int.reduceNeg, B3, B11, hcN.look k, hin, w1]
      exact again2 hJ2 (n - (k + 1)) (by omega) ⟨k + 1, _, rfl, rfl, by omega, by simp +contextual only [vq, vc, ve, vv, vn, vl, ↓reduceIte, Nat.reduceEqDiff, Nat.reduceAdd, Nat.reduceMul, Nat.reduceSub, Nat.reduceLeDiff, Nat.reduceLT, Nat.reduceBEq, Nat.reduceBNe, reduceCtorEq, Int.reduceBEq, Int.reduceBNe, Int.reduceLT, Int.reduceLE, Int.reduceEq, Int.reduceToNat, Int.reduceAdd, Int.reduceSub, Int.reduceNeg, B3], by simp +contextual only [vq, vc, ve, vv, vn, vl, ↓reduceIte, Nat.reduceEqDiff, Nat.reduceAdd, Nat.reduceMul, Nat.reduceSub, Nat.reduceLeDiff, Nat.reduceLT, Nat.reduceBEq, Nat.reduceBNe, reduceCtorEq, Int.reduceBEq, Int.reduceBNe, Int.reduceLT, Int.reduceLE, Int.reduceEq, Int.reduceToNat, Int.reduceAdd, Int.reduceSub, Int.reduceNeg]⟩
    · have : k = n := by omega
      subst this
      have hin : ¬ (0 : Int) < ((allMarks ll).count k : Nat) := by
        have := List.count_eq_zero.2 h1
        omega
      have hdl := dec_len 19 k (by omega)
      have a1 : 2 + (dec k).length ≤ 9223372036854775807 := by omega
      simp +contextual only [vq, vc, ve, vv, vn, vl, ↓reduceIte, Nat.reduceEqDiff, Nat.reduceAdd, Nat.reduceMul, Nat.reduceSub, Nat.reduceLeDiff, Nat.reduceLT, Nat.reduceBEq, Nat.reduceBNe, reduceCtorEq, Int.reduceBEq, Int.reduceBNe, Int.reduceLT, Int.reduceLE, Int.reduceEq, Int.reduceToNat, Int.reduceAdd, Int.reduceSub, Int.reduceNeg, B3, B11, hcN.look k, hin, callR_val (c_octet_Decimal N k (by omega)), a1, hlN]
end Go.Proofs.YtjlpfijbnflknaaDoor.bounceWants

namespace Go.Proofs.YtjlpfijbnflknaaDoor.bounceWants
open Go.Ev hiding Comes
variable [GG]

/-- Is the answer wanted, by the whole number of the wish? -/
def wants (p0 r0 w : Int) : Bool := if p0 = 3 ∧ 0 ≤ r0 ∧ r0 ≤ 15 ∧ r0 % 2 = 0 then (if w = 1 then decide (r0 = 0 ∨ r0 / 4 % 2 = 1) else if w = 2 then decide (r0 / 8 % 2 = 1) else if w = 3 then decide (r0 / 2 % 2 = 1) else false) else false
theorem bits16 : ∀ n : Fin 16, (bitsE .and .i64 (n.val : Int) 1 != 0) = decide (n.val % 2 = 1) ∧ (bitsE .and .i64 (n.val : Int) 2 != 0) = decide (n.val / 2 % 2 = 1) ∧ (bitsE .and .i64 (n.val : Int) 4 != 0) = decide (n.val / 4 % 2 = 1) ∧ (bitsE .and .i64 (n.val : Int) 8 != 0) = decide (n.val / 8 % 2 = 1) := by decide +kernel
theorem wants_nat {n : Nat} (hn : n < 16) (w : Int) : wants 3 n w = if n % 2 = 0 then (if w = 1 then (decide (n = 0) || decide (n / 4 % 2 = 1)) else if w = 2 then decide (n / 8 % 2 = 1) else if w = 3 then decide (n / 2 % 2 = 1) else false) else false := by
  unfold wants
  by_cases h : n % 2 = 0
  · rw [if_pos h, if_pos (by omega)]
    split
    · rw [← Bool.decide_or]
      exact decide_eq_decide.2 (by omega)
    · split
      · exact decide_eq_decide.2 (by omega)
      · split
        · exact decide_eq_decide.2 (by omega)
        · rfl
  · rw [if_neg h, if_neg (by omega)]
theorem c_bounce_Wanted (m : Mem) (p0 : Int) (ps : List EV) (hps : ps.length = 20) (r0 : Int) (r1 r2 : EV) (w : Int) :
    Go.Ev.Comes T G f_bounce_Wanted [.agg (.int .i64 p0 :: ps), .agg [.int .i64 r0, r1, r2], .int .i64 w] m none ⟨.val (.bool (wants p0 r0 w)), m, none⟩ := by
  refine comes2 T_bounce_Wanted rfl fun M hg hlen hlow => ?_
  have hl0 : m.bl.length ≤ M.low := by omega
  simp only [F_bounce_Wanted]
  simp +contextual only [vq, vc, ve, vv, vn, vl, ↓reduceIte, Nat.reduceEqDiff, Nat.reduceAdd, Nat.reduceMul, Nat.reduceSub, Nat.reduceLeDiff, Nat.reduceLT, Nat.reduceBEq, Nat.reduceBNe, reduceCtorEq, Int.reduceBEq, Int.reduceBNe, Int.reduceLT, Int.reduceLE, Int.reduceEq, Int.reduceToNat, Int.reduceAdd, Int.reduceSub, Int.reduceNeg, hps]
  refine new_mk fun M1 e1 => ?_
  have R1 : RowIs M1 M.bl.length (.int .i64 p0 :: ps) := by rw [e1]; exact row_push _ _
  have l1 : m.bl.length ≤ M1.low := by rw [e1]; exact hl0
  simp +contextual only [vq, vc, ve, vv, vn, vl, ↓reduceIte, Nat.reduceEqDiff, Nat.reduceAdd, Nat.reduceMul, Nat.reduceSub, Nat.reduceLeDiff, Nat.reduceLT, Nat.reduceBEq, Nat.reduceBNe, reduceCtorEq, Int.reduceBEq, Int.reduceBNe, Int.reduceLT, Int.reduceLE, Int.reduceEq, Int.reduceToNat, Int.reduceAdd, Int.reduceSub, Int.reduceNeg]
  refine new_mk fun M2 e2 => ?_
  have R2 : RowIs M2 M1.bl.length [.int .i64 r0, r1, r2] := by rw [e2]; exact row_push _ _
  have R1 : RowIs M2 M.bl.length (.int .i64 p0 :: ps) := R1.grown (by rw [e2]; exact Grown.rfl'.push)
  have l2 : m.bl.length ≤ M2.low := by rw [e2]; exact l1
  have g0 := R1.get (G := G) 0
  have g1 := R2.get (G := G) 0
  simp only [List.getElem?_cons_zero] at g0 g1
  by_cases h3 : p0 = 3
  · subst h3
    have k0 : ((3 : Int) != 3) = false := rfl
    by_cases hr0 : r0 < 0
    · have e : wants 3 r0 w = false := by unfold wants; rw [if_neg (by omega)]
      simp +contextual only [vq, vc, ve, vv, vn, vl, ↓reduceIte, Nat.reduceEqDiff, Nat.reduceAdd, Nat.reduceMul, Nat.reduceSub, Nat.reduceLeDiff, Nat.reduceLT, Nat.reduceBEq, Nat.reduceBNe, reduceCtorEq, Int.reduceBEq, Int.reduceBNe, Int.reduceLT, Int.reduceLE, Int.reduceEq, Int.reduceToNat, Int.reduceAdd, Int.reduceSub, Int.reduceNeg, g0, g1, k0, hr0, l2, e]
    · by_cases hr1 : 15 < r0
      · have e : wants 3 r0 w = false := by unfold wants; rw [if_neg (by omega)]
        simp +contextual only [vq, vc, ve, vv, vn, vl, ↓reduceIte, Nat.reduceEqDiff, Nat.reduceAdd, Nat.reduceMul, Nat.reduceSub, Nat.reduceLeDiff, Nat.reduceLT, Nat.reduceBEq, Nat.reduceBNe, reduceCtorEq, Int.reduceBEq, Int.reduceBNe, Int.reduceLT, Int.reduceLE, Int.reduceEq, Int.reduceToNat, Int.reduceAdd, Int.reduceSub, Int.reduceNeg, g0, g1, k0, hr0, hr1, l2, e]
      · obtain ⟨n, hn, rfl⟩ : ∃ n : Nat, n < 16 ∧ r0 = n := ⟨r0.toNat, by omega, by omega⟩
        obtain ⟨b1, b2, b4, b8⟩ := bits16 ⟨n, hn⟩
        simp only at b1 b2 b4 b8
        have e := wants_nat hn w
        by_cases ho : n % 2 = 0
        · have b1 : (bitsE .and .i64 (n : Int) 1 != 0) = false := by rw [b1]; simp [ho]
          rw [if_pos ho] at e
          have en : ((n : Int) == 0) = decide (n = 0) := by cases n <;> rfl
          by_cases w1 : w = 1
          · subst w1
            rw [if_pos rfl] at e
            simp +contextual only [vq, vc, ve, vv, vn, vl, ↓reduceIte, Nat.reduceEqDiff, Nat.reduceAdd, Nat.reduceMul, Nat.reduceSub, Nat.reduceLeDiff, Nat.reduceLT, Nat.reduceBEq, Nat.reduceBNe, reduceCtorEq, Int.reduceBEq, Int.reduceBNe, Int.reduceLT, Int.reduceLE, Int.reduceEq, Int.reduceToNat, Int.reduceAdd, Int.reduceSub, Int.reduceNeg, g0, g1, k0, hr0, hr1, b1, b4, en, l2, e]
          · rw [if_neg w1] at e
            have k1 : (w == 1) = false := by simpa using w1
            by_cases w2 : w = 2
            · subst w2
              rw [if_pos rfl] at e
              simp +contextual only [vq, vc, ve, vv, vn, vl, ↓reduceIte, Nat.reduceEqDiff, Nat.reduceAdd, Nat.reduceMul, Nat.reduceSub, Nat.reduceLeDiff, Nat.reduceLT, Nat.reduceBEq, Nat.reduceBNe, reduceCtorEq, Int.reduceBEq, Int.reduceBNe, Int.reduceLT, Int.reduceLE, Int.reduceEq, Int.reduceToNat, Int.reduceAdd, Int.reduceSub, Int.reduceNeg, g0, g1, k0, hr0, hr1, b1, k1, b8, l2, e]
            · rw [if_neg w2] at e
              have k2 : (w == 2) = false := by simpa using w2
              by_cases w3 : w = 3
              · subst w3
                rw [if_pos rfl] at e
                simp +contextual only [vq, vc, ve, vv, vn, vl, ↓reduceIte, Nat.reduceEqDiff, Nat.reduceAdd, Nat.reduceMul, Nat.reduceSub, Nat.reduceLeDiff, Nat.reduceLT, Nat.reduceBEq, Nat.reduceBNe, reduceCtorEq, Int.reduceBEq, Int.reduceBNe, Int.reduceLT, Int.reduceLE, Int.reduceEq, Int.reduceToNat, Int.reduceAdd, Int.reduceSub, Int.reduceNeg, g0, g1, k0, hr0, hr1, b1, k1, k2, b2, l2, e]
              · rw [if_neg w3] at e
                have k3 : (w == 3) = false := by simpa using w3
                simp +contextual only [vq, vc, ve, vv, vn, vl, ↓reduceIte, Nat.reduceEqDiff, Nat.reduceAdd, Nat.reduceMul, Nat.reduceSub, Nat.reduceLeDiff, Nat.reduceLT, Nat.reduceBEq, Nat.reduceBNe, reduceCtorEq, Int.reduceBEq, Int.reduceBNe, Int.reduceLT, Int.reduceLE, Int.reduceEq, Int.reduceToNat, Int.reduceAdd, Int.reduceSub, Int.reduceNeg, g0, g1, k0, hr0, hr1, b1, k1, k2, k3, l2, e]
        · have b1 : (bitsE .and .i64 (n : Int) 1 != 0) = true := by rw [b1]; simp; omega
          rw [if_neg ho] at e
          simp +contextual only [vq, vc, ve, vv, vn, vl, ↓reduceIte, Nat.reduceEqDiff, Nat.reduceAdd, Nat.reduceMul, Nat.reduceSub, Nat.reduceLeDiff, Nat.reduceLT, Nat.reduceBEq, Nat.reduceBNe, reduceCtorEq, Int.reduceBEq, Int.reduceBNe, Int.reduceLT, Int.reduceLE, Int.reduceEq, Int.reduceToNat, Int.reduceAdd, Int.reduceSub, Int.reduceNeg, g0, g1, k0, hr0, hr1, b1, l2, e]
  · have e : wants p0 r0 w = false := by unfold wants; rw [if_neg (by omega)]
    have k0 : (p0 != 3) = true := by simpa using h3
    simp +contextual only [vq, vc, ve, vv, vn, vl, ↓reduceIte, Nat.reduceEqDiff, Nat.reduceAdd, Nat.reduceMul, Nat.reduceSub, Nat.reduceLeDiff, Nat.reduceLT, Nat.reduceBEq, Nat.reduceBNe, reduceCtorEq, Int.reduceBEq, Int.reduceBNe, Int.reduceLT, Int.reduceLE, Int.reduceEq, Int.reduceToNat, Int.reduceAdd, Int.reduceSub, Int.reduceNeg, g0, g1, k0, l2, e]
end Go.Proofs.YtjlpfijbnflknaaDoor.bounceWants

namespace Go.Proofs.YtjlpfijbnflknaaDoor.bounceWants
open Go.Ev hiding Comes
variable [GG]

theorem head_marks : (1 ∉ allMarks [[120, 61, 95, 48, 121], [61, 95, 50]]) ∧ ∀ k, k < 1 → k ∈ allMarks [[120, 61, 95, 48, 121], [61, 95, 50]] := by
  refine ⟨fun h => ?_, fun k hk => ?_⟩
  · have := (allMarks_any (by omega)).2 h
    rw [dec_lt (by omega)] at this
    revert this
    decide
  · have : k = 0 := by omega
    subst this
    refine (allMarks_any (by omega)).1 ?_
    rw [dec_lt (by omega)]
    decide
theorem c_l30_head (m : Mem) : Go.Ev.Comes T G f_l30_head [] m none ⟨.val (.bool true), m, none⟩ := by
  refine comes2 T_l30_head rfl fun M hg hlen hlow => ?_
  have hl0 : m.bl.length ≤ M.low := by omega
  simp only [F_l30_head]
  simp +contextual only [vq, vc, ve, vv, vn, vl, ↓reduceIte, Nat.reduceEqDiff, Nat.reduceAdd, Nat.reduceMul, Nat.reduceSub, Nat.reduceLeDiff, Nat.reduceLT, Nat.reduceBEq, Nat.reduceBNe, reduceCtorEq, Int.reduceBEq, Int.reduceBNe, Int.reduceLT, Int.reduceLE, Int.reduceEq, Int.reduceToNat, Int.reduceAdd, Int.reduceSub, Int.reduceNeg]
  refine new_mk fun M1 e1 => ?_
  have R1 : RowIs M1 M.bl.length (bytesE [120, 61, 95, 48, 121]) := by rw [e1]; exact row_push _ _
  have B1 : BytesAt G M1 (.slice (some ⟨.mem M.bl.length 0, 0⟩) 5 5 1) [120, 61, 95, 48, 121] := bytes_new (s := [120, 61, 95, 48, 121]) e1
  have k1 := mk_row (o := 0) (n := 5) (c := 5) (z := 1) R1 (by omega)
  have l1 : m.bl.length ≤ M1.low := by rw [e1]; exact hl0
  simp +contextual only [vq, vc, ve, vv, vn, vl, ↓reduceIte, Nat.reduceEqDiff, Nat.reduceAdd, Nat.reduceMul, Nat.reduceSub, Nat.reduceLeDiff, Nat.reduceLT, Nat.reduceBEq, Nat.reduceBNe, reduceCtorEq, Int.reduceBEq, Int.reduceBNe, Int.reduceLT, Int.reduceLE, Int.reduceEq, Int.reduceToNat, Int.reduceAdd, Int.reduceSub, Int.reduceNeg, k1]
  refine new_mk fun M2 e2 => ?_
  have R2 : RowIs M2 M1.bl.length (bytesE [61, 95, 50]) := by rw [e2]; exact row_push _ _
  have B2 : BytesAt G M2 (.slice (some ⟨.mem M1.bl.length 0, 0⟩) 3 3 1) [61, 95, 50] := bytes_new (s := [61, 95, 50]) e2
  have k2 := mk_row (o := 0) (n := 3) (c := 3) (z := 1) R2 (by omega)
  have l2 : m.bl.length ≤ M2.low := by rw [e2]; exact l1
  simp +contextual only [vq, vc, ve, vv, vn, vl, ↓reduceIte, Nat.reduceEqDiff, Nat.reduceAdd, Nat.reduceMul, Nat.reduceSub, Nat.reduceLeDiff, Nat.reduceLT, Nat.reduceBEq, Nat.reduceBNe, reduceCtorEq, Int.reduceBEq, Int.reduceBNe, Int.reduceLT, Int.reduceLE, Int.reduceEq, Int.reduceToNat, Int.reduceAdd, Int.reduceSub, Int.reduceNeg, k2]
  refine new_mk fun M3 e3 => ?_
  have l3 : m.bl.length ≤ M3.low := by rw [e3]; exact l2
  have g3 : Grown M2 M3 := by rw [e3]; exact Grown.rfl'.push
  have g2 : Grown M1 M2 := by rw [e2]; exact Grown.rfl'.push
  have hrows : ByteRows G M3 (.slice (some ⟨.mem M2.bl.length 0, 0⟩) 2 2 1) [[120, 61, 95, 48, 121], [61, 95, 50]] := by
    refine ⟨[.slice (some ⟨.mem M.bl.length 0, 0⟩) 5 5 1, .slice (some ⟨.mem M1.bl.length 0, 0⟩) 3 3 1], rfl, lit_rowsAt (rows := [[_], [_]]) e3 rfl (by simp), fun i x s hx hs => ?_⟩
    match i with
    | 0 =>
      simp only [List.getElem?_cons_zero, Option.some.injEq] at hx hs
      subst hx hs
      exact B1.grown (g2.trans g3)
    | 1 =>
      simp only [List.getElem?_cons_succ, List.getElem?_cons_zero, Option.some.injEq] at hx hs
      subst hx hs
      exact B2.grown g3
    | j + 2 => simp at hx
  have hB := c_bounce_Boundary M3 _ _ hrows (by simp) (by simp) 1 head_marks.1 head_marks.2
  rw [dec_lt (by omega)] at hB
  have hW := c_bounce_Wanted M3 3 [.slice none 0 0 0, .str [], .int .i64 0, .str [], .int .u8 0, .int .u8 0, .int .u8 0, .int .u8 0, .int .u8 0, .int .u8 0, .int .u8 0, .int .u8 0, .int .u8 0, .int .u8 0, .int .u8 0, .int .u8 0, .int .u8 0, .int .u8 0, .int .u8 0, .int .u8 0] rfl 0 (.bool false) (.str []) 1
  rw [show wants 3 0 1 = true by decide] at hW
  have e1' : ([61, 95, dg 1] == [61, 95, 49]) = true := by decide
  simp +contextual only [vq, vc, ve, vv, vn, vl, ↓reduceIte, Nat.reduceEqDiff, Nat.reduceAdd, Nat.reduceMul, Nat.reduceSub, Nat.reduceLeDiff, Nat.reduceLT, Nat.reduceBEq, Nat.reduceBNe, reduceCtorEq, Int.reduceBEq, Int.reduceBNe, Int.reduceLT, Int.reduceLE, Int.reduceEq, Int.reduceToNat, Int.reduceAdd, Int.reduceSub, Int.reduceNeg, callR_val hB, e1', callR_val hW, l3]
end Go.Proofs.YtjlpfijbnflknaaDoor.bounceWants

namespace Go.Proofs.YtjlpfijbnflknaaDoor.bounceWants
open Go.Ev hiding Comes
variable [GG]

theorem c_r30_Wanted (m : Mem) (p0 : Int) (ps : List EV) (hps : ps.length = 20) (r0 : Int) (s1 s2 : EV) (w : Int) :
    Go.Ev.Comes T G f_r30_Wanted [.agg (.int .i64 p0 :: ps), .agg [.int .i64 r0, s1, s2], .int .i64 w] m none ⟨.val (.bool (wants p0 r0 w)), m, none⟩ := by
  refine comes2 T_r30_Wanted rfl fun M hg hlen hlow => ?_
  have hl0 : m.bl.length ≤ M.low := by omega
  simp only [F_r30_Wanted]
  simp +contextual only [vq, vc, ve, vv, vn, vl, ↓reduceIte, Nat.reduceEqDiff, Nat.reduceAdd, Nat.reduceMul, Nat.reduceSub, Nat.reduceLeDiff, Nat.reduceLT, Nat.reduceBEq, Nat.reduceBNe, reduceCtorEq, Int.reduceBEq, Int.reduceBNe, Int.reduceLT, Int.reduceLE, Int.reduceEq, Int.reduceToNat, Int.reduceAdd, Int.reduceSub, Int.reduceNeg, hps]
  refine new_mk fun M1 e1 => ?_
  have R1 : RowIs M1 M.bl.length (.int .i64 p0 :: ps) := by rw [e1]; exact row_push _ _
  have l1 : m.bl.length ≤ M1.low := by rw [e1]; exact hl0
  simp +contextual only [vq, vc, ve, vv, vn, vl, ↓reduceIte, Nat.reduceEqDiff, Nat.reduceAdd, Nat.reduceMul, Nat.reduceSub, Nat.reduceLeDiff, Nat.reduceLT, Nat.reduceBEq, Nat.reduceBNe, reduceCtorEq, Int.reduceBEq, Int.reduceBNe, Int.reduceLT, Int.reduceLE, Int.reduceEq, Int.reduceToNat, Int.reduceAdd, Int.reduceSub, Int.reduceNeg]
  refine new_mk fun M2 e2 => ?_
  have R2 : RowIs M2 M1.bl.length [.int .i64 r0, s1, s2] := by rw [e2]; exact row_push _ _
  have R1 : RowIs M2 M.bl.length (.int .i64 p0 :: ps) := R1.grown (by rw [e2]; exact Grown.rfl'.push)
  have l2 : m.bl.length ≤ M2.low := by rw [e2]; exact l1
  have g0 := R1.get (G := G) 0
  have g1 := R2.get (G := G) 0
  simp only [List.getElem?_cons_zero] at g0 g1
  by_cases h3 : p0 = 3
  · subst h3
    have k0 : ((3 : Int) != 3) = false := rfl
    by_cases hr0 : r0 < 0
    · have e : wants 3 r0 w = false := by unfold wants; rw [if_neg (by omega)]
      simp +contextual only [vq, vc, ve, vv, vn, vl, ↓reduceIte, Nat.reduceEqDiff, Nat.reduceAdd, Nat.reduceMul, Nat.reduceSub, Nat.reduceLeDiff, Nat.reduceLT, Nat.reduceBEq, Nat.reduceBNe, reduceCtorEq, Int.reduceBEq, Int.reduceBNe, Int.reduceLT, Int.reduceLE, Int.reduceEq, Int.reduceToNat, Int.reduceAdd, Int.reduceSub, Int.reduceNeg, g0, g1, k0, hr0, l2, e]
    · by_cases hr1 : 15 < r0
      · have e : wants 3 r0 w = false := by unfold wants; rw [if_neg (by omega)]
        simp +contextual only [vq, vc, ve, vv, vn, vl, ↓reduceIte, Nat.reduceEqDiff, Nat.reduceAdd, Nat.reduceMul, Nat.reduceSub, Nat.reduceLeDiff, Nat.reduceLT, Nat.reduceBEq, Nat.reduceBNe, reduceCtorEq, Int.reduceBEq, Int.reduceBNe, Int.reduceLT, Int.reduceLE, Int.reduceEq, Int.reduceToNat, Int.reduceAdd, Int.reduceSub, Int.reduceNeg, g0, g1, k0, hr0, hr1, l2, e]
      · obtain ⟨n, hn, rfl⟩ : ∃ n : Nat, n < 16 ∧ r0 = n := ⟨r0.toNat, by omega, by omega⟩
        have q1 : ((n : Nat) : Int).tmod 2 = ((n % 2 : Nat) : Int) := rfl
        have q2 : IntKind.i64.wrap (((n : Nat) : Int).tdiv 2) = ((n / 2 : Nat) : Int) := wrap_of rfl (by omega)
        have q4 : IntKind.i64.wrap (((n : Nat) : Int).tdiv 4) = ((n / 4 : Nat) : Int) := wrap_of rfl (by omega)
        have q8 : IntKind.i64.wrap (((n : Nat) : Int).tdiv 8) = ((n / 8 : Nat) : Int) := wrap_of rfl (by omega)
        have p1 : IntKind.i64.wrap ((n % 2 : Nat) : Int) = ((n % 2 : Nat) : Int) := wrap_of rfl (by omega)
        have r2 : ((n / 2 : Nat) : Int).tmod 2 = ((n / 2 % 2 : Nat) : Int) := rfl
        have r4 : ((n / 4 : Nat) : Int).tmod 2 = ((n / 4 % 2 : Nat) : Int) := rfl
        have r8 : ((n / 8 : Nat) : Int).tmod 2 = ((n / 8 % 2 : Nat) : Int) := rfl
        have one : ∀ k : Nat, (((k : Nat) : Int) == 1) = decide (k = 1) := fun k => by
          rw [Bool.eq_iff_iff]; simp; omega
        have b1 := one (n % 2)
        have b2 := one (n / 2 % 2)
        have b4 := one (n / 4 % 2)
        have b8 := one (n / 8 % 2)
        have e := wants_nat hn w
        by_cases ho : n % 2 = 0
        · have b1 : (((n % 2 : Nat) : Int) == 1) = false := by rw [b1]; simp [ho]
          rw [if_pos ho] at e
          have en : ((n : Int) == 0) = decide (n = 0) := by cases n <;> rfl
          by_cases w1 : w = 1
          · subst w1
            rw [if_pos rfl] at e
            simp +contextual only [vq, vc, ve, vv, vn, vl, ↓reduceIte, Nat.reduceEqDiff, Nat.reduceAdd, Nat.reduceMul, Nat.reduceSub, Nat.reduceLeDiff, Nat.reduceLT, Nat.reduceBEq, Nat.reduceBNe, reduceCtorEq, Int.reduceBEq, Int.reduceBNe, Int.reduceLT, Int.reduceLE, Int.reduceEq, Int.reduceToNat, Int.reduceAdd, Int.reduceSub, Int.reduceNeg, g0, g1, k0, hr0, hr1, q1, q2, q4, q8, p1, r2, r4, r8, b1, b4, en, l2, e]
          · rw [if_neg w1] at e
            have k1 : (w == 1) = false := by simpa using w1
            by_cases w2 : w = 2
            · subst w2
              rw [if_pos rfl] at e
              simp +contextual only [vq, vc, ve, vv, vn, vl, ↓reduceIte, Nat.reduceEqDiff, Nat.reduceAdd, Nat.reduceMul, Nat.reduceSub, Nat.reduceLeDiff, Nat.reduceLT, Nat.reduceBEq, Nat.reduceBNe, reduceCtorEq, Int.reduceBEq, Int.reduceBNe, Int.reduceLT, Int.reduceLE, Int.reduceEq, Int.reduceToNat, Int.reduceAdd, Int.reduceSub, Int.reduceNeg, g0, g1, k0, hr0, hr1, q1, q2, q4, q8, p1, r2, r4, r8, b1, k1, b8, l2, e]
            · rw [if_neg w2] at e
              have k2 : (w == 2) = false := by simpa using w2
              by_cases w3 : w = 3
              · subst w3
                rw [if_pos rfl] at e
                simp +contextual only [vq, vc, ve, vv, vn, vl, ↓reduceIte, Nat.reduceEqDiff, Nat.reduceAdd, Nat.reduceMul, Nat.reduceSub, Nat.reduceLeDiff, Nat.reduceLT, Nat.reduceBEq, Nat.reduceBNe, reduceCtorEq, Int.reduceBEq, Int.reduceBNe, Int.reduceLT, Int.reduceLE, Int.reduceEq, Int.reduceToNat, Int.reduceAdd, Int.reduceSub, Int.reduceNeg, g0, g1, k0, hr0, hr1, q1, q2, q4, q8, p1, r2, r4, r8, b1, k1, k2, b2, l2, e]
              · rw [if_neg w3] at e
                have k3 : (w == 3) = false := by simpa using w3
                simp +contextual only [vq, vc, ve, vv, vn, vl, ↓reduceIte, Nat.reduceEqDiff, Nat.reduceAdd, Nat.reduceMul, Nat.reduceSub, Nat.reduceLeDiff, Nat.reduceLT, Nat.reduceBEq, Nat.reduceBNe, reduceCtorEq, Int.reduceBEq, Int.reduceBNe, Int.reduceLT, Int.reduceLE, Int.reduceEq, Int.reduceToNat, Int.reduceAdd, Int.reduceSub, Int.reduceNeg, g0, g1, k0, hr0, hr1, q1, q2, q4, q8, p1, r2, r4, r8, b1, k1, k2, k3, l2, e]
        · have b1 : (((n % 2 : Nat) : Int) == 1) = true := by rw [b1]; simp; omega
          rw [if_neg ho] at e
          simp +contextual only [vq, vc, ve, vv, vn, vl, ↓reduceIte, Nat.reduceEqDiff, Nat.reduceAdd, Nat.reduceMul, Nat.reduceSub, Nat.reduceLeDiff, Nat.reduceLT, Nat.reduceBEq, Nat.reduceBNe, reduceCtorEq, Int.reduceBEq, Int.reduceBNe, Int.reduceLT, Int.reduceLE, Int.reduceEq, Int.reduceToNat, Int.reduceAdd, Int.reduceSub, Int.reduceNeg, g0, g1, k0, hr0, hr1, q1, q2, q4, q8, p1, r2, r4, r8, b1, l2, e]
  · have e : wants p0 r0 w = false := by unfold wants; rw [if_neg (by omega)]
    have k0 : (p0 != 3) = true := by simpa using h3
    simp +contextual only [vq, vc, ve, vv, vn, vl, ↓reduceIte, Nat.reduceEqDiff, Nat.reduceAdd, Nat.reduceMul, Nat.reduceSub, Nat.reduceLeDiff, Nat.reduceLT, Nat.reduceBEq, Nat.reduceBNe, reduceCtorEq, Int.reduceBEq, Int.reduceBNe, Int.reduceLT, Int.reduceLE, Int.reduceEq, Int.reduceToNat, Int.reduceAdd, Int.reduceSub, Int.reduceNeg, g0, g1, k0, l2, e]
end Go.Proofs.YtjlpfijbnflknaaDoor.bounceWants

namespace Go.Proofs.YtjlpfijbnflknaaDoor.bounceWants
open Go.Ev hiding Comes
variable [GG]

theorem row_all {m : Mem} {b n : Nat} {cs : List EV} (h : RowIs m b cs) (hn : n = cs.length) : m.getN G ⟨.mem b 0, 0⟩ n = some cs := by
  subst hn
  rw [h.getN]
  by_cases h0 : cs.length = 0
  · rw [if_pos h0, List.length_eq_zero_iff.1 h0]
  · rw [if_neg h0, if_pos (by omega), List.drop_zero, List.take_length]
theorem law (m : Mem) (p0 : Int) (ps : List EV) (hps : ps.length = 20) (r0 : Int) (r1 r2 : EV) (w : Int) :
    Go.Ev.Comes T G f_l30_BounceWants [.agg (.int .i64 p0 :: ps), .agg [.int .i64 r0, r1, r2], .int .i64 w] m none ⟨.val (.bool true), m, none⟩ := by
  refine comes2 T_l30_BounceWants rfl fun M hg hlen hlow => ?_
  have hl0 : m.bl.length ≤ M.low := by omega
  simp only [F_l30_BounceWants]
  simp +contextual only [vq, vc, ve, vv, vn, vl, ↓reduceIte, Nat.reduceEqDiff, Nat.reduceAdd, Nat.reduceMul, Nat.reduceSub, Nat.reduceLeDiff, Nat.reduceLT, Nat.reduceBEq, Nat.reduceBNe, reduceCtorEq, Int.reduceBEq, Int.reduceBNe, Int.reduceLT, Int.reduceLE, Int.reduceEq, Int.reduceToNat, Int.reduceAdd, Int.reduceSub, Int.reduceNeg, hps]
  refine new_mk fun M1 e1 => ?_
  have R1 : RowIs M1 M.bl.length (.int .i64 p0 :: ps) := by rw [e1]; exact row_push _ _
  have l1 : m.bl.length ≤ M1.low := by rw [e1]; exact hl0
  simp +contextual only [vq, vc, ve, vv, vn, vl, ↓reduceIte, Nat.reduceEqDiff, Nat.reduceAdd, Nat.reduceMul, Nat.reduceSub, Nat.reduceLeDiff, Nat.reduceLT, Nat.reduceBEq, Nat.reduceBNe, reduceCtorEq, Int.reduceBEq, Int.reduceBNe, Int.reduceLT, Int.reduceLE, Int.reduceEq, Int.reduceToNat, Int.reduceAdd, Int.reduceSub, Int.reduceNeg]
  refine new_mk fun M2 e2 => ?_
  have R2 : RowIs M2 M1.bl.length [.int .i64 r0, r1, r2] := by rw [e2]; exact row_push _ _
  have R1 : RowIs M2 M.bl.length (.int .i64 p0 :: ps) := R1.grown (by rw [e2]; exact Grown.rfl'.push)
  have l2 : m.bl.length ≤ M2.low := by rw [e2]; exact l1
  have g0 := row_all R1 (n := 21) (by simp [hps])
  have g1 := row_all R2 (n := 3) rfl
  have b1 : M.bl.length < M2.bl.length := R1.lt
  have b2 : M1.bl.length < M2.bl.length := R2.lt
  have hA := c_bounce_Wanted ⟨M2.bl, M2.bl.length⟩ p0 ps hps r0 r1 r2 w
  have hB := c_r30_Wanted ⟨M2.bl, M2.bl.length⟩ p0 ps hps r0 r1 r2 w
  have hC := c_l30_head ⟨M2.bl, M2.bl.length⟩
  simp +contextual only [vq, vc, ve, vv, vn, vl, ↓reduceIte, Nat.reduceEqDiff, Nat.reduceAdd, Nat.reduceMul, Nat.reduceSub, Nat.reduceLeDiff, Nat.reduceLT, Nat.reduceBEq, Nat.reduceBNe, reduceCtorEq, Int.reduceBEq, Int.reduceBNe, Int.reduceLT, Int.reduceLE, Int.reduceEq, Int.reduceToNat, Int.reduceAdd, Int.reduceSub, Int.reduceNeg, b1, b2, g0, g1, callR_val hA, callR_val hB, callR_val hC, l2]
theorem lawAll (m : Mem) (xs : List EV) (hro : RO m) (hs : SitArgs 1048576 m [.struct [.int .i64, .slice (.struct [.int .i64, .str, .arr 16 (.int .u8)]), .struct [.str, .struct [.int .i64, .str, .arr 16 (.int .u8)]]], .struct [.int .i64, .bool, .str], .int .i64] xs) : ∃ m' p', Go.Ev.Comes T G f_l30_BounceWants xs m none ⟨.val (.bool true), m', p'⟩ := by
  obtain ⟨ys, r, rfl, h1, z1, ys2, r2, rfl, h2, z2, ys3, r3, rfl, h3, z3, rfl⟩ := hs
  obtain ⟨a, b, rfl, _, k1, k2⟩ := sits_cons (sits_struct h1)
  obtain ⟨p0, rfl, _, _⟩ := sits_int k1
  obtain ⟨c, d, rfl, _, k3, k4⟩ := sits_cons (sits_struct h2)
  obtain ⟨r0, rfl, _, _⟩ := sits_int k3
  obtain ⟨w, rfl, _, _⟩ := sits_int h3
  have z1 : ([EV.int .i64 p0] ++ b).length = 21 := z1
  simp only [List.length_append, List.length_cons, List.length_nil] at z1
  have z2 : ([EV.int .i64 r0] ++ d).length = 3 := z2
  simp only [List.length_append, List.length_cons, List.length_nil] at z2
  match d, (show d.length = 2 by omega) with
  | [r1, r2], _ => exact ⟨m, none, law m p0 b (by omega) r0 r1 r2 w⟩
end Go.Proofs.YtjlpfijbnflknaaDoor.bounceWants
