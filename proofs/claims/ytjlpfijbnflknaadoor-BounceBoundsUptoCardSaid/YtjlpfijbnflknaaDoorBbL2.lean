/- A part of the proof of the statement that this claim hands in: what single functions come to. There are no conditions. -/
import Derived.Test.YtjlpfijbnflknaaDoorBbL1
import Derived.Test.YtjlpfijbnflknaaDoorBbEv20
import Derived.Test.YtjlpfijbnflknaaDoorBbEv30
import Derived.Test.YtjlpfijbnflknaaDoorBbEv31
import Derived.Test.YtjlpfijbnflknaaDoorBbEv32
import Derived.Test.YtjlpfijbnflknaaDoorBbEv33
set_option linter.unusedVariables false
set_option linter.unusedSimpArgs false
set_option linter.unusedSectionVars false
namespace Go.Proofs.YtjlpfijbnflknaaDoor.bounceBounds
open Go.Ev hiding Comes
variable [GG]

theorem get_grown {m M : Mem} {G : Globs} (h : Grown m M) {a : Ad} {v : EV} (hg : m.get G a = some v) : M.get G a = some v := by
  unfold Mem.get at hg ⊢
  cases hr : m.row G a.base with
  | none => rw [hr] at hg; cases hg
  | some c => rw [row_old h hr]; rw [hr] at hg; exact hg
/-- All the numbers of rows. -/
def allMarks (ll : List (List UInt8)) : List Nat := ll.flatMap fun s => marks s.length s
theorem isF_digit (b : UInt8) : isF 2 b.toNat = isDg b := by revert b; decide +kernel
/-- The map counts these numbers. -/
def Counts (m : Mem) (b : Nat) (L : List Nat) : Prop := ∃ c : Int → Int, MapI .u64 .i64 m b c ∧ ∀ n : Nat, c n = L.count n
theorem Counts.look {m : Mem} {b : Nat} {L : List Nat} (h : Counts m b L) (n : Nat) : lkE m [12] (.int .i64 0) false (.map (some b)) (.int .u64 (n : Nat)) = some (.int .i64 (L.count n : Nat), m) := by
  obtain ⟨c, h1, h2⟩ := h
  rw [h1.look, h2]
theorem Counts.add {m : Mem} {b : Nat} {L : List Nat} (h : Counts m b L) (n : Nat) : ∃ m', msE m [12] (.map (some b)) (.int .u64 (n : Nat)) (.int .i64 ((L.count n + 1 : Nat) : Int)) = some (undefE, m') ∧ Counts m' b (L ++ [n]) ∧ But1 b m m' ∧ m'.low = min m.low b := by
  obtain ⟨c, h1, h2⟩ := h
  obtain ⟨m', e1, e2, e3, e4⟩ := h1.set n ((L.count n + 1 : Nat) : Int)
  refine ⟨m', e1, ⟨_, e2, fun k => ?_⟩, e3, e4⟩
  rw [List.count_append, List.count_singleton]
  by_cases hk : k = n
  · subst hk
    simp
  · have : ¬ (k : Int) = (n : Int) := by omega
    rw [if_neg this, h2]
    have : (n == k) = false := by simpa using fun h => hk h.symm
    simp [this]
theorem Counts.grown {m M : Mem} {b : Nat} {L : List Nat} (h : Counts m b L) (hg : Grown m M) : Counts M b L := let ⟨c, h1, h2⟩ := h; ⟨c, h1.grown hg, h2⟩
theorem Counts.lt {m : Mem} {b : Nat} {L : List Nat} (h : Counts m b L) : b < m.bl.length := let ⟨c, h1, h2⟩ := h; h1.lt
theorem marks_none {f : Nat} {s : List UInt8} (h : Go.Lib.index s [61, 95] < 0) : marks f s = [] := by
  cases f with
  | zero => rfl
  | succ f => simp [marks, h]
theorem marks_some {f i : Nat} {s : List UInt8} (h : Go.Lib.index s [61, 95] = i) : marks (f + 1) s = pfx 18 0 (s.drop (i + 2)) ++ marks f (s.drop (i + 2)) := by
  have : ¬ (i : Int) < 0 := by omega
  simp [marks, h, this]
theorem allMarks_len {ll : List (List UInt8)} (hs : ∀ s ∈ ll, s.length ≤ 2000000) : (allMarks ll).length ≤ 36000000 * ll.length := by
  induction ll with
  | nil => simp [allMarks]
  | cons s ll ih =>
    have h1 := ih fun s h => hs s (List.mem_cons_of_mem _ h)
    have h2 := marks_len s.length s
    have h3 := hs s (List.mem_cons_self ..)
    simp only [allMarks, List.flatMap_cons, List.length_append, List.length_cons] at h1 ⊢
    omega
theorem allMarks_any {ll : List (List UInt8)} {n : Nat} (hn : n < 10 ^ 18) : ll.any (fun s => inB s (61 :: 95 :: dec n)) = true ↔ n ∈ allMarks ll := by
  simp only [allMarks, List.mem_flatMap, List.any_eq_true]
  exact ⟨fun ⟨s, h1, h2⟩ => ⟨s, h1, (marks_inB hn).2 h2⟩, fun ⟨s, h1, h2⟩ => ⟨s, h1, (marks_inB hn).1 h2⟩⟩
theorem c_bounce_Boundary (m : Mem) (x : EV) (ll : List (List UInt8)) (hx : ByteRows G m x ll) (hl : ll.length ≤ 2000000) (hs : ∀ s ∈ ll, s.length ≤ 2000000) (n : Nat) (h1 : n ∉ allMarks ll) (h2 : ∀ k, k < n → k ∈ allMarks ll) :
    Go.Ev.Comes T G f_bounce_Boundary [x] m none ⟨.val (.str (61 :: 95 :: dec n)), m, none⟩ := by
  refine comes2 T_bounce_Boundary rfl fun M hg hlen hlow => ?_
  have hl0 : m.bl.length ≤ M.low := by omega
  have hx := hx.grown hg
  have hL := allMarks_len hs
  have hn := holes n _ h2
  obtain ⟨a0, c0, e0, sx⟩ := hx.slice
  simp only [F_bounce_Boundary]
  simp +contextual only [vq, vc, ve, vv, vn, vl, ↓reduceIte, Nat.reduceEqDiff, Nat.reduceAdd, Nat.reduceMul, Nat.reduceSub, Nat.reduceLeDiff, Nat.reduceLT, Nat.reduceBEq, Nat.reduceBNe, reduceCtorEq, Int.reduceBEq, Int.reduceBNe, Int.reduceLT, Int.reduceLE, Int.reduceEq, Int.reduceToNat, Int.reduceAdd, Int.reduceSub, Int.reduceNeg]
  refine new_mk fun M1 e1 => ?_
  have hc0 : Counts M1 M.bl.length [] := ⟨_, MapI.new e1, fun n => by simp⟩
  have hg0 : Grown M M1 := by rw [e1]; exact Grown.rfl'.push
  have lo0 : m.bl.length ≤ M1.low := by rw [e1]; exact hl0
  have lx : lnbE x = some (.int .i64 ll.length) := by rw [sx]; rfl
  simp +contextual only [vq, vc, ve, vv, vn, vl, ↓reduceIte, Nat.reduceEqDiff, Nat.reduceAdd, Nat.reduceMul, Nat.reduceSub, Nat.reduceLeDiff, Nat.reduceLT, Nat.reduceBEq, Nat.reduceBNe, reduceCtorEq, Int.reduceBEq, Int.reduceBNe, Int.reduceLT, Int.reduceLE, Int.reduceEq, Int.reduceToNat, Int.reduceAdd, Int.reduceSub, Int.reduceNeg, lx]
  refine loop2 (fun q st => ∃ (i : Nat) (A : Fr) (N : Mem), st = ⟨A, N, [], none⟩ ∧ q = ll.length - i ∧ i ≤ ll.length ∧ A 3 = .map (some M.bl.length) ∧ A 13 = x ∧ A 14 = .int .i64 ll.length ∧ A 15 = .int .i64 (i : Nat) ∧ Grown M N ∧ m.bl.length ≤ N.low ∧ Counts N M.bl.length (allMarks (ll.take i))) ll.length ⟨0, _, M1, rfl, by omega, by omega, by simp +contextual only [vq, vc, ve, vv, vn, vl, ↓reduceIte, Nat.reduceEqDiff, Nat.reduceAdd, Nat.reduceMul, Nat.reduceSub, Nat.reduceLeDiff, Nat.reduceLT, Nat.reduceBEq, Nat.reduceBNe, reduceCtorEq, Int.reduceBEq, Int.reduceBNe, Int.reduceLT, Int.reduceLE, Int.reduceEq, Int.reduceToNat, Int.reduceAdd, Int.reduceSub, Int.reduceNeg], by simp +contextual only [vq, vc, ve, vv, vn, vl, ↓reduceIte, Nat.reduceEqDiff, Nat.reduceAdd, Nat.reduceMul, Nat.reduceSub, Nat.reduceLeDiff, Nat.reduceLT, Nat.reduceBEq, Nat.reduceBNe, reduceCtorEq, Int.reduceBEq, Int.reduceBNe, Int.reduceLT, Int.reduceLE, Int.reduceEq, Int.reduceToNat, Int.reduceAdd, Int.reduceSub, Int.reduceNeg], by simp +contextual only [vq, vc, ve, vv, vn, vl, ↓reduceIte, Nat.reduceEqDiff, Nat.reduceAdd, Nat.reduceMul, Nat.reduceSub, Nat.reduceLeDiff, Nat.reduceLT, Nat.reduceBEq, Nat.reduceBNe, reduceCtorEq, Int.reduceBEq, Int.reduceBNe, Int.reduceLT, Int.reduceLE, Int.reduceEq, Int.reduceToNat, Int.reduceAdd, Int.reduceSub, Int.reduceNeg], by simp +contextual only [vq, vc, ve, vv, vn, vl, ↓reduceIte, Nat.reduceEqDiff, Nat.reduceAdd, Nat.reduceMul, Nat.reduceSub, Nat.reduceLeDiff, Nat.reduceLT, Nat.reduceBEq, Nat.reduceBNe, reduceCtorEq, Int.reduceBEq, Int.reduceBNe, Int.reduceLT, Int.reduceLE, Int.reduceEq, Int.reduceToNat, Int.reduceAdd, Int.reduceSub, Int.reduceNeg]; rfl, hg0, lo0, by simpa [allMarks] using hc0⟩ fun J hJ q st hI => ?_
  obtain ⟨i, A, N, rfl, rfl, hi, A3, A13, A14, A15, hgN, hlN, hcN⟩ := hI
  by_cases hlt : i < ll.length
  · obtain ⟨a, cap, y, e, hy1, hy2, hy⟩ := hx.at hlt
    have hsi := hs _ (List.getElem_mem hlt)
    have hy1 := get_grown hgN hy1
    rw [e] at A13
    have hms : (allMarks (ll.take i) ++ marks ll[i].length ll[i]) = allMarks (ll.take (i + 1)) := by
      rw [List.take_succ_eq_append_getElem hlt]
      simp only [allMarks, List.flatMap_append, List.flatMap_cons, List.flatMap_nil, List.append_nil]
    simp +contextual only [vq, vc, ve, vv, vn, vl, ↓reduceIte, Nat.reduceEqDiff, Nat.reduceAdd, Nat.reduceMul, Nat.reduceSub, Nat.reduceLeDiff, Nat.reduceLT, Nat.reduceBEq, Nat.reduceBNe, reduceCtorEq, Int.reduceBEq, Int.reduceBNe, Int.reduceLT, Int.reduceLE, Int.reduceEq, Int.reduceToNat, Int.reduceAdd, Int.reduceSub, Int.reduceNeg, A13, A14, A15, hlt, hy1]
    refine loop2 (fun q st => ∃ (s : List UInt8) (y : EV) (L : List Nat) (B : Fr) (K : Mem), st = ⟨B, K, [], none⟩ ∧ s.length ≤ q ∧ s.length ≤ 2000000 ∧ B 3 = .map (some M.bl.length) ∧ B 5 = y ∧ B 13 = x ∧ B 14 = .int .i64 ll.length ∧ B 15 = .int .i64 (i : Nat) ∧ BytesAt G M y s ∧ L ++ marks q s = allMarks (ll.take (i + 1)) ∧ Grown M K ∧ m.bl.length ≤ K.low ∧ Counts K M.bl.length L) ll[i].length ⟨ll[i], y, allMarks (ll.take i), _, N, rfl, by omega, hsi, by simp +contextual only [vq, vc, ve, vv, vn, vl, ↓reduceIte, Nat.reduceEqDiff, Nat.reduceAdd, Nat.reduceMul, Nat.reduceSub, Nat.reduceLeDiff, Nat.reduceLT, Nat.reduceBEq, Nat.reduceBNe, reduceCtorEq, Int.reduceBEq, Int.reduceBNe, Int.reduceLT, Int.reduceLE, Int.reduceEq, Int.reduceToNat, Int.reduceAdd, Int.reduceSub, Int.reduceNeg, A3], by simp +contextual only [vq, vc, ve, vv, vn, vl, ↓reduceIte, Nat.reduceEqDiff, Nat.reduceAdd, Nat.reduceMul, Nat.reduceSub, Nat.reduceLeDiff, Nat.reduceLT, Nat.reduceBEq, Nat.reduceBNe, reduceCtorEq, Int.reduceBEq, Int.reduceBNe, Int.reduceLT, Int.reduceLE, Int.reduceEq, Int.reduceToNat, Int.reduceAdd, Int.reduceSub, Int.reduceNeg], by simp +contextual only [vq, vc, ve, vv, vn, vl, ↓reduceIte, Nat.reduceEqDiff, Nat.reduceAdd, Nat.reduceMul, Nat.reduceSub, Nat.reduceLeDiff, Nat.reduceLT, Nat.reduceBEq, Nat.reduceBNe, reduceCtorEq, Int.reduceBEq, Int.reduceBNe, Int.reduceLT, Int.reduceLE, Int.reduceEq, Int.reduceToNat, Int.reduceAdd, Int.reduceSub, Int.reduceNeg, A13, e], by simp +contextual only [vq, vc, ve, vv, vn, vl, ↓reduceIte, Nat.reduceEqDiff, Nat.reduceAdd, Nat.reduceMul, Nat.reduceSub, Nat.reduceLeDiff, Nat.reduceLT, Nat.reduceBEq, Nat.reduceBNe, reduceCtorEq, Int.reduceBEq, Int.reduceBNe, Int.reduceLT, Int.reduceLE, Int.reduceEq, Int.reduceToNat, Int.reduceAdd, Int.reduceSub, Int.reduceNeg, A14], by simp +contextual only [vq, vc, ve, vv, vn, vl, ↓reduceIte, Nat.reduceEqDiff, Nat.reduceAdd, Nat.reduceMul, Nat.reduceSub, Nat.reduceLeDiff, Nat.reduceLT, Nat.reduceBEq, Nat.reduceBNe, reduceCtorEq, Int.reduceBEq, Int.reduceBNe, Int.reduceLT, Int.reduceLE, Int.reduceEq, Int.reduceToNat, Int.reduceAdd, Int.reduceSub, Int.reduceNeg, A15], hy, hms, hgN, hlN, hcN⟩ fun J2 hJ2 q st hI => ?_
    obtain ⟨s, y, L, B, K, rfl, hsq, hs2, B3, B5, B13, B14, B15, hy, hmL, hgK, hlK, hcK⟩ := hI
    simp +contextual only [vq, vc, ve, vv, vn, vl, ↓reduceIte, Nat.reduceEqDiff, Nat.reduceAdd, Nat.reduceMul, Nat.reduceSub, Nat.reduceLeDiff, Nat.reduceLT, Nat.reduceBEq, Nat.reduceBNe, reduceCtorEq, Int.reduceBEq, Int.reduceBNe, Int.reduceLT, Int.reduceLE, Int.reduceEq, Int.reduceToNat, Int.reduceAdd, Int.reduceSub, Int.reduceNeg, B5]
    refine new_mk fun K1 k1 => ?_
    have hsep : BytesAt G K1 (.slice (some ⟨.mem K.bl.length 0, 0⟩) 2 2 1) [61, 95] := bytes_new (s := [61, 95]) k1
    have hR : RowIs K1 K.bl.length (bytesE [61, 95]) := by rw [k1]; exact row_push _ _
    have hmk := mk_row (o := 0) (n := 2) (c := 2) (z := 1) hR (by omega)
    have hgK1 : Grown K K1 := by rw [k1]; exact Grown.rfl'.push
    have hlK1 : m.bl.length ≤ K1.low := by rw [k1]; exact hlK
    have hcK1 := hcK.grown hgK1
    have hgM1 := hgK.trans hgK1
    rcases c_bytes_Cut K1 y _ s [61, 95] (hy.grown hgM1) hsep (by simp) (by omega) with ⟨hneg, hcut⟩ | ⟨p, u, v, hpos, hroom, hcut, hparts⟩
    · rw [marks_none hneg, List.append_nil] at hmL
      subst hmL
      simp +contextual only [vq, vc, ve, vv, vn, vl, ↓reduceIte, Nat.reduceEqDiff, Nat.reduceAdd, Nat.reduceMul, Nat.reduceSub, Nat.reduceLeDiff, Nat.reduceLT, Nat.reduceBEq, Nat.reduceBNe, reduceCtorEq, Int.reduceBEq, Int.reduceBNe, Int.reduceLT, Int.reduceLE, Int.reduceEq, Int.reduceToNat, Int.reduceAdd, Int.reduceSub, Int.reduceNeg, hmk, B5, callR_val hcut, B15, wsucc hlt (by omega)]
      exact again2 hJ (ll.length - (i + 1)) (by omega) ⟨i + 1, _, K1, rfl, rfl, by omega, by simp +contextual only [vq, vc, ve, vv, vn, vl, ↓reduceIte, Nat.reduceEqDiff, Nat.reduceAdd, Nat.reduceMul, Nat.reduceSub, Nat.reduceLeDiff, Nat.reduceLT, Nat.reduceBEq, Nat.reduceBNe, reduceCtorEq, Int.reduceBEq, Int.reduceBNe, Int.reduceLT, Int.reduceLE, Int.reduceEq, Int.reduceToNat, Int.reduceAdd, Int.reduceSub, Int.reduceNeg, B3], by simp +contextual only [vq, vc, ve, vv, vn, vl, ↓reduceIte, Nat.reduceEqDiff, Nat.reduceAdd, Nat.reduceMul, Nat.reduceSub, Nat.reduceLeDiff, Nat.reduceLT, Nat.reduceBEq, Nat.reduceBNe, reduceCtorEq, Int.reduceBEq, Int.reduceBNe, Int.reduceLT, Int.reduceLE, Int.reduceEq, Int.reduceToNat, Int.reduceAdd, Int.reduceSub, Int.reduceNeg, B13], by simp +contextual only [vq, vc, ve, vv, vn, vl, ↓reduceIte, Nat.reduceEqDiff, Nat.reduceAdd, Nat.reduceMul, Nat.reduceSub, Nat.reduceLeDiff, Nat.reduceLT, Nat.reduceBEq, Nat.reduceBNe, reduceCtorEq, Int.reduceBEq, Int.reduceBNe, Int.reduceLT, Int.reduceLE, Int.reduceEq, Int.reduceToNat, Int.reduceAdd, Int.reduceSub, Int.reduceNeg, B14], by simp +contextual only [vq, vc, ve, vv, vn, vl, ↓reduceIte, Nat.reduceEqDiff, Nat.reduceAdd, Nat.reduceMul, Nat.reduceSub, Nat.reduceLeDiff, Nat.reduceLT, Nat.reduceBEq, Nat.reduceBNe, reduceCtorEq, Int.reduceBEq, Int.reduceBNe, Int.reduceLT, Int.reduceLE, Int.reduceEq, Int.reduceToNat, Int.reduceAdd, Int.reduceSub, Int.reduceNeg], hgM1, hlK1, hcK1⟩
    · obtain ⟨_, hv⟩ := hparts M hy
      simp only [List.length_cons, List.length_nil, Nat.zero_add, Nat.reduceAdd] at hv hroom
      obtain ⟨q, rfl⟩ : ∃ q', q = q' + 1 := ⟨q - 1, by omega⟩
      rw [marks_some hpos] at hmL
      simp +contextual only [vq, vc, ve, vv, vn, vl, ↓reduceIte, Nat.reduceEqDiff, Nat.reduceAdd, Nat.reduceMul, Nat.reduceSub, Nat.reduceLeDiff, Nat.reduceLT, Nat.reduceBEq, Nat.reduceBNe, reduceCtorEq, Int.reduceBEq, Int.reduceBNe, Int.reduceLT, Int.reduceLE, Int.reduceEq, Int.reduceToNat, Int.reduceAdd, Int.reduceSub, Int.reduceNeg, hmk, B5, callR_val hcut]
      have hrl : (s.drop (p + 2)).length = s.length - (p + 2) := by simp
      generalize hr : s.drop (p + 2) = r at hv hmL hrl
      obtain ⟨av, cv, ev, sv⟩ := hv.slice
      have lv : lnbE v = some (.int .i64 r.length) := by rw [sv]; rfl
      refine loop2 (fun z st => ∃ (j a : Nat) (L : List Nat) (C : Fr) (K : Mem), st = ⟨C, K, [], none⟩ ∧ z = 18 - j ∧ j ≤ 18 ∧ j ≤ r.length ∧ a < 10 ^ j ∧ C 3 = .map (some M.bl.length) ∧ C 5 = v ∧ C 7 = v ∧ C 9 = .int .u64 (a : Nat) ∧ C 10 = .int .i64 (j : Nat) ∧ C 13 = x ∧ C 14 = .int .i64 ll.length ∧ C 15 = .int .i64 (i : Nat) ∧ L ++ (pfx (18 - j) a (r.drop j) ++ marks q r) = allMarks (ll.take (i + 1)) ∧ Grown M K ∧ m.bl.length ≤ K.low ∧ Counts K M.bl.length L) 18 ⟨0, 0, L, _, K1, rfl, by omega, by omega, by omega, by omega, by simp +contextual only [vq, vc, ve, vv, vn, vl, ↓reduceIte, Nat.reduceEqDiff, Nat.reduceAdd, Nat.reduceMul, Nat.reduceSub, Nat.reduceLeDiff, Nat.reduceLT, Nat.reduceBEq, Nat.reduceBNe, reduceCtorEq, Int.reduceBEq, Int.reduceBNe, Int.reduceLT, Int.reduceLE, Int.reduceEq, Int.reduceToNat, Int.reduceAdd, Int.reduceSub, Int.reduceNeg, B3], by simp +contextual only [vq, vc, ve, vv, vn, vl, ↓reduceIte, Nat.reduceEqDiff, Nat.reduceAdd, Nat.reduceMul, Nat.reduceSub, Nat.reduceLeDiff, Nat.reduceLT, Nat.reduceBEq, Nat.reduceBNe, reduceCtorEq, Int.reduceBEq, Int.reduceBNe, Int.reduceLT, Int.reduceLE, Int.reduceEq, Int.reduceToNat, Int.reduceAdd, Int.reduceSub, Int.reduceNeg], by simp +contextual only [vq, vc, ve, vv, vn, vl, ↓reduceIte, Nat.reduceEqDiff, Nat.reduceAdd, Nat.reduceMul, Nat.reduceSub, Nat.reduceLeDiff, Nat.reduceLT, Nat.reduceBEq, Nat.reduceBNe, reduceCtorEq, Int.reduceBEq, Int.reduceBNe, Int.reduceLT, Int.reduceLE, Int.reduceEq, Int.reduceToNat, Int.reduceAdd, Int.reduceSub, Int.reduceNeg], by simp +contextual only [vq, vc, ve, vv, vn, vl, ↓reduceIte, Nat.reduceEqDiff, Nat.reduceAdd, Nat.reduceMul, Nat.reduceSub, Nat.reduceLeDiff, Nat.reduceLT, Nat.reduceBEq, Nat.reduceBNe, reduceCtorEq, Int.reduceBEq, Int.reduceBNe, Int.reduceLT, Int.reduceLE, Int.reduceEq, Int.reduceToNat, Int.reduceAdd, Int.reduceSub, Int.reduceNeg]; rfl, by simp +contextual only [vq, vc, ve, vv, vn, vl, ↓reduceIte, Nat.reduceEqDiff, Nat.reduceAdd, Nat.reduceMul, Nat.reduceSub, Nat.reduceLeDiff, Nat.reduceLT, Nat.reduceBEq, Nat.reduceBNe, reduceCtorEq, Int.reduceBEq, Int.reduceBNe, Int.reduceLT, Int.reduceLE, Int.reduceEq, Int.reduceToNat, Int.reduceAdd, Int.reduceSub, Int.reduceNeg]; rfl, by simp +contextual only [vq, vc, ve, vv, vn, vl, ↓reduceIte, Nat.reduceEqDiff, Nat.reduceAdd, Nat.reduceMul, Nat.reduceSub, Nat.reduceLeDiff, Nat.reduceLT, Nat.reduceBEq, Nat.reduceBNe, reduceCtorEq, Int.reduceBEq, Int.reduceBNe, Int.reduceLT, Int.reduceLE, Int.reduceEq, Int.reduceToNat, Int.reduceAdd, Int.reduceSub, Int.reduceNeg, B13], by simp +contextual only [vq, vc, ve, vv, vn, vl, ↓reduceIte, Nat.reduceEqDiff, Nat.reduceAdd, Nat.reduceMul, Nat.reduceSub, Nat.reduceLeDiff, Nat.reduceLT, Nat.reduceBEq, Nat.reduceBNe, reduceCtorEq, Int.reduceBEq, Int.reduceBNe, Int.reduceLT, Int.reduceLE, Int.reduceEq, Int.reduceToNat, Int.reduceAdd, Int.reduceSub, Int.reduceNeg, B14], by simp +contextual only [vq, vc, ve, vv, vn, vl, ↓reduceIte, Nat.reduceEqDiff, Nat.reduceAdd, Nat.reduceMul, Nat.reduceSub, Nat.reduceLeDiff, Nat.reduceLT, Nat.reduceBEq, Nat.reduceBNe, reduceCtorEq, Int.reduceBEq, Int.reduceBNe, Int.reduceLT, Int.reduceLE, Int.reduceEq, Int.reduceToNat, Int.reduceAdd, Int.reduceSub, Int.reduceNeg, B15], by simpa using hmL, hgM1, hlK1, hcK1⟩ fun J3 hJ3 z st hI => ?_
      obtain ⟨j, a, L, C, K, rfl, rfl, hj18, hjr, haj, C3, C5, C7, C9, C10, C13, C14, C15, hmL, hgK, hlK, hcK⟩ := hI
      have cntK : ∀ k, L.count k ≤ 100000000000000 := fun k => by
        have h1 := List.count_le_length (a := k) (l := L)
        have h2 := congrArg List.length hmL
        have h3 := allMarks_len (ll := ll.take (i + 1)) fun s h => hs s (List.mem_of_mem_take h)
        simp only [List.length_append, List.length_take] at h2 h3
        omega
      have leave : ∀ (L : List Nat) (K : Mem) (C : Fr) (Q : Post), L ++ marks q r = allMarks (ll.take (i + 1)) → Grown M K → m.bl.length ≤ K.low → Counts K M.bl.length L → C 3 = .map (some M.bl.length) → C 5 = v → C 13 = x → C 14 = .int .i64 ll.length → C 15 = .int .i64 (i : Nat) → againE J2 (q + 1) Q .normal ⟨C, K, [], none⟩ := fun L K C Q hm g l h C3 C5 C13 C14 C15 => again2 hJ2 q (by omega) ⟨r, v, L, C, K, rfl, by omega, by omega, C3, C5, C13, C14, C15, hv, hm, g, l, h⟩
      have e18 : ((j : Int) < 18) = (j < 18) := propext (by omega)
      by_cases hjl : j < r.length
      · by_cases hj : j < 18
        · obtain ⟨ah, caph, eh, _, _, _, hb⟩ := (hv.grown hgK).pos (by rintro rfl; simp at hjl)
          rw [eh] at C7
          have hb := hb j hjl
          have hcI := c_octet_Is K 2 r[j].toNat
          rw [isF_digit] at hcI
          have hdrop : r.drop j = r[j] :: r.drop (j + 1) := List.drop_eq_getElem_cons hjl
          obtain ⟨z, hz⟩ : ∃ z, 18 - j = z + 1 := ⟨17 - j, by omega⟩
          cases hd : isDg r[j] with
          | false =>
            rw [hd] at hcI
            have hm0 : pfx (18 - j) a (r.drop j) = [] := by rw [hdrop, hz]; simp [pfx, hd]
            rw [hm0, List.nil_append] at hmL
            simp +contextual only [vq, vc, ve, vv, vn, vl, ↓reduceIte, Nat.reduceEqDiff, Nat.reduceAdd, Nat.reduceMul, Nat.reduceSub, Nat.reduceLeDiff, Nat.reduceLT, Nat.reduceBEq, Nat.reduceBNe, reduceCtorEq, Int.reduceBEq, Int.reduceBNe, Int.reduceLT, Int.reduceLE, Int.reduceEq, Int.reduceToNat, Int.reduceAdd, Int.reduceSub, Int.reduceNeg, C7, C10, hjl, hj, e18, hb, callR_val hcI]
            exact leave L K _ _ hmL hgK hlK hcK (by simp +contextual only [vq, vc, ve, vv, vn, vl, ↓reduceIte, Nat.reduceEqDiff, Nat.reduceAdd, Nat.reduceMul, Nat.reduceSub, Nat.reduceLeDiff, Nat.reduceLT, Nat.reduceBEq, Nat.reduceBNe, reduceCtorEq, Int.reduceBEq, Int.reduceBNe, Int.reduceLT, Int.reduceLE, Int.reduceEq, Int.reduceToNat, Int.reduceAdd, Int.reduceSub, Int.reduceNeg, C3]) (by simp +contextual only [vq, vc, ve, vv, vn, vl, ↓reduceIte, Nat.reduceEqDiff, Nat.reduceAdd, Nat.reduceMul, Nat.reduceSub, Nat.reduceLeDiff, Nat.reduceLT, Nat.reduceBEq, Nat.reduceBNe, reduceCtorEq, Int.reduceBEq, Int.reduceBNe, Int.reduceLT, Int.reduceLE, Int.reduceEq, Int.reduceToNat, Int.reduceAdd, Int.reduceSub, Int.reduceNeg, C5]) (by simp +contextual only [vq, vc, ve, vv, vn, vl, ↓reduceIte, Nat.reduceEqDiff, Nat.reduceAdd, Nat.reduceMul, Nat.reduceSub, Nat.reduceLeDiff, Nat.reduceLT, Nat.reduceBEq, Nat.reduceBNe, reduceCtorEq, Int.reduceBEq, Int.reduceBNe, Int.reduceLT, Int.reduceLE, Int.reduceEq, Int.reduceToNat, Int.reduceAdd, Int.reduceSub, Int.reduceNeg, C13]) (by simp +contextual only [vq, vc, ve, vv, vn, vl, ↓reduceIte, Nat.reduceEqDiff, Nat.reduceAdd, Nat.reduceMul, Nat.reduceSub, Nat.reduceLeDiff, Nat.reduceLT, Nat.reduceBEq, Nat.reduceBNe, reduceCtorEq, Int.reduceBEq, Int.reduceBNe, Int.reduceLT, Int.reduceLE, Int.reduceEq, Int.reduceToNat, Int.reduceAdd, Int.reduceSub, Int.reduceNeg, C14]) (by simp +contextual only [vq, vc, ve, vv, vn, vl, ↓reduceIte, Nat.reduceEqDiff, Nat.reduceAdd, Nat.reduceMul, Nat.reduceSub, Nat.reduceLeDiff, Nat.reduceLT, Nat.reduceBEq, Nat.reduceBNe, reduceCtorEq, Int.reduceBEq, Int.reduceBNe, Int.reduceLT, Int.reduceLE, Int.reduceEq, Int.reduceToNat, Int.reduceAdd, Int.reduceSub, Int.reduceNeg, C15])
          | true =>
            rw [hd] at hcI
            have hpow : 10 ^ (j + 1) ≤ 10 ^ 18 := Nat.pow_le_pow_right (by omega) (by omega)
            rw [Nat.pow_succ] at hpow
            have hdg := hd
            simp [isDg] at hdg
            have hbl := r[j].toNat_lt
            have w1 : IntKind.u64.wrap (IntKind.u64.wrap (10 * (a : Int)) + IntKind.u64.wrap (IntKind.u8.wrap ((r[j].toNat : Int) - 48))) = ((10 * a + (r[j].toNat - 48) : Nat) : Int) := by
              rw [wrap8 (by omega) (by omega), wrapu64 (z := 10 * (a : Int)) (by omega) (by omega), wrapu64 (z := (r[j].toNat : Int) - 48) (by omega) (by omega), wrapu64 (by omega) (by omega)]
              omega
            have hnx : pfx (18 - j) a (r.drop j) = (10 * a + (r[j].toNat - 48)) :: (if 10 * a + (r[j].toNat - 48) = 0 then [] else pfx (18 - (j + 1)) (10 * a + (r[j].toNat - 48)) (r.drop (j + 1))) := by
              rw [hdrop, hz, show 18 - (j + 1) = z by omega]; simp [pfx, hd]
            rw [hnx] at hmL
            have ha' : 10 * a + (r[j].toNat - 48) < 10 ^ (j + 1) := by rw [Nat.pow_succ]; omega
            generalize 10 * a + (r[j].toNat - 48) = a' at w1 hmL ha'
            have w2 : IntKind.i64.wrap ((L.count a' : Nat) + 1 : Int) = ((L.count a' + 1 : Nat) : Int) := wsucc (n := L.count a' + 1) (by omega) (by have := cntK a'; omega)
            obtain ⟨K2, s1, s2, s3, s4⟩ := hcK.add a'
            have gK2 : Grown M K2 := (Stays.but s3 (Nat.le_refl _) (fun h => by omega)).grown hgK (Nat.le_refl _)
            have lK2 : m.bl.length ≤ K2.low := by omega
            by_cases h0 : a' = 0
            · rw [if_pos h0, ← List.append_assoc] at hmL
              have z0 : (a' == 0) = true := by simpa using h0
              simp +contextual only [vq, vc, ve, vv, vn, vl, ↓reduceIte, Nat.reduceEqDiff, Nat.reduceAdd, Nat.reduceMul, Nat.reduceSub, Nat.reduceLeDiff, Nat.reduceLT, Nat.reduceBEq, Nat.reduceBNe, reduceCtorEq, Int.reduceBEq, Int.reduceBNe, Int.reduceLT, Int.reduceLE, Int.reduceEq, Int.reduceToNat, Int.reduceAdd, Int.reduceSub, Int.reduceNeg, C3, C7, C9, C10, hjl, hj, e18, hb, callR_val hcI, w1, hcK.look a', w2, s1, z0]
              exact leave _ K2 _ _ hmL gK2 lK2 s2 (by simp +contextual only [vq, vc, ve, vv, vn, vl, ↓reduceIte, Nat.reduceEqDiff, Nat.reduceAdd, Nat.reduceMul, Nat.reduceSub, Nat.reduceLeDiff, Nat.reduceLT, Nat.reduceBEq, Nat.reduceBNe, reduceCtorEq, Int.reduceBEq, Int.reduceBNe, Int.reduceLT, Int.reduceLE, Int.reduceEq, Int.reduceToNat, Int.reduceAdd, Int.reduceSub, Int.reduceNeg, C3]) (by simp +contextual only [vq, vc, ve, vv, vn, vl, ↓reduceIte, Nat.reduceEqDiff, Nat.reduceAdd, Nat.reduceMul, Nat.reduceSub, Nat.reduceLeDiff, Nat.reduceLT, Nat.reduceBEq, Nat.reduceBNe, reduceCtorEq, Int.reduceBEq, Int.reduceBNe, Int.reduceLT, Int.reduceLE, Int.reduceEq, Int.reduceToNat, Int.reduceAdd, Int.reduceSub, Int.reduceNeg, C5]) (by simp +contextual only [vq, vc, ve, vv, vn, vl, ↓reduceIte, Nat.reduceEqDiff, Nat.reduceAdd, Nat.reduceMul, Nat.reduceSub, Nat.reduceLeDiff, Nat.reduceLT, Nat.reduceBEq, Nat.reduceBNe, reduceCtorEq, Int.reduceBEq, Int.reduceBNe, Int.reduceLT, Int.reduceLE, Int.reduceEq, Int.reduceToNat, Int.reduceAdd, Int.reduceSub, Int.reduceNeg, C13]) (by simp +contextual only [vq, vc, ve, vv, vn, vl, ↓reduceIte, Nat.reduceEqDiff, Nat.reduceAdd, Nat.reduceMul, Nat.reduceSub, Nat.reduceLeDiff, Nat.reduceLT, Nat.reduceBEq, Nat.reduceBNe, reduceCtorEq, Int.reduceBEq, Int.reduceBNe, Int.reduceLT, Int.reduceLE, Int.reduceEq, Int.reduceToNat, Int.reduceAdd, Int.reduceSub, Int.reduceNeg, C14]) (by simp +contextual only [vq, vc, ve, vv, vn, vl, ↓reduceIte, Nat.reduceEqDiff, Nat.reduceAdd, Nat.reduceMul, Nat.reduceSub, Nat.reduceLeDiff, Nat.reduceLT, Nat.reduceBEq, Nat.reduceBNe, reduceCtorEq, Int.reduceBEq, Int.reduceBNe, Int.reduceLT, Int.reduceLE, Int.reduceEq, Int.reduceToNat, Int.reduceAdd, Int.reduceSub, Int.reduceNeg, C15])
            · rw [if_neg h0, List.cons_append, List.append_cons] at hmL
              have z0 : (a' == 0) = false := by simpa using h0
              simp +contextual only [vq, vc, ve, vv, vn, vl, ↓reduceIte, Nat.reduceEqDiff, Nat.reduceAdd, Nat.reduceMul, Nat.reduceSub, Nat.reduceLeDiff, Nat.reduceLT, Nat.reduceBEq, Nat.reduceBNe, reduceCtorEq, Int.reduceBEq, Int.reduceBNe, Int.reduceLT, Int.reduceLE, Int.reduceEq, Int.reduceToNat, Int.reduceAdd, Int.reduceSub, Int.reduceNeg, C3, C7, C9, C10, hjl, hj, e18, hb, callR_val hcI, w1, hcK.look a', w2, s1, z0, wsucc hjl (by omega)]
              exact again2 hJ3 (18 - (j + 1)) (by omega) ⟨j + 1, a', L ++ [a'], _, K2, rfl, rfl, by omega, by omega, ha', by simp +contextual only [vq, vc, ve, vv, vn, vl, ↓reduceIte, Nat.reduceEqDiff, Nat.reduceAdd, Nat.reduceMul, Nat.reduceSub, Nat.reduceLeDiff, Nat.reduceLT, Nat.reduceBEq, Nat.reduceBNe, reduceCtorEq, Int.reduceBEq, Int.reduceBNe, Int.reduceLT, Int.reduceLE, Int.reduceEq, Int.reduceToNat, Int.reduceAdd, Int.reduceSub, Int.reduceNeg, C3], by simp +contextual only [vq, vc, ve, vv, vn, vl, ↓reduceIte, Nat.reduceEqDiff, Nat.reduceAdd, Nat.reduceMul, Nat.reduceSub, Nat.reduceLeDiff, Nat.reduceLT, Nat.reduceBEq, Nat.reduceBNe, reduceCtorEq, Int.reduceBEq, Int.reduceBNe, Int.reduceLT, Int.reduceLE, Int.reduceEq, Int.reduceToNat, Int.reduceAdd, Int.reduceSub, Int.reduceNeg, C5], by simp +contextual only [vq, vc, ve, vv, vn, vl, ↓reduceIte, Nat.reduceEqDiff, Nat.reduceAdd, Nat.reduceMul, Nat.reduceSub, Nat.reduceLeDiff, Nat.reduceLT, Nat.reduceBEq, Nat.reduceBNe, reduceCtorEq, Int.reduceBEq, Int.reduceBNe, Int.reduceLT, Int.reduceLE, Int.reduceEq, Int.reduceToNat, Int.reduceAdd, Int.reduceSub, Int.reduceNeg, C7, eh], by simp +contextual only [vq, vc, ve, vv, vn, vl, ↓reduceIte, Nat.reduceEqDiff, Nat.reduceAdd, Nat.reduceMul, Nat.reduceSub, Nat.reduceLeDiff, Nat.reduceLT, Nat.reduceBEq, Nat.reduceBNe, reduceCtorEq, Int.reduceBEq, Int.reduceBNe, Int.reduceLT, Int.reduceLE, Int.reduceEq, Int.reduceToNat, Int.reduceAdd, Int.reduceSub, Int.reduceNeg], by simp +contextual only [vq, vc, ve, vv, vn, vl, ↓reduceIte, Nat.reduceEqDiff, Nat.reduceAdd, Nat.reduceMul, Nat.reduceSub, Nat.reduceLeDiff, Nat.reduceLT, Nat.reduceBEq, Nat.reduceBNe, reduceCtorEq, Int.reduceBEq, Int.reduceBNe, Int.reduceLT, Int.reduceLE, Int.reduceEq, Int.reduceToNat, Int.reduceAdd, Int.reduceSub, Int.reduceNeg], by simp +contextual only [vq, vc, ve, vv, vn, vl, ↓reduceIte, Nat.reduceEqDiff, Nat.reduceAdd, Nat.reduceMul, Nat.reduceSub, Nat.reduceLeDiff, Nat.reduceLT, Nat.reduceBEq, Nat.reduceBNe, reduceCtorEq, Int.reduceBEq, Int.reduceBNe, Int.reduceLT, Int.reduceLE, Int.reduceEq, Int.reduceToNat, Int.reduceAdd, Int.reduceSub, Int.reduceNeg, C13], by simp +contextual only [vq, vc, ve, vv, vn, vl, ↓reduceIte, Nat.reduceEqDiff, Nat.reduceAdd, Nat.reduceMul, Nat.reduceSub, Nat.reduceLeDiff, Nat.reduceLT, Nat.reduceBEq, Nat.reduceBNe, reduceCtorEq, Int.reduceBEq, Int.reduceBNe, Int.reduceLT, Int.reduceLE, Int.reduceEq, Int.reduceToNat, Int.reduceAdd, Int.reduceSub, Int.reduceNeg, C14], by simp +contextual only [vq, vc, ve, vv, vn, vl, ↓reduceIte, Nat.reduceEqDiff, Nat.reduceAdd, Nat.reduceMul, Nat.reduceSub, Nat.reduceLeDiff, Nat.reduceLT, Nat.reduceBEq, Nat.reduceBNe, reduceCtorEq, Int.reduceBEq, Int.reduceBNe, Int.reduceLT, Int.reduceLE, Int.reduceEq, Int.reduceToNat, Int.reduceAdd, Int.reduceSub, Int.reduceNeg, C15], hmL, gK2, lK2, s2⟩
        · have hm0 : pfx (18 - j) a (r.drop j) = [] := by rw [show 18 - j = 0 by omega]; rfl
          rw [hm0, List.nil_append] at hmL
          simp +contextual only [vq, vc, ve, vv, vn, vl, ↓reduceIte, Nat.reduceEqDiff, Nat.reduceAdd, Nat.reduceMul, Nat.reduceSub, Nat.reduceLeDiff, Nat.reduceLT, Nat.reduceBEq, Nat.reduceBNe, reduceCtorEq, Int.reduceBEq, Int.reduceBNe, Int.reduceLT, Int.reduceLE, Int.reduceEq, Int.reduceToNat, Int.reduceAdd, Int.reduceSub, Int.reduceNeg, C7, C10, hjl, hj, e18, lv]
          exact leave L K _ _ hmL hgK hlK hcK (by simp +contextual only [vq, vc, ve, vv, vn, vl, ↓reduceIte, Nat.reduceEqDiff, Nat.reduceAdd, Nat.reduceMul, Nat.reduceSub, Nat.reduceLeDiff, Nat.reduceLT, Nat.reduceBEq, Nat.reduceBNe, reduceCtorEq, Int.reduceBEq, Int.reduceBNe, Int.reduceLT, Int.reduceLE, Int.reduceEq, Int.reduceToNat, Int.reduceAdd, Int.reduceSub, Int.reduceNeg, C3]) (by simp +contextual only [vq, vc, ve, vv, vn, vl, ↓reduceIte, Nat.reduceEqDiff, Nat.reduceAdd, Nat.reduceMul, Nat.reduceSub, Nat.reduceLeDiff, Nat.reduceLT, Nat.reduceBEq, Nat.reduceBNe, reduceCtorEq, Int.reduceBEq, Int.reduceBNe, Int.reduceLT, Int.reduceLE, Int.reduceEq, Int.reduceToNat, Int.reduceAdd, Int.reduceSub, Int.reduceNeg, C5]) (by simp +contextual only [vq, vc, ve, vv, vn, vl, ↓reduceIte, Nat.reduceEqDiff, Nat.reduceAdd, Nat.reduceMul, Nat.reduceSub, Nat.reduceLeDiff, Nat.reduceLT, Nat.reduceBEq, Nat.reduceBNe, reduceCtorEq, Int.reduceBEq, Int.reduceBNe, Int.reduceLT, Int.reduceLE, Int.reduceEq, Int.reduceToNat, Int.reduceAdd, Int.reduceSub, Int.reduceNeg, C13]) (by simp +contextual only [vq, vc, ve, vv, vn, vl, ↓reduceIte, Nat.reduceEqDiff, Nat.reduceAdd, Nat.reduceMul, Nat.reduceSub, Nat.reduceLeDiff, Nat.reduceLT, Nat.reduceBEq, Nat.reduceBNe, reduceCtorEq, Int.reduceBEq, Int.reduceBNe, Int.reduceLT, Int.reduceLE, Int.reduceEq, Int.reduceToNat, Int.reduceAdd, Int.reduceSub, Int.reduceNeg, C14]) (by simp +contextual only [vq, vc, ve, vv, vn, vl, ↓reduceIte, Nat.reduceEqDiff, Nat.reduceAdd, Nat.reduceMul, Nat.reduceSub, Nat.reduceLeDiff, Nat.reduceLT, Nat.reduceBEq, Nat.reduceBNe, reduceCtorEq, Int.reduceBEq, Int.reduceBNe, Int.reduceLT, Int.reduceLE, Int.reduceEq, Int.reduceToNat, Int.reduceAdd, Int.reduceSub, Int.reduceNeg, C15])
      · have hm0 : pfx (18 - j) a (r.drop j) = [] := by
          rw [List.drop_eq_nil_of_le (by omega)]
          cases 18 - j <;> rfl
        rw [hm0, List.nil_append] at hmL
        simp +contextual only [vq, vc, ve, vv, vn, vl, ↓reduceIte, Nat.reduceEqDiff, Nat.reduceAdd, Nat.reduceMul, Nat.reduceSub, Nat.reduceLeDiff, Nat.reduceLT, Nat.reduceBEq, Nat.reduceBNe, reduceCtorEq, Int.reduceBEq, Int.reduceBNe, Int.reduceLT, Int.reduceLE, Int.reduceEq, Int.reduceToNat, Int.reduceAdd, Int.reduceSub, Int.reduceNeg, C7, C10, hjl, lv]
        exact leave L K _ _ hmL hgK hlK hcK (by simp +contextual only [vq, vc, ve, vv, vn, vl, ↓reduceIte, Nat.reduceEqDiff, Nat.reduceAdd, Nat.reduceMul, Nat.reduceSub, Nat.reduceLeDiff, Nat.reduceLT, Nat.reduceBEq, Nat.reduceBNe, reduceCtorEq, Int.reduceBEq, Int.reduceBNe, Int.reduceLT, Int.reduceLE, Int.reduceEq, Int.reduceToNat, Int.reduceAdd, Int.reduceSub, Int.reduceNeg, C3]) (by simp +contextual only [vq, vc, ve, vv, vn, vl, ↓reduceIte, Nat.reduceEqDiff, Nat.reduceAdd, Nat.reduceMul, Nat.reduceSub, Nat.reduceLeDiff, Nat.reduceLT, Nat.reduceBEq, Nat.reduceBNe, reduceCtorEq, Int.reduceBEq, Int.reduceBNe, Int.reduceLT, Int.reduceLE, Int.reduceEq, Int.reduceToNat, Int.reduceAdd, Int.reduceSub, Int.reduceNeg, C5]) (by simp +contextual only [vq, vc, ve, vv, vn, vl, ↓reduceIte, Nat.reduceEqDiff, Nat.reduceAdd, Nat.reduceMul, Nat.reduceSub, Nat.reduceLeDiff, Nat.reduceLT, Nat.reduceBEq, Nat.reduceBNe, reduceCtorEq, Int.reduceBEq, Int.reduceBNe, Int.reduceLT, Int.reduceLE, Int.reduceEq, Int.reduceToNat, Int.reduceAdd, Int.reduceSub, Int.reduceNeg, C13]) (by simp +contextual only [vq, vc, ve, vv, vn, vl, ↓reduceIte, Nat.reduceEqDiff, Nat.reduceAdd, Nat.reduceMul, Nat.reduceSub, Nat.reduceLeDiff, Nat.reduceLT, Nat.reduceBEq, Nat.reduceBNe, reduceCtorEq, Int.reduceBEq, Int.reduceBNe, Int.reduceLT, Int.reduceLE, Int.reduceEq, Int.reduceToNat, Int.reduceAdd, Int.reduceSub, Int.reduceNeg, C14]) (by simp +contextual only [vq, vc, ve, vv, vn, vl, ↓reduceIte, Nat.reduceEqDiff, Nat.reduceAdd, Nat.reduceMul, Nat.reduceSub, Nat.reduceLeDiff, Nat.reduceLT, Nat.reduceBEq, Nat.reduceBNe, reduceCtorEq, Int.reduceBEq, Int.reduceBNe, Int.reduceLT, Int.reduceLE, Int.reduceEq, Int.reduceToNat, Int.reduceAdd, Int.reduceSub, Int.reduceNeg, C15])
  · have : i = ll.length := by omega
    subst this
    rw [List.take_length] at hcN
    simp +contextual only [vq, vc, ve, vv, vn, vl, ↓reduceIte, Nat.reduceEqDiff, Nat.reduceAdd, Nat.reduceMul, Nat.reduceSub, Nat.reduceLeDiff, Nat.reduceLT, Nat.reduceBEq, Nat.reduceBNe, reduceCtorEq, Int.reduceBEq, Int.reduceBNe, Int.reduceLT, Int.reduceLE, Int.reduceEq, Int.reduceToNat, Int.reduceAdd, Int.reduceSub, Int.reduceNeg, A13, A14, A15, hlt]
    refine loop2 (fun z st => ∃ (k : Nat) (B : Fr), st = ⟨B, N, [], none⟩ ∧ z = n - k ∧ k ≤ n ∧ B 3 = .map (some M.bl.length) ∧ B 11 = .int .u64 (k : Nat)) n ⟨0, _, rfl, by omega, by omega, by simp +contextual only [vq, vc, ve, vv, vn, vl, ↓reduceIte, Nat.reduceEqDiff, Nat.reduceAdd, Nat.reduceMul, Nat.reduceSub, Nat.reduceLeDiff, Nat.reduceLT, Nat.reduceBEq, Nat.reduceBNe, reduceCtorEq, Int.reduceBEq, Int.reduceBNe, Int.reduceLT, Int.reduceLE, Int.reduceEq, Int.reduceToNat, Int.reduceAdd, Int.reduceSub, Int.reduceNeg, A3], by simp +contextual only [vq, vc, ve, vv, vn, vl, ↓reduceIte, Nat.reduceEqDiff, Nat.reduceAdd, Nat.reduceMul, Nat.reduceSub, Nat.reduceLeDiff, Nat.reduceLT, Nat.reduceBEq, Nat.reduceBNe, reduceCtorEq, Int.reduceBEq, Int.reduceBNe, Int.reduceLT, Int.reduceLE, Int.reduceEq, Int.reduceToNat, Int.reduceAdd, Int.reduceSub, Int.reduceNeg]; rfl⟩ fun J2 hJ2 z st hI => ?_
    obtain ⟨k, B, rfl, rfl, hk, B3, B11⟩ := hI
    by_cases hkn : k < n
    · have hin : (0 : Int) < ((allMarks ll).count k : Nat) := by
        have := List.count_pos_iff.2 (h2 k hkn)
        omega
      have w1 : IntKind.u64.wrap ((k : Int) + 1) = ((k + 1 : Nat) : Int) := by rw [wrapu64 (by omega) (by omega)]; omega
      simp +contextual only [vq, vc, ve, vv, vn, vl, ↓reduceIte, Nat.reduceEqDiff, Nat.reduceAdd, Nat.reduceMul, Nat.reduceSub, Nat.reduceLeDiff, Nat.reduceLT, Nat.reduceBEq, Nat.reduceBNe, reduceCtorEq, Int.reduceBEq, Int.reduceBNe, Int.reduceLT, Int.reduceLE, Int.reduceEq, Int.reduceToNat, Int.reduceAdd, Int.reduceSub, Int.reduceNeg, B3, B11, hcN.look k, hin, w1]
      exact again2 hJ2 (n - (k + 1)) (by omega) ⟨k + 1, _, rfl, rfl, by omega, by simp +contextual only [vq, vc, ve, vv, vn, vl, ↓reduceIte, Nat.reduceEqDiff, Nat.reduceAdd, Nat.reduceMul, Nat.reduceSub, Nat.reduceLeDiff, Nat.reduceLT, Nat.reduceBEq, Nat.reduceBNe, reduceCtorEq, Int.reduceBEq, Int.reduceBNe, Int.reduceLT, Int.reduceLE, Int.reduceEq, Int.reduceToNat, Int.reduceAdd, Int.reduceSub, Int.reduceNeg, B3], by simp +contextual only [vq, vc, ve, vv, vn, vl, ↓reduceIte, Nat.reduceEqDiff, Nat.reduceAdd, Nat.reduceMul, Nat.reduceSub, Nat.reduceLeDiff, Nat.reduceLT, Nat.reduceBEq, Nat.reduceBNe, reduceCtorEq, Int.reduceBEq, Int.reduceBNe, Int.reduceLT, Int.reduceLE, Int.reduceEq, Int.reduceToNat, Int.reduceAdd, Int.reduceSub, Int.reduceNeg]⟩
    · have : k = n := by omega
      subst this
      have hin : ¬ (0 : Int) < ((allMarks ll).count k : Nat) := by
        have := List.count_eq_zero.2 h1
        omega
      have hdl := dec_len 19 k (by omega)
      have a1 : 2 + (dec k).length ≤ 9223372036854775807 := by omega
      simp +contextual only [vq, vc, ve, vv, vn, vl, ↓reduceIte, Nat.reduceEqDiff, Nat.reduceAdd, Nat.reduceMul, Nat.reduceSub, Nat.reduceLeDiff, Nat.reduceLT, Nat.reduceBEq, Nat.reduceBNe, reduceCtorEq, Int.reduceBEq, Int.reduceBNe, Int.reduceLT, Int.reduceLE, Int.reduceEq, Int.reduceToNat, Int.reduceAdd, Int.reduceSub, Int.reduceNeg, B3, B11, hcN.look k, hin, callR_val (c_octet_Decimal N k (by omega)), a1, hlN]
end Go.Proofs.YtjlpfijbnflknaaDoor.bounceBounds

namespace Go.Proofs.YtjlpfijbnflknaaDoor.bounceBounds
open Go.Ev hiding Comes
variable [GG]

/-- Is the answer wanted, by the whole number of the wish? -/
def wants (p0 r0 w : Int) : Bool := if p0 = 3 ∧ 0 ≤ r0 ∧ r0 ≤ 15 ∧ r0 % 2 = 0 then (if w = 1 then decide (r0 = 0 ∨ r0 / 4 % 2 = 1) else if w = 2 then decide (r0 / 8 % 2 = 1) else if w = 3 then decide (r0 / 2 % 2 = 1) else false) else false
theorem bits16 : ∀ n : Fin 16, (bitsE .and .i64 (n.val : Int) 1 != 0) = decide (n.val % 2 = 1) ∧ (bitsE .and .i64 (n.val : Int) 2 != 0) = decide (n.val / 2 % 2 = 1) ∧ (bitsE .and .i64 (n.val : Int) 4 != 0) = decide (n.val / 4 % 2 = 1) ∧ (bitsE .and .i64 (n.val : Int) 8 != 0) = decide (n.val / 8 % 2 = 1) := by decide +kernel
theorem wants_nat {n : Nat} (hn : n < 16) (w : Int) : wants 3 n w = if n % 2 = 0 then (if w = 1 then (decide (n = 0) || decide (n / 4 % 2 = 1)) else if w = 2 then decide (n / 8 % 2 = 1) else if w = 3 then decide (n / 2 % 2 = 1) else false) else false := by
  unfold wants
  by_cases h : n % 2 = 0
  · rw [if_pos h, if_pos (by omega)]
    split
    · rw [← Bool.decide_or]
      exact decide_eq_decide.2 (by omega)
    · split
      · exact decide_eq_decide.2 (by omega)
      · split
        · exact decide_eq_decide.2 (by omega)
        · rfl
  · rw [if_neg h, if_neg (by omega)]
theorem c_bounce_Wanted (m : Mem) (p0 : Int) (ps : List EV) (hps : ps.length = 20) (r0 : Int) (r1 r2 : EV) (w : Int) :
    Go.Ev.Comes T G f_bounce_Wanted [.agg (.int .i64 p0 :: ps), .agg [.int .i64 r0, r1, r2], .int .i64 w] m none ⟨.val (.bool (wants p0 r0 w)), m, none⟩ := by
  refine comes2 T_bounce_Wanted rfl fun M hg hlen hlow => ?_
  have hl0 : m.bl.length ≤ M.low := by omega
  simp only [F_bounce_Wanted]
  simp +contextual only [vq, vc, ve, vv, vn, vl, ↓reduceIte, Nat.reduceEqDiff, Nat.reduceAdd, Nat.reduceMul, Nat.reduceSub, Nat.reduceLeDiff, Nat.reduceLT, Nat.reduceBEq, Nat.reduceBNe, reduceCtorEq, Int.reduceBEq, Int.reduceBNe, Int.reduceLT, Int.reduceLE, Int.reduceEq, Int.reduceToNat, Int.reduceAdd, Int.reduceSub, Int.reduceNeg, hps]
  refine new_mk fun M1 e1 => ?_
  have R1 : RowIs M1 M.bl.length (.int .i64 p0 :: ps) := by rw [e1]; exact row_push _ _
  have l1 : m.bl.length ≤ M1.low := by rw [e1]; exact hl0
  simp +contextual only [vq, vc, ve, vv, vn, vl, ↓reduceIte, Nat.reduceEqDiff, Nat.reduceAdd, Nat.reduceMul, Nat.reduceSub, Nat.reduceLeDiff, Nat.reduceLT, Nat.reduceBEq, Nat.reduceBNe, reduceCtorEq, Int.reduceBEq, Int.reduceBNe, Int.reduceLT, Int.reduceLE, Int.reduceEq, Int.reduceToNat, Int.reduceAdd, Int.reduceSub, Int.reduceNeg]
  refine new_mk fun M2 e2 => ?_
  have R2 : RowIs M2 M1.bl.length [.int .i64 r0, r1, r2] := by rw [e2]; exact row_push _ _
  have R1 : RowIs M2 M.bl.length (.int .i64 p0 :: ps) := R1.grown (by rw [e2]; exact Grown.rfl'.push)
  have l2 : m.bl.length ≤ M2.low := by rw [e2]; exact l1
  have g0 := R1.get (G := G) 0
  have g1 := R2.get (G := G) 0
  simp only [List.getElem?_cons_zero] at g0 g1
  by_cases h3 : p0 = 3
  · subst h3
    have k0 : ((3 : Int) != 3) = false := rfl
    by_cases hr0 : r0 < 0
    · have e : wants 3 r0 w = false := by unfold wants; rw [if_neg (by omega)]
      simp +contextual only [vq, vc, ve, vv, vn, vl, ↓reduceIte, Nat.reduceEqDiff, Nat.reduceAdd, Nat.reduceMul, Nat.reduceSub, Nat.reduceLeDiff, Nat.reduceLT, Nat.reduceBEq, Nat.reduceBNe, reduceCtorEq, Int.reduceBEq, Int.reduceBNe, Int.reduceLT, Int.reduceLE, Int.reduceEq, Int.reduceToNat, Int.reduceAdd, Int.reduceSub, Int.reduceNeg, g0, g1, k0, hr0, l2, e]
    · by_cases hr1 : 15 < r0
      · have e : wants 3 r0 w = false := by unfold wants; rw [if_neg (by omega)]
        simp +contextual only [vq, vc, ve, vv, vn, vl, ↓reduceIte, Nat.reduceEqDiff, Nat.reduceAdd, Nat.reduceMul, Nat.reduceSub, Nat.reduceLeDiff, Nat.reduceLT, Nat.reduceBEq, Nat.reduceBNe, reduceCtorEq, Int.reduceBEq, Int.reduceBNe, Int.reduceLT, Int.reduceLE, Int.reduceEq, Int.reduceToNat, Int.reduceAdd, Int.reduceSub, Int.reduceNeg, g0, g1, k0, hr0, hr1, l2, e]
      · obtain ⟨n, hn, rfl⟩ : ∃ n : Nat, n < 16 ∧ r0 = n := ⟨r0.toNat, by omega, by omega⟩
        obtain ⟨b1, b2, b4, b8⟩ := bits16 ⟨n, hn⟩
        simp only at b1 b2 b4 b8
        have e := wants_nat hn w
        by_cases ho : n % 2 = 0
        · have b1 : (bitsE .and .i64 (n : Int) 1 != 0) = false := by rw [b1]; simp [ho]
          rw [if_pos ho] at e
          have en : ((n : Int) == 0) = decide (n = 0) := by cases n <;> rfl
          by_cases w1 : w = 1
          · subst w1
            rw [if_pos rfl] at e
            simp +contextual only [vq, vc, ve, vv, vn, vl, ↓reduceIte, Nat.reduceEqDiff, Nat.reduceAdd, Nat.reduceMul, Nat.reduceSub, Nat.reduceLeDiff, Nat.reduceLT, Nat.reduceBEq, Nat.reduceBNe, reduceCtorEq, Int.reduceBEq, Int.reduceBNe, Int.reduceLT, Int.reduceLE, Int.reduceEq, Int.reduceToNat, Int.reduceAdd, Int.reduceSub, Int.reduceNeg, g0, g1, k0, hr0, hr1, b1, b4, en, l2, e]
          · rw [if_neg w1] at e
            have k1 : (w == 1) = false := by simpa using w1
            by_cases w2 : w = 2
            · subst w2
              rw [if_pos rfl] at e
              simp +contextual only [vq, vc, ve, vv, vn, vl, ↓reduceIte, Nat.reduceEqDiff, Nat.reduceAdd, Nat.reduceMul, Nat.reduceSub, Nat.reduceLeDiff, Nat.reduceLT, Nat.reduceBEq, Nat.reduceBNe, reduceCtorEq, Int.reduceBEq, Int.reduceBNe, Int.reduceLT, Int.reduceLE, Int.reduceEq, Int.reduceToNat, Int.reduceAdd, Int.reduceSub, Int.reduceNeg, g0, g1, k0, hr0, hr1, b1, k1, b8, l2, e]
            · rw [if_neg w2] at e
              have k2 : (w == 2) = false := by simpa using w2
              by_cases w3 : w = 3
              · subst w3
                rw [if_pos rfl] at e
                simp +contextual only [vq, vc, ve, vv, vn, vl, ↓reduceIte, Nat.reduceEqDiff, Nat.reduceAdd, Nat.reduceMul, Nat.reduceSub, Nat.reduceLeDiff, Nat.reduceLT, Nat.reduceBEq, Nat.reduceBNe, reduceCtorEq, Int.reduceBEq, Int.reduceBNe, Int.reduceLT, Int.reduceLE, Int.reduceEq, Int.reduceToNat, Int.reduceAdd, Int.reduceSub, Int.reduceNeg, g0, g1, k0, hr0, hr1, b1, k1, k2, b2, l2, e]
              · rw [if_neg w3] at e
                have k3 : (w == 3) = false := by simpa using w3
                simp +contextual only [vq, vc, ve, vv, vn, vl, ↓reduceIte, Nat.reduceEqDiff, Nat.reduceAdd, Nat.reduceMul, Nat.reduceSub, Nat.reduceLeDiff, Nat.reduceLT, Nat.reduceBEq, Nat.reduceBNe, reduceCtorEq, Int.reduceBEq, Int.reduceBNe, Int.reduceLT, Int.reduceLE, Int.reduceEq, Int.reduceToNat, Int.reduceAdd, Int.reduceSub, Int.reduceNeg, g0, g1, k0, hr0, hr1, b1, k1, k2, k3, l2, e]
        · have b1 : (bitsE .and .i64 (n : Int) 1 != 0) = true := by rw [b1]; simp; omega
          rw [if_neg ho] at e
          simp +contextual only [vq, vc, ve, vv, vn, vl, ↓reduceIte, Nat.reduceEqDiff, Nat.reduceAdd, Nat.reduceMul, Nat.reduceSub, Nat.reduceLeDiff, Nat.reduceLT, Nat.reduceBEq, Nat.reduceBNe, reduceCtorEq, Int.reduceBEq, Int.reduceBNe, Int.reduceLT, Int.reduceLE, Int.reduceEq, Int.reduceToNat, Int.reduceAdd, Int.reduceSub, Int.reduceNeg, g0, g1, k0, hr0, hr1, b1, l2, e]
  · have e : wants p0 r0 w = false := by unfold wants; rw [if_neg (by omega)]
    have k0 : (p0 != 3) = true := by simpa using h3
    simp +contextual only [vq, vc, ve, vv, vn, vl, ↓reduceIte, Nat.reduceEqDiff, Nat.reduceAdd, Nat.reduceMul, Nat.reduceSub, Nat.reduceLeDiff, Nat.reduceLT, Nat.reduceBEq, Nat.reduceBNe, reduceCtorEq, Int.reduceBEq, Int.reduceBNe, Int.reduceLT, Int.reduceLE, Int.reduceEq, Int.reduceToNat, Int.reduceAdd, Int.reduceSub, Int.reduceNeg, g0, g1, k0, l2, e]
end Go.Proofs.YtjlpfijbnflknaaDoor.bounceBounds

namespace Go.Proofs.YtjlpfijbnflknaaDoor.bounceBounds
open Go.Ev hiding Comes
variable [GG]

theorem head_marks : (1 ∉ allMarks [[120, 61, 95, 48, 121], [61, 95, 50]]) ∧ ∀ k, k < 1 → k ∈ allMarks [[120, 61, 95, 48, 121], [61, 95, 50]] := by
  refine ⟨fun h => ?_, fun k hk => ?_⟩
  · have := (allMarks_any (by omega)).2 h
    rw [dec_lt (by omega)] at this
    revert this
    decide
  · have : k = 0 := by omega
    subst this
    refine (allMarks_any (by omega)).1 ?_
    rw [dec_lt (by omega)]
    decide
theorem c_l30_head (m : Mem) : Go.Ev.Comes T G f_l30_head [] m none ⟨.val (.bool true), m, none⟩ := by
  refine comes2 T_l30_head rfl fun M hg hlen hlow => ?_
  have hl0 : m.bl.length ≤ M.low := by omega
  simp only [F_l30_head]
  simp +contextual only [vq, vc, ve, vv, vn, vl, ↓reduceIte, Nat.reduceEqDiff, Nat.reduceAdd, Nat.reduceMul, Nat.reduceSub, Nat.reduceLeDiff, Nat.reduceLT, Nat.reduceBEq, Nat.reduceBNe, reduceCtorEq, Int.reduceBEq, Int.reduceBNe, Int.reduceLT, Int.reduceLE, Int.reduceEq, Int.reduceToNat, Int.reduceAdd, Int.reduceSub, Int.reduceNeg]
  refine new_mk fun M1 e1 => ?_
  have R1 : RowIs M1 M.bl.length (bytesE [120, 61, 95, 48, 121]) := by rw [e1]; exact row_push _ _
  have B1 : BytesAt G M1 (.slice (some ⟨.mem M.bl.length 0, 0⟩) 5 5 1) [120, 61, 95, 48, 121] := bytes_new (s := [120, 61, 95, 48, 121]) e1
  have k1 := mk_row (o := 0) (n := 5) (c := 5) (z := 1) R1 (by omega)
  have l1 : m.bl.length ≤ M1.low := by rw [e1]; exact hl0
  simp +contextual only [vq, vc, ve, vv, vn, vl, ↓reduceIte, Nat.reduceEqDiff, Nat.reduceAdd, Nat.reduceMul, Nat.reduceSub, Nat.reduceLeDiff, Nat.reduceLT, Nat.reduceBEq, Nat.reduceBNe, reduceCtorEq, Int.reduceBEq, Int.reduceBNe, Int.reduceLT, Int.reduceLE, Int.reduceEq, Int.reduceToNat, Int.reduceAdd, Int.reduceSub, Int.reduceNeg, k1]
  refine new_mk fun M2 e2 => ?_
  have R2 : RowIs M2 M1.bl.length (bytesE [61, 95, 50]) := by rw [e2]; exact row_push _ _
  have B2 : BytesAt G M2 (.slice (some ⟨.mem M1.bl.length 0, 0⟩) 3 3 1) [61, 95, 50] := bytes_new (s := [61, 95, 50]) e2
  have k2 := mk_row (o := 0) (n := 3) (c := 3) (z := 1) R2 (by omega)
  have l2 : m.bl.length ≤ M2.low := by rw [e2]; exact l1
  simp +contextual only [vq, vc, ve, vv, vn, vl, ↓reduceIte, Nat.reduceEqDiff, Nat.reduceAdd, Nat.reduceMul, Nat.reduceSub, Nat.reduceLeDiff, Nat.reduceLT, Nat.reduceBEq, Nat.reduceBNe, reduceCtorEq, Int.reduceBEq, Int.reduceBNe, Int.reduceLT, Int.reduceLE, Int.reduceEq, Int.reduceToNat, Int.reduceAdd, Int.reduceSub, Int.reduceNeg, k2]
  refine new_mk fun M3 e3 => ?_
  have l3 : m.bl.length ≤ M3.low := by rw [e3]; exact l2
  have g3 : Grown M2 M3 := by rw [e3]; exact Grown.rfl'.push
  have g2 : Grown M1 M2 := by rw [e2]; exact Grown.rfl'.push
  have hrows : ByteRows G M3 (.slice (some ⟨.mem M2.bl.length 0, 0⟩) 2 2 1) [[120, 61, 95, 48, 121], [61, 95, 50]] := by
    refine ⟨[.slice (some ⟨.mem M.bl.length 0, 0⟩) 5 5 1, .slice (some ⟨.mem M1.bl.length 0, 0⟩) 3 3 1], rfl, lit_rowsAt (rows := [[_], [_]]) e3 rfl (by simp), fun i x s hx hs => ?_⟩
    match i with
    | 0 =>
      simp only [List.getElem?_cons_zero, Option.some.injEq] at hx hs
      subst hx hs
      exact B1.grown (g2.trans g3)
    | 1 =>
      simp only [List.getElem?_cons_succ, List.getElem?_cons_zero, Option.some.injEq] at hx hs
      subst hx hs
      exact B2.grown g3
    | j + 2 => simp at hx
  have hB := c_bounce_Boundary M3 _ _ hrows (by simp) (by simp) 1 head_marks.1 head_marks.2
  rw [dec_lt (by omega)] at hB
  have hW := c_bounce_Wanted M3 3 [.slice none 0 0 0, .str [], .int .i64 0, .str [], .int .u8 0, .int .u8 0, .int .u8 0, .int .u8 0, .int .u8 0, .int .u8 0, .int .u8 0, .int .u8 0, .int .u8 0, .int .u8 0, .int .u8 0, .int .u8 0, .int .u8 0, .int .u8 0, .int .u8 0, .int .u8 0] rfl 0 (.bool false) (.str []) 1
  rw [show wants 3 0 1 = true by decide] at hW
  have e1' : ([61, 95, dg 1] == [61, 95, 49]) = true := by decide
  simp +contextual only [vq, vc, ve, vv, vn, vl, ↓reduceIte, Nat.reduceEqDiff, Nat.reduceAdd, Nat.reduceMul, Nat.reduceSub, Nat.reduceLeDiff, Nat.reduceLT, Nat.reduceBEq, Nat.reduceBNe, reduceCtorEq, Int.reduceBEq, Int.reduceBNe, Int.reduceLT, Int.reduceLE, Int.reduceEq, Int.reduceToNat, Int.reduceAdd, Int.reduceSub, Int.reduceNeg, callR_val hB, e1', callR_val hW, l3]
end Go.Proofs.YtjlpfijbnflknaaDoor.bounceBounds

namespace Go.Proofs.YtjlpfijbnflknaaDoor.bounceBounds
open Go.Ev hiding Comes
variable [GG]

theorem c_r30_stands (m : Mem) (x : EV) (s t : List UInt8) (hx : BytesAt G m x s) (ht : t ≠ []) (hN : s.length ≤ 1000000000000) (hT : t.length ≤ 1000000000000) : Go.Ev.Comes T G f_r30_stands [x, .str t] m none ⟨.val (.bool (inB s t)), m, none⟩ := by
  refine comes2 T_r30_stands rfl fun M hg hlen hlow => ?_
  have hl0 : m.bl.length ≤ M.low := by omega
  have hx := hx.grown hg
  obtain ⟨a0, c0, e0, sx⟩ := hx.slice
  simp only [F_r30_stands]
  simp +contextual only [vq, vc, ve, vv, vn, vl, ↓reduceIte, Nat.reduceEqDiff, Nat.reduceAdd, Nat.reduceMul, Nat.reduceSub, Nat.reduceLeDiff, Nat.reduceLT, Nat.reduceBEq, Nat.reduceBNe, reduceCtorEq, Int.reduceBEq, Int.reduceBNe, Int.reduceLT, Int.reduceLE, Int.reduceEq, Int.reduceToNat, Int.reduceAdd, Int.reduceSub, Int.reduceNeg]
  refine loop2 (fun n st => ∃ i A, st = ⟨A, M, [], none⟩ ∧ n = s.length + 1 - i ∧ i ≤ s.length + 1 ∧ A 0 = x ∧ A 1 = .str t ∧ A 5 = .int .i64 (i : Nat) ∧ ∀ j, j < i → (s.drop j).take t.length ≠ t) (s.length + 1) ⟨0, _, rfl, by omega, by omega, by simp +contextual only [vq, vc, ve, vv, vn, vl, ↓reduceIte, Nat.reduceEqDiff, Nat.reduceAdd, Nat.reduceMul, Nat.reduceSub, Nat.reduceLeDiff, Nat.reduceLT, Nat.reduceBEq, Nat.reduceBNe, reduceCtorEq, Int.reduceBEq, Int.reduceBNe, Int.reduceLT, Int.reduceLE, Int.reduceEq, Int.reduceToNat, Int.reduceAdd, Int.reduceSub, Int.reduceNeg], by simp +contextual only [vq, vc, ve, vv, vn, vl, ↓reduceIte, Nat.reduceEqDiff, Nat.reduceAdd, Nat.reduceMul, Nat.reduceSub, Nat.reduceLeDiff, Nat.reduceLT, Nat.reduceBEq, Nat.reduceBNe, reduceCtorEq, Int.reduceBEq, Int.reduceBNe, Int.reduceLT, Int.reduceLE, Int.reduceEq, Int.reduceToNat, Int.reduceAdd, Int.reduceSub, Int.reduceNeg], by simp +contextual only [vq, vc, ve, vv, vn, vl, ↓reduceIte, Nat.reduceEqDiff, Nat.reduceAdd, Nat.reduceMul, Nat.reduceSub, Nat.reduceLeDiff, Nat.reduceLT, Nat.reduceBEq, Nat.reduceBNe, reduceCtorEq, Int.reduceBEq, Int.reduceBNe, Int.reduceLT, Int.reduceLE, Int.reduceEq, Int.reduceToNat, Int.reduceAdd, Int.reduceSub, Int.reduceNeg]; rfl, fun j hj => by omega⟩ fun J hJ n st hI => ?_
  obtain ⟨i, A, rfl, rfl, hi, A0, A1, A5, hno⟩ := hI
  have htp : 0 < t.length := List.length_pos_iff.2 ht
  have hw : IntKind.i64.wrap ((i : Int) + (t.length : Int)) = ((i + t.length : Nat) : Int) := wrap_of (by omega) (by omega)
  by_cases hle : i + t.length ≤ s.length
  · obtain ⟨a, cap, q1, hc, ho, hgN, _⟩ := hx.pos (fun e => by rw [e] at hle; simp only [List.length_nil] at hle; omega)
    rw [q1] at A0
    have hp := bytes_part hc ho hgN (show i ≤ i + t.length by omega) hle
    have k1 : i ≤ i + t.length := by omega
    have k2 : i + t.length ≤ cap := by omega
    have k3 : i + t.length - i = t.length := by omega
    rw [k3] at hp
    have hl : ((s.drop i).take t.length).length = t.length := by simp; omega
    obtain ⟨_, _, he, _, _, hg, _⟩ := hp.pos (by intro e; rw [e] at hl; simp at hl; omega)
    rw [hl] at he hg
    cases he
    simp +contextual only [vq, vc, ve, vv, vn, vl, ↓reduceIte, Nat.reduceEqDiff, Nat.reduceAdd, Nat.reduceMul, Nat.reduceSub, Nat.reduceLeDiff, Nat.reduceLT, Nat.reduceBEq, Nat.reduceBNe, reduceCtorEq, Int.reduceBEq, Int.reduceBNe, Int.reduceLT, Int.reduceLE, Int.reduceEq, Int.reduceToNat, Int.reduceAdd, Int.reduceSub, Int.reduceNeg, A0, A1, A5, hw, hle, k1, k2, k3, hg]
    refine br2_mk (fun hq => ?_) (fun hq => ?_)
    · have hq : (s.drop i).take t.length = t := by simpa using hq
      have e : inB s t = true := by
        unfold inB
        rw [List.any_eq_true]
        exact ⟨i, by simp only [List.mem_range]; omega, by simpa using hq⟩
      simp +contextual only [vq, vc, ve, vv, vn, vl, ↓reduceIte, Nat.reduceEqDiff, Nat.reduceAdd, Nat.reduceMul, Nat.reduceSub, Nat.reduceLeDiff, Nat.reduceLT, Nat.reduceBEq, Nat.reduceBNe, reduceCtorEq, Int.reduceBEq, Int.reduceBNe, Int.reduceLT, Int.reduceLE, Int.reduceEq, Int.reduceToNat, Int.reduceAdd, Int.reduceSub, Int.reduceNeg, e, hl0]
    · have hq : (s.drop i).take t.length ≠ t := by simpa using hq
      simp +contextual only [vq, vc, ve, vv, vn, vl, ↓reduceIte, Nat.reduceEqDiff, Nat.reduceAdd, Nat.reduceMul, Nat.reduceSub, Nat.reduceLeDiff, Nat.reduceLT, Nat.reduceBEq, Nat.reduceBNe, reduceCtorEq, Int.reduceBEq, Int.reduceBNe, Int.reduceLT, Int.reduceLE, Int.reduceEq, Int.reduceToNat, Int.reduceAdd, Int.reduceSub, Int.reduceNeg, A5, wsucc (show i < i + 1 by omega) (by omega)]
      exact again2 hJ (s.length + 1 - (i + 1)) (by omega) ⟨i + 1, _, rfl, rfl, by omega, by simp +contextual only [vq, vc, ve, vv, vn, vl, ↓reduceIte, Nat.reduceEqDiff, Nat.reduceAdd, Nat.reduceMul, Nat.reduceSub, Nat.reduceLeDiff, Nat.reduceLT, Nat.reduceBEq, Nat.reduceBNe, reduceCtorEq, Int.reduceBEq, Int.reduceBNe, Int.reduceLT, Int.reduceLE, Int.reduceEq, Int.reduceToNat, Int.reduceAdd, Int.reduceSub, Int.reduceNeg, A0, q1], by simp +contextual only [vq, vc, ve, vv, vn, vl, ↓reduceIte, Nat.reduceEqDiff, Nat.reduceAdd, Nat.reduceMul, Nat.reduceSub, Nat.reduceLeDiff, Nat.reduceLT, Nat.reduceBEq, Nat.reduceBNe, reduceCtorEq, Int.reduceBEq, Int.reduceBNe, Int.reduceLT, Int.reduceLE, Int.reduceEq, Int.reduceToNat, Int.reduceAdd, Int.reduceSub, Int.reduceNeg, A1], by simp +contextual only [vq, vc, ve, vv, vn, vl, ↓reduceIte, Nat.reduceEqDiff, Nat.reduceAdd, Nat.reduceMul, Nat.reduceSub, Nat.reduceLeDiff, Nat.reduceLT, Nat.reduceBEq, Nat.reduceBNe, reduceCtorEq, Int.reduceBEq, Int.reduceBNe, Int.reduceLT, Int.reduceLE, Int.reduceEq, Int.reduceToNat, Int.reduceAdd, Int.reduceSub, Int.reduceNeg], fun j hj => by
        by_cases hji : j = i
        · rw [hji]; exact hq
        · exact hno j (by omega)⟩
  · have e : inB s t = false := by
      unfold inB
      rw [List.any_eq_false]
      intro j hj
      simp only [List.mem_range] at hj
      simpa using hno j (by omega)
    rw [sx] at A0
    simp +contextual only [vq, vc, ve, vv, vn, vl, ↓reduceIte, Nat.reduceEqDiff, Nat.reduceAdd, Nat.reduceMul, Nat.reduceSub, Nat.reduceLeDiff, Nat.reduceLT, Nat.reduceBEq, Nat.reduceBNe, reduceCtorEq, Int.reduceBEq, Int.reduceBNe, Int.reduceLT, Int.reduceLE, Int.reduceEq, Int.reduceToNat, Int.reduceAdd, Int.reduceSub, Int.reduceNeg, A0, A1, A5, hw, hle, e, hl0]
end Go.Proofs.YtjlpfijbnflknaaDoor.bounceBounds

namespace Go.Proofs.YtjlpfijbnflknaaDoor.bounceBounds
open Go.Ev hiding Comes
variable [GG]

theorem digit_cut : ∀ n : Fin 10, List.take 1 (List.drop n.val [48, 49, 50, 51, 52, 53, 54, 55, 56, 57]) = [dg n.val] := by decide +kernel
theorem c_r01_Decimal (m : Mem) (n : Nat) (hn : n < 18446744073709551616) : Go.Ev.Comes T G f_r01_Decimal [.int .u64 n] m none ⟨.val (.str (dec n)), m, none⟩ := by
  refine comes2 T_r01_Decimal rfl fun M hg hlen hlow => ?_
  have hl0 : m.bl.length ≤ M.low := by omega
  have hd20 := dec_len 19 n (by omega)
  simp only [F_r01_Decimal]
  simp +contextual only [vq, vc, ve, vv, vn, vl, ↓reduceIte, Nat.reduceEqDiff, Nat.reduceAdd, Nat.reduceMul, Nat.reduceSub, Nat.reduceLeDiff, Nat.reduceLT, Nat.reduceBEq, Nat.reduceBNe, reduceCtorEq, Int.reduceBEq, Int.reduceBNe, Int.reduceLT, Int.reduceLE, Int.reduceEq, Int.reduceToNat, Int.reduceAdd, Int.reduceSub, Int.reduceNeg]
  refine loop2 (fun r st => ∃ (A : Fr) (w : List UInt8), st = ⟨A, M, [], none⟩ ∧ A 0 = .int .u64 (r : Nat) ∧ A 3 = .str w ∧ dec n = dec r ++ w ∧ r < 18446744073709551616) n ⟨_, [], rfl, by simp +contextual only [vq, vc, ve, vv, vn, vl, ↓reduceIte, Nat.reduceEqDiff, Nat.reduceAdd, Nat.reduceMul, Nat.reduceSub, Nat.reduceLeDiff, Nat.reduceLT, Nat.reduceBEq, Nat.reduceBNe, reduceCtorEq, Int.reduceBEq, Int.reduceBNe, Int.reduceLT, Int.reduceLE, Int.reduceEq, Int.reduceToNat, Int.reduceAdd, Int.reduceSub, Int.reduceNeg], by simp +contextual only [vq, vc, ve, vv, vn, vl, ↓reduceIte, Nat.reduceEqDiff, Nat.reduceAdd, Nat.reduceMul, Nat.reduceSub, Nat.reduceLeDiff, Nat.reduceLT, Nat.reduceBEq, Nat.reduceBNe, reduceCtorEq, Int.reduceBEq, Int.reduceBNe, Int.reduceLT, Int.reduceLE, Int.reduceEq, Int.reduceToNat, Int.reduceAdd, Int.reduceSub, Int.reduceNeg], by simp, hn⟩ fun J hJ r st hI => ?_
  obtain ⟨A, w, rfl, A0, A3, hd, hr⟩ := hI
  have hdn : (dec r).length + w.length ≤ 20 := by rw [← List.length_append, ← hd]; exact hd20
  obtain ⟨s1, s2⟩ := dec_step hd
  have e10 : ((10 : Int) ≤ (r : Int)) = (10 ≤ r) := propext ⟨fun h => by omega, fun h => by omega⟩
  have a1 : 1 + w.length ≤ 9223372036854775807 := by omega
  by_cases h9 : r < 10
  · have k1 : ¬ 10 ≤ r := by omega
    have w1 : IntKind.u64.wrap ((r : Int) + 1) = ((r + 1 : Nat) : Int) := by rw [wrapu64 (by omega) (by omega)]; omega
    have k2 : r ≤ r + 1 := by omega
    have k3 : ((r + 1 : Nat) : Int) ≤ ((10 : Nat) : Int) := by omega
    have k4 : r + 1 - r = 1 := by omega
    have hc := digit_cut ⟨r, h9⟩
    simp only at hc
    simp +contextual only [vq, vc, ve, vv, vn, vl, ↓reduceIte, Nat.reduceEqDiff, Nat.reduceAdd, Nat.reduceMul, Nat.reduceSub, Nat.reduceLeDiff, Nat.reduceLT, Nat.reduceBEq, Nat.reduceBNe, reduceCtorEq, Int.reduceBEq, Int.reduceBNe, Int.reduceLT, Int.reduceLE, Int.reduceEq, Int.reduceToNat, Int.reduceAdd, Int.reduceSub, Int.reduceNeg, A0, A3, e10, k1, w1, k2, k3, k4, hc, a1, hl0, s1 h9]
  · have k1 : 10 ≤ r := by omega
    have r1 : ((r : Nat) : Int).tmod 10 = ((r % 10 : Nat) : Int) := rfl
    have r2 : ((r : Nat) : Int).tdiv 10 = ((r / 10 : Nat) : Int) := rfl
    have w1 : IntKind.u64.wrap (((r % 10 : Nat) : Int) + 1) = ((r % 10 + 1 : Nat) : Int) := by rw [wrapu64 (by omega) (by omega)]; omega
    have w4 : IntKind.u64.wrap ((r / 10 : Nat) : Int) = ((r / 10 : Nat) : Int) := wrapu64 (by omega) (by omega)
    have k2 : r % 10 ≤ r % 10 + 1 := by omega
    have k3 : ((r % 10 + 1 : Nat) : Int) ≤ ((10 : Nat) : Int) := by omega
    have k4 : r % 10 + 1 - r % 10 = 1 := by omega
    have hc := digit_cut ⟨r % 10, by omega⟩
    have hdg : dg (r % 10) = dg r := by simp [dg]
    simp only [hdg] at hc
    simp +contextual only [vq, vc, ve, vv, vn, vl, ↓reduceIte, Nat.reduceEqDiff, Nat.reduceAdd, Nat.reduceMul, Nat.reduceSub, Nat.reduceLeDiff, Nat.reduceLT, Nat.reduceBEq, Nat.reduceBNe, reduceCtorEq, Int.reduceBEq, Int.reduceBNe, Int.reduceLT, Int.reduceLE, Int.reduceEq, Int.reduceToNat, Int.reduceAdd, Int.reduceSub, Int.reduceNeg, A0, A3, e10, k1, r1, r2, w1, w4, k2, k3, k4, hc, a1]
    exact again2 hJ (r / 10) (by omega) ⟨_, dg r :: w, rfl, by simp +contextual only [vq, vc, ve, vv, vn, vl, ↓reduceIte, Nat.reduceEqDiff, Nat.reduceAdd, Nat.reduceMul, Nat.reduceSub, Nat.reduceLeDiff, Nat.reduceLT, Nat.reduceBEq, Nat.reduceBNe, reduceCtorEq, Int.reduceBEq, Int.reduceBNe, Int.reduceLT, Int.reduceLE, Int.reduceEq, Int.reduceToNat, Int.reduceAdd, Int.reduceSub, Int.reduceNeg], by simp +contextual only [vq, vc, ve, vv, vn, vl, ↓reduceIte, Nat.reduceEqDiff, Nat.reduceAdd, Nat.reduceMul, Nat.reduceSub, Nat.reduceLeDiff, Nat.reduceLT, Nat.reduceBEq, Nat.reduceBNe, reduceCtorEq, Int.reduceBEq, Int.reduceBNe, Int.reduceLT, Int.reduceLE, Int.reduceEq, Int.reduceToNat, Int.reduceAdd, Int.reduceSub, Int.reduceNeg], s2 h9, by omega⟩
end Go.Proofs.YtjlpfijbnflknaaDoor.bounceBounds

namespace Go.Proofs.YtjlpfijbnflknaaDoor.bounceBounds
open Go.Ev hiding Comes
variable [GG]

theorem c_r30_Boundary (m : Mem) (x : EV) (ll : List (List UInt8)) (hx : ByteRows G m x ll) (hl : ll.length ≤ 2000000) (hs : ∀ s ∈ ll, s.length ≤ 2000000) (n : Nat) (h1 : n ∉ allMarks ll) (h2 : ∀ k, k < n → k ∈ allMarks ll) :
    Go.Ev.Comes T G f_r30_Boundary [x] m none ⟨.val (.str (61 :: 95 :: dec n)), m, none⟩ := by
  refine comes2 T_r30_Boundary rfl fun M hg hlen hlow => ?_
  have hl0 : m.bl.length ≤ M.low := by omega
  have hx := hx.grown hg
  have hL := allMarks_len hs
  have hn := holes n _ h2
  obtain ⟨a0, c0, e0, sx⟩ := hx.slice
  have lx : lnbE x = some (.int .i64 ll.length) := by rw [sx]; rfl
  simp only [F_r30_Boundary]
  simp +contextual only [vq, vc, ve, vv, vn, vl, ↓reduceIte, Nat.reduceEqDiff, Nat.reduceAdd, Nat.reduceMul, Nat.reduceSub, Nat.reduceLeDiff, Nat.reduceLT, Nat.reduceBEq, Nat.reduceBNe, reduceCtorEq, Int.reduceBEq, Int.reduceBNe, Int.reduceLT, Int.reduceLE, Int.reduceEq, Int.reduceToNat, Int.reduceAdd, Int.reduceSub, Int.reduceNeg]
  refine loop2 (fun q st => ∃ (k : Nat) (A : Fr), st = ⟨A, M, [], none⟩ ∧ q = n - k ∧ k ≤ n ∧ A 0 = x ∧ A 3 = .int .u64 (k : Nat)) n ⟨0, _, rfl, by omega, by omega, by simp +contextual only [vq, vc, ve, vv, vn, vl, ↓reduceIte, Nat.reduceEqDiff, Nat.reduceAdd, Nat.reduceMul, Nat.reduceSub, Nat.reduceLeDiff, Nat.reduceLT, Nat.reduceBEq, Nat.reduceBNe, reduceCtorEq, Int.reduceBEq, Int.reduceBNe, Int.reduceLT, Int.reduceLE, Int.reduceEq, Int.reduceToNat, Int.reduceAdd, Int.reduceSub, Int.reduceNeg], by simp +contextual only [vq, vc, ve, vv, vn, vl, ↓reduceIte, Nat.reduceEqDiff, Nat.reduceAdd, Nat.reduceMul, Nat.reduceSub, Nat.reduceLeDiff, Nat.reduceLT, Nat.reduceBEq, Nat.reduceBNe, reduceCtorEq, Int.reduceBEq, Int.reduceBNe, Int.reduceLT, Int.reduceLE, Int.reduceEq, Int.reduceToNat, Int.reduceAdd, Int.reduceSub, Int.reduceNeg]; rfl⟩ fun J hJ q st hI => ?_
  obtain ⟨k, A, rfl, rfl, hk, A0, A3⟩ := hI
  have hdl := dec_len 19 k (by omega)
  have a1 : 2 + (dec k).length ≤ 9223372036854775807 := by omega
  simp +contextual only [vq, vc, ve, vv, vn, vl, ↓reduceIte, Nat.reduceEqDiff, Nat.reduceAdd, Nat.reduceMul, Nat.reduceSub, Nat.reduceLeDiff, Nat.reduceLT, Nat.reduceBEq, Nat.reduceBNe, reduceCtorEq, Int.reduceBEq, Int.reduceBNe, Int.reduceLT, Int.reduceLE, Int.reduceEq, Int.reduceToNat, Int.reduceAdd, Int.reduceSub, Int.reduceNeg, A3, callR_val (c_r01_Decimal M k (by omega)), a1]
  refine loop2 (fun q st => ∃ (i : Nat) (B : Fr), st = ⟨B, M, [], none⟩ ∧ q = ll.length - i ∧ i ≤ ll.length ∧ B 0 = x ∧ B 3 = .int .u64 (k : Nat) ∧ B 4 = .str (61 :: 95 :: dec k) ∧ B 5 = .bool (!(ll.take i).any (fun s => inB s (61 :: 95 :: dec k))) ∧ B 6 = .int .i64 (i : Nat)) ll.length ⟨0, _, rfl, by omega, by omega, by simp +contextual only [vq, vc, ve, vv, vn, vl, ↓reduceIte, Nat.reduceEqDiff, Nat.reduceAdd, Nat.reduceMul, Nat.reduceSub, Nat.reduceLeDiff, Nat.reduceLT, Nat.reduceBEq, Nat.reduceBNe, reduceCtorEq, Int.reduceBEq, Int.reduceBNe, Int.reduceLT, Int.reduceLE, Int.reduceEq, Int.reduceToNat, Int.reduceAdd, Int.reduceSub, Int.reduceNeg, A0], by simp +contextual only [vq, vc, ve, vv, vn, vl, ↓reduceIte, Nat.reduceEqDiff, Nat.reduceAdd, Nat.reduceMul, Nat.reduceSub, Nat.reduceLeDiff, Nat.reduceLT, Nat.reduceBEq, Nat.reduceBNe, reduceCtorEq, Int.reduceBEq, Int.reduceBNe, Int.reduceLT, Int.reduceLE, Int.reduceEq, Int.reduceToNat, Int.reduceAdd, Int.reduceSub, Int.reduceNeg, A3], by simp +contextual only [vq, vc, ve, vv, vn, vl, ↓reduceIte, Nat.reduceEqDiff, Nat.reduceAdd, Nat.reduceMul, Nat.reduceSub, Nat.reduceLeDiff, Nat.reduceLT, Nat.reduceBEq, Nat.reduceBNe, reduceCtorEq, Int.reduceBEq, Int.reduceBNe, Int.reduceLT, Int.reduceLE, Int.reduceEq, Int.reduceToNat, Int.reduceAdd, Int.reduceSub, Int.reduceNeg], by simp +contextual only [vq, vc, ve, vv, vn, vl, ↓reduceIte, Nat.reduceEqDiff, Nat.reduceAdd, Nat.reduceMul, Nat.reduceSub, Nat.reduceLeDiff, Nat.reduceLT, Nat.reduceBEq, Nat.reduceBNe, reduceCtorEq, Int.reduceBEq, Int.reduceBNe, Int.reduceLT, Int.reduceLE, Int.reduceEq, Int.reduceToNat, Int.reduceAdd, Int.reduceSub, Int.reduceNeg]; rfl, by simp +contextual only [vq, vc, ve, vv, vn, vl, ↓reduceIte, Nat.reduceEqDiff, Nat.reduceAdd, Nat.reduceMul, Nat.reduceSub, Nat.reduceLeDiff, Nat.reduceLT, Nat.reduceBEq, Nat.reduceBNe, reduceCtorEq, Int.reduceBEq, Int.reduceBNe, Int.reduceLT, Int.reduceLE, Int.reduceEq, Int.reduceToNat, Int.reduceAdd, Int.reduceSub, Int.reduceNeg]; rfl⟩ fun J2 hJ2 q st hI => ?_
  obtain ⟨i, B, rfl, rfl, hi, B0, B3, B4, B5, B6⟩ := hI
  by_cases hlt : i < ll.length
  · obtain ⟨a, cap, y, e, hy1, hy2, hy⟩ := hx.at hlt
    have hsi := hs _ (List.getElem_mem hlt)
    rw [e] at B0
    have hst := c_r30_stands M y ll[i] (61 :: 95 :: dec k) hy (by simp) (by omega) (by simp; omega)
    have htk : (ll.take (i + 1)).any (fun s => inB s (61 :: 95 :: dec k)) = ((ll.take i).any (fun s => inB s (61 :: 95 :: dec k)) || inB ll[i] (61 :: 95 :: dec k)) := by
      rw [List.take_succ_eq_append_getElem hlt, List.any_append]
      simp only [List.any_cons, List.any_nil, Bool.or_false]
    cases hb : inB ll[i] (61 :: 95 :: dec k) with
    | true =>
      rw [hb, Bool.or_true] at htk
      rw [hb] at hst
      simp +contextual only [vq, vc, ve, vv, vn, vl, ↓reduceIte, Nat.reduceEqDiff, Nat.reduceAdd, Nat.reduceMul, Nat.reduceSub, Nat.reduceLeDiff, Nat.reduceLT, Nat.reduceBEq, Nat.reduceBNe, reduceCtorEq, Int.reduceBEq, Int.reduceBNe, Int.reduceLT, Int.reduceLE, Int.reduceEq, Int.reduceToNat, Int.reduceAdd, Int.reduceSub, Int.reduceNeg, B0, B4, B6, hlt, hy1, callR_val hst, wsucc hlt (by omega)]
      exact again2 hJ2 (ll.length - (i + 1)) (by omega) ⟨i + 1, _, rfl, rfl, by omega, by simp +contextual only [vq, vc, ve, vv, vn, vl, ↓reduceIte, Nat.reduceEqDiff, Nat.reduceAdd, Nat.reduceMul, Nat.reduceSub, Nat.reduceLeDiff, Nat.reduceLT, Nat.reduceBEq, Nat.reduceBNe, reduceCtorEq, Int.reduceBEq, Int.reduceBNe, Int.reduceLT, Int.reduceLE, Int.reduceEq, Int.reduceToNat, Int.reduceAdd, Int.reduceSub, Int.reduceNeg, B0, e], by simp +contextual only [vq, vc, ve, vv, vn, vl, ↓reduceIte, Nat.reduceEqDiff, Nat.reduceAdd, Nat.reduceMul, Nat.reduceSub, Nat.reduceLeDiff, Nat.reduceLT, Nat.reduceBEq, Nat.reduceBNe, reduceCtorEq, Int.reduceBEq, Int.reduceBNe, Int.reduceLT, Int.reduceLE, Int.reduceEq, Int.reduceToNat, Int.reduceAdd, Int.reduceSub, Int.reduceNeg, B3], by simp +contextual only [vq, vc, ve, vv, vn, vl, ↓reduceIte, Nat.reduceEqDiff, Nat.reduceAdd, Nat.reduceMul, Nat.reduceSub, Nat.reduceLeDiff, Nat.reduceLT, Nat.reduceBEq, Nat.reduceBNe, reduceCtorEq, Int.reduceBEq, Int.reduceBNe, Int.reduceLT, Int.reduceLE, Int.reduceEq, Int.reduceToNat, Int.reduceAdd, Int.reduceSub, Int.reduceNeg, B4], by simp +contextual only [vq, vc, ve, vv, vn, vl, ↓reduceIte, Nat.reduceEqDiff, Nat.reduceAdd, Nat.reduceMul, Nat.reduceSub, Nat.reduceLeDiff, Nat.reduceLT, Nat.reduceBEq, Nat.reduceBNe, reduceCtorEq, Int.reduceBEq, Int.reduceBNe, Int.reduceLT, Int.reduceLE, Int.reduceEq, Int.reduceToNat, Int.reduceAdd, Int.reduceSub, Int.reduceNeg]; rw [htk]; rfl, by simp +contextual only [vq, vc, ve, vv, vn, vl, ↓reduceIte, Nat.reduceEqDiff, Nat.reduceAdd, Nat.reduceMul, Nat.reduceSub, Nat.reduceLeDiff, Nat.reduceLT, Nat.reduceBEq, Nat.reduceBNe, reduceCtorEq, Int.reduceBEq, Int.reduceBNe, Int.reduceLT, Int.reduceLE, Int.reduceEq, Int.reduceToNat, Int.reduceAdd, Int.reduceSub, Int.reduceNeg]⟩
    | false =>
      rw [hb, Bool.or_false] at htk
      rw [hb] at hst
      simp +contextual only [vq, vc, ve, vv, vn, vl, ↓reduceIte, Nat.reduceEqDiff, Nat.reduceAdd, Nat.reduceMul, Nat.reduceSub, Nat.reduceLeDiff, Nat.reduceLT, Nat.reduceBEq, Nat.reduceBNe, reduceCtorEq, Int.reduceBEq, Int.reduceBNe, Int.reduceLT, Int.reduceLE, Int.reduceEq, Int.reduceToNat, Int.reduceAdd, Int.reduceSub, Int.reduceNeg, B0, B4, B6, hlt, hy1, callR_val hst, wsucc hlt (by omega)]
      exact again2 hJ2 (ll.length - (i + 1)) (by omega) ⟨i + 1, _, rfl, rfl, by omega, by simp +contextual only [vq, vc, ve, vv, vn, vl, ↓reduceIte, Nat.reduceEqDiff, Nat.reduceAdd, Nat.reduceMul, Nat.reduceSub, Nat.reduceLeDiff, Nat.reduceLT, Nat.reduceBEq, Nat.reduceBNe, reduceCtorEq, Int.reduceBEq, Int.reduceBNe, Int.reduceLT, Int.reduceLE, Int.reduceEq, Int.reduceToNat, Int.reduceAdd, Int.reduceSub, Int.reduceNeg, B0, e], by simp +contextual only [vq, vc, ve, vv, vn, vl, ↓reduceIte, Nat.reduceEqDiff, Nat.reduceAdd, Nat.reduceMul, Nat.reduceSub, Nat.reduceLeDiff, Nat.reduceLT, Nat.reduceBEq, Nat.reduceBNe, reduceCtorEq, Int.reduceBEq, Int.reduceBNe, Int.reduceLT, Int.reduceLE, Int.reduceEq, Int.reduceToNat, Int.reduceAdd, Int.reduceSub, Int.reduceNeg, B3], by simp +contextual only [vq, vc, ve, vv, vn, vl, ↓reduceIte, Nat.reduceEqDiff, Nat.reduceAdd, Nat.reduceMul, Nat.reduceSub, Nat.reduceLeDiff, Nat.reduceLT, Nat.reduceBEq, Nat.reduceBNe, reduceCtorEq, Int.reduceBEq, Int.reduceBNe, Int.reduceLT, Int.reduceLE, Int.reduceEq, Int.reduceToNat, Int.reduceAdd, Int.reduceSub, Int.reduceNeg, B4], by simp +contextual only [vq, vc, ve, vv, vn, vl, ↓reduceIte, Nat.reduceEqDiff, Nat.reduceAdd, Nat.reduceMul, Nat.reduceSub, Nat.reduceLeDiff, Nat.reduceLT, Nat.reduceBEq, Nat.reduceBNe, reduceCtorEq, Int.reduceBEq, Int.reduceBNe, Int.reduceLT, Int.reduceLE, Int.reduceEq, Int.reduceToNat, Int.reduceAdd, Int.reduceSub, Int.reduceNeg, B5]; rw [htk], by simp +contextual only [vq, vc, ve, vv, vn, vl, ↓reduceIte, Nat.reduceEqDiff, Nat.reduceAdd, Nat.reduceMul, Nat.reduceSub, Nat.reduceLeDiff, Nat.reduceLT, Nat.reduceBEq, Nat.reduceBNe, reduceCtorEq, Int.reduceBEq, Int.reduceBNe, Int.reduceLT, Int.reduceLE, Int.reduceEq, Int.reduceToNat, Int.reduceAdd, Int.reduceSub, Int.reduceNeg]⟩
  · have : i = ll.length := by omega
    subst this
    rw [List.take_length] at B5
    have hany := allMarks_any (ll := ll) (n := k) (by omega)
    by_cases hkn : k < n
    · rw [hany.2 (h2 k hkn)] at B5
      have w1 : IntKind.u64.wrap ((k : Int) + 1) = ((k + 1 : Nat) : Int) := by rw [wrapu64 (by omega) (by omega)]; omega
      simp +contextual only [vq, vc, ve, vv, vn, vl, ↓reduceIte, Nat.reduceEqDiff, Nat.reduceAdd, Nat.reduceMul, Nat.reduceSub, Nat.reduceLeDiff, Nat.reduceLT, Nat.reduceBEq, Nat.reduceBNe, reduceCtorEq, Int.reduceBEq, Int.reduceBNe, Int.reduceLT, Int.reduceLE, Int.reduceEq, Int.reduceToNat, Int.reduceAdd, Int.reduceSub, Int.reduceNeg, B0, B3, B5, B6, lx, hlt, w1]
      exact again2 hJ (n - (k + 1)) (by omega) ⟨k + 1, _, rfl, rfl, by omega, by simp +contextual only [vq, vc, ve, vv, vn, vl, ↓reduceIte, Nat.reduceEqDiff, Nat.reduceAdd, Nat.reduceMul, Nat.reduceSub, Nat.reduceLeDiff, Nat.reduceLT, Nat.reduceBEq, Nat.reduceBNe, reduceCtorEq, Int.reduceBEq, Int.reduceBNe, Int.reduceLT, Int.reduceLE, Int.reduceEq, Int.reduceToNat, Int.reduceAdd, Int.reduceSub, Int.reduceNeg, B0], by simp +contextual only [vq, vc, ve, vv, vn, vl, ↓reduceIte, Nat.reduceEqDiff, Nat.reduceAdd, Nat.reduceMul, Nat.reduceSub, Nat.reduceLeDiff, Nat.reduceLT, Nat.reduceBEq, Nat.reduceBNe, reduceCtorEq, Int.reduceBEq, Int.reduceBNe, Int.reduceLT, Int.reduceLE, Int.reduceEq, Int.reduceToNat, Int.reduceAdd, Int.reduceSub, Int.reduceNeg]⟩
    · have : k = n := by omega
      subst this
      have hno : ll.any (fun s => inB s (61 :: 95 :: dec k)) = false := by
        cases hq : ll.any (fun s => inB s (61 :: 95 :: dec k)) with
        | false => rfl
        | true => exact absurd (hany.1 hq) h1
      rw [hno] at B5
      simp +contextual only [vq, vc, ve, vv, vn, vl, ↓reduceIte, Nat.reduceEqDiff, Nat.reduceAdd, Nat.reduceMul, Nat.reduceSub, Nat.reduceLeDiff, Nat.reduceLT, Nat.reduceBEq, Nat.reduceBNe, reduceCtorEq, Int.reduceBEq, Int.reduceBNe, Int.reduceLT, Int.reduceLE, Int.reduceEq, Int.reduceToNat, Int.reduceAdd, Int.reduceSub, Int.reduceNeg, B0, B4, B5, B6, lx, hlt, hl0]
end Go.Proofs.YtjlpfijbnflknaaDoor.bounceBounds

namespace Go.Proofs.YtjlpfijbnflknaaDoor.bounceBounds
open Go.Ev hiding Comes
variable [GG]

theorem c_l30_sameParts (m : Mem) (x y : EV) (l r : List (List UInt8)) (hx : ByteRows G m x l) (hy : ByteRows G m y r) (hl : l.length ≤ 1000000000000) (hr : r.length ≤ 1000000000000) :
    Go.Ev.Comes T G f_l30_sameParts [x, y] m none ⟨.val (.bool (l == r)), m, none⟩ := by
  refine comes2 T_l30_sameParts rfl fun M hg hlen hlow => ?_
  have hl0 : m.bl.length ≤ M.low := by omega
  have hx := hx.grown hg
  have hy := hy.grown hg
  obtain ⟨a1, c1, e1, sx⟩ := hx.slice
  obtain ⟨a2, c2, e2, sy⟩ := hy.slice
  have lx : lnbE x = some (.int .i64 l.length) := by rw [sx]; rfl
  have ly : lnbE y = some (.int .i64 r.length) := by rw [sy]; rfl
  simp only [F_l30_sameParts]
  by_cases hlr : l.length = r.length
  · have k0 : ((l.length : Int) != (r.length : Int)) = false := by rw [hlr]; simp
    simp +contextual only [vq, vc, ve, vv, vn, vl, ↓reduceIte, Nat.reduceEqDiff, Nat.reduceAdd, Nat.reduceMul, Nat.reduceSub, Nat.reduceLeDiff, Nat.reduceLT, Nat.reduceBEq, Nat.reduceBNe, reduceCtorEq, Int.reduceBEq, Int.reduceBNe, Int.reduceLT, Int.reduceLE, Int.reduceEq, Int.reduceToNat, Int.reduceAdd, Int.reduceSub, Int.reduceNeg, lx, ly, k0]
    refine loop2 (fun n st => ∃ (i : Nat) (A : Fr), st = ⟨A, M, [], none⟩ ∧ n = l.length - i ∧ i ≤ l.length ∧ A 0 = x ∧ A 1 = y ∧ A 12 = .int .i64 l.length ∧ A 13 = .int .i64 (i : Nat) ∧ l.take i = r.take i) l.length ⟨0, _, rfl, by omega, by omega, by simp +contextual only [vq, vc, ve, vv, vn, vl, ↓reduceIte, Nat.reduceEqDiff, Nat.reduceAdd, Nat.reduceMul, Nat.reduceSub, Nat.reduceLeDiff, Nat.reduceLT, Nat.reduceBEq, Nat.reduceBNe, reduceCtorEq, Int.reduceBEq, Int.reduceBNe, Int.reduceLT, Int.reduceLE, Int.reduceEq, Int.reduceToNat, Int.reduceAdd, Int.reduceSub, Int.reduceNeg], by simp +contextual only [vq, vc, ve, vv, vn, vl, ↓reduceIte, Nat.reduceEqDiff, Nat.reduceAdd, Nat.reduceMul, Nat.reduceSub, Nat.reduceLeDiff, Nat.reduceLT, Nat.reduceBEq, Nat.reduceBNe, reduceCtorEq, Int.reduceBEq, Int.reduceBNe, Int.reduceLT, Int.reduceLE, Int.reduceEq, Int.reduceToNat, Int.reduceAdd, Int.reduceSub, Int.reduceNeg], by simp +contextual only [vq, vc, ve, vv, vn, vl, ↓reduceIte, Nat.reduceEqDiff, Nat.reduceAdd, Nat.reduceMul, Nat.reduceSub, Nat.reduceLeDiff, Nat.reduceLT, Nat.reduceBEq, Nat.reduceBNe, reduceCtorEq, Int.reduceBEq, Int.reduceBNe, Int.reduceLT, Int.reduceLE, Int.reduceEq, Int.reduceToNat, Int.reduceAdd, Int.reduceSub, Int.reduceNeg], by simp +contextual only [vq, vc, ve, vv, vn, vl, ↓reduceIte, Nat.reduceEqDiff, Nat.reduceAdd, Nat.reduceMul, Nat.reduceSub, Nat.reduceLeDiff, Nat.reduceLT, Nat.reduceBEq, Nat.reduceBNe, reduceCtorEq, Int.reduceBEq, Int.reduceBNe, Int.reduceLT, Int.reduceLE, Int.reduceEq, Int.reduceToNat, Int.reduceAdd, Int.reduceSub, Int.reduceNeg]; rfl, rfl⟩ fun J hJ n st hI => ?_
    obtain ⟨i, A, rfl, rfl, hi, A0, A1, A12, A13, ht⟩ := hI
    by_cases hil : i < l.length
    · have hir : i < r.length := by omega
      obtain ⟨a, cap, u, ex, hu1, hu2, hu⟩ := hx.at hil
      obtain ⟨b, capb, w, ey, hw1, hw2, hw⟩ := hy.at hir
      rw [ex] at A0
      rw [ey] at A1
      have tu := (hu.low (k := M.bl.length)).tosF (n0 := M.bl.length) (Nat.le_refl _)
      have tw := (hw.low (k := M.bl.length)).tosF (n0 := M.bl.length) (Nat.le_refl _)
      have htk : (l.take (i + 1) = r.take (i + 1)) ↔ l[i] = r[i] := by
        rw [List.take_succ_eq_append_getElem hil, List.take_succ_eq_append_getElem hir, ht, List.append_right_inj]
        simp only [List.cons.injEq, and_true]
      cases hb : (l[i] == r[i]) with
      | false =>
        have e : (l == r) = false := by
          simp only [beq_eq_false_iff_ne, ne_eq]
          intro h
          subst h
          simp at hb
        simp +contextual only [vq, vc, ve, vv, vn, vl, ↓reduceIte, Nat.reduceEqDiff, Nat.reduceAdd, Nat.reduceMul, Nat.reduceSub, Nat.reduceLeDiff, Nat.reduceLT, Nat.reduceBEq, Nat.reduceBNe, reduceCtorEq, Int.reduceBEq, Int.reduceBNe, Int.reduceLT, Int.reduceLE, Int.reduceEq, Int.reduceToNat, Int.reduceAdd, Int.reduceSub, Int.reduceNeg, A0, A1, A12, A13, hil, hir, hu1, hw1, hu2, hw2, tu, tw, hb, e, hl0]
      | true =>
        have hb' : l[i] = r[i] := by simpa using hb
        simp +contextual only [vq, vc, ve, vv, vn, vl, ↓reduceIte, Nat.reduceEqDiff, Nat.reduceAdd, Nat.reduceMul, Nat.reduceSub, Nat.reduceLeDiff, Nat.reduceLT, Nat.reduceBEq, Nat.reduceBNe, reduceCtorEq, Int.reduceBEq, Int.reduceBNe, Int.reduceLT, Int.reduceLE, Int.reduceEq, Int.reduceToNat, Int.reduceAdd, Int.reduceSub, Int.reduceNeg, A0, A1, A12, A13, hil, hir, hu1, hw1, hu2, hw2, tu, tw, hb, wsucc hil (by omega)]
        exact again2 hJ (l.length - (i + 1)) (by omega) ⟨i + 1, _, rfl, rfl, by omega, by simp +contextual only [vq, vc, ve, vv, vn, vl, ↓reduceIte, Nat.reduceEqDiff, Nat.reduceAdd, Nat.reduceMul, Nat.reduceSub, Nat.reduceLeDiff, Nat.reduceLT, Nat.reduceBEq, Nat.reduceBNe, reduceCtorEq, Int.reduceBEq, Int.reduceBNe, Int.reduceLT, Int.reduceLE, Int.reduceEq, Int.reduceToNat, Int.reduceAdd, Int.reduceSub, Int.reduceNeg, A0, ex], by simp +contextual only [vq, vc, ve, vv, vn, vl, ↓reduceIte, Nat.reduceEqDiff, Nat.reduceAdd, Nat.reduceMul, Nat.reduceSub, Nat.reduceLeDiff, Nat.reduceLT, Nat.reduceBEq, Nat.reduceBNe, reduceCtorEq, Int.reduceBEq, Int.reduceBNe, Int.reduceLT, Int.reduceLE, Int.reduceEq, Int.reduceToNat, Int.reduceAdd, Int.reduceSub, Int.reduceNeg, A1, ey], by simp +contextual only [vq, vc, ve, vv, vn, vl, ↓reduceIte, Nat.reduceEqDiff, Nat.reduceAdd, Nat.reduceMul, Nat.reduceSub, Nat.reduceLeDiff, Nat.reduceLT, Nat.reduceBEq, Nat.reduceBNe, reduceCtorEq, Int.reduceBEq, Int.reduceBNe, Int.reduceLT, Int.reduceLE, Int.reduceEq, Int.reduceToNat, Int.reduceAdd, Int.reduceSub, Int.reduceNeg, A12], by simp +contextual only [vq, vc, ve, vv, vn, vl, ↓reduceIte, Nat.reduceEqDiff, Nat.reduceAdd, Nat.reduceMul, Nat.reduceSub, Nat.reduceLeDiff, Nat.reduceLT, Nat.reduceBEq, Nat.reduceBNe, reduceCtorEq, Int.reduceBEq, Int.reduceBNe, Int.reduceLT, Int.reduceLE, Int.reduceEq, Int.reduceToNat, Int.reduceAdd, Int.reduceSub, Int.reduceNeg], htk.2 hb'⟩
    · have : i = l.length := by omega
      subst this
      have e : (l == r) = true := by
        rw [List.take_length, hlr, List.take_length] at ht
        simp [ht]
      simp +contextual only [vq, vc, ve, vv, vn, vl, ↓reduceIte, Nat.reduceEqDiff, Nat.reduceAdd, Nat.reduceMul, Nat.reduceSub, Nat.reduceLeDiff, Nat.reduceLT, Nat.reduceBEq, Nat.reduceBNe, reduceCtorEq, Int.reduceBEq, Int.reduceBNe, Int.reduceLT, Int.reduceLE, Int.reduceEq, Int.reduceToNat, Int.reduceAdd, Int.reduceSub, Int.reduceNeg, A12, A13, hil, hl0, e]
  · have k0 : ((l.length : Int) != (r.length : Int)) = true := by simp; omega
    have e : (l == r) = false := by
      simp only [beq_eq_false_iff_ne, ne_eq]
      exact fun h => hlr (by rw [h])
    simp +contextual only [vq, vc, ve, vv, vn, vl, ↓reduceIte, Nat.reduceEqDiff, Nat.reduceAdd, Nat.reduceMul, Nat.reduceSub, Nat.reduceLeDiff, Nat.reduceLT, Nat.reduceBEq, Nat.reduceBNe, reduceCtorEq, Int.reduceBEq, Int.reduceBNe, Int.reduceLT, Int.reduceLE, Int.reduceEq, Int.reduceToNat, Int.reduceAdd, Int.reduceSub, Int.reduceNeg, lx, ly, k0, e, hl0]
end Go.Proofs.YtjlpfijbnflknaaDoor.bounceBounds

namespace Go.Proofs.YtjlpfijbnflknaaDoor.bounceBounds
open Go.Ev hiding Comes
variable [GG]

theorem tagB_ok' : TagOk tagB := .inr ⟨tagB / typeK, by decide, rfl⟩
/-- A growing list of private bytes; what may be written besides: its own block and those of S. -/
def PartsOut (n0 : Nat) (S : Nat → Prop) (k : Option Nat) (N : Mem) (v : EV) (ll : List (List UInt8)) : Prop :=
  ∃ xs : List EV, xs.length = ll.length ∧ Priv k 1 0 N v xs ll.length ∧ (∀ j, k = some j → n0 ≤ j) ∧ ∀ (p : Nat) (u : EV) (s : List UInt8), xs[p]? = some u → ll[p]? = some s → Off (fun j => k = some j ∨ S j) (fun M => BytesAt G M u s) N
theorem PartsOut.nil {n0 : Nat} {S : Nat → Prop} {N : Mem} : PartsOut n0 S none N (.slice none 0 0 0) [] := ⟨[], rfl, Priv.nil, (fun _ h => by cases h), fun p u s h => by simp at h⟩
theorem PartsOut.rows {n0 : Nat} {S : Nat → Prop} {k : Option Nat} {N : Mem} {v : EV} {ll : List (List UInt8)} (h : PartsOut n0 S k N v ll) : ByteRows G N v ll := by
  obtain ⟨xs, h1, h2, _, h4⟩ := h
  have e : xs = (xs.map fun x => [x]).flatten := by
    clear h1 h2 h4
    induction xs with
    | nil => rfl
    | cons x xs ih => simpa using ih
  rw [e] at h2
  exact ⟨xs, h1, h2.rows (by simp [h1]) (by simp), fun i x s hx hs => (h4 i x s hx hs).now⟩
/-- Other blocks are written. -/
theorem PartsOut.step {n0 : Nat} {S S' : Nat → Prop} {k : Option Nat} {N N' : Mem} {v : EV} {ll : List (List UInt8)} (h : PartsOut n0 S k N v ll) (hl : N.bl.length ≤ N'.bl.length) (hk : ∀ j, k = some j → N'.bl[j]? = N.bl[j]?) (hj : ∀ j, j < N.bl.length → k ≠ some j → ¬ S j → N'.bl[j]? = N.bl[j]? ∧ ¬ S' j) : PartsOut n0 S' k N' v ll := by
  obtain ⟨xs, h1, h2, h3, h4⟩ := h
  exact ⟨xs, h1, h2.keep hk, h3, fun p u s hu hs => (h4 p u s hu hs).step hl fun j hjl hn => by
    obtain ⟨e1, e2⟩ := hj j hjl (fun h => hn (.inl h)) (fun h => hn (.inr h))
    exact ⟨e1, fun h => h.elim (fun h => hn (.inl h)) e2⟩⟩
theorem PartsOut.slice {n0 : Nat} {S : Nat → Prop} {k : Option Nat} {N : Mem} {v : EV} {ll : List (List UInt8)} (h : PartsOut n0 S k N v ll) : ∃ a c e, v = .slice a ll.length c e := let ⟨_, _, h, _⟩ := h; h.slice
/-- Private bytes are put behind. -/
theorem PartsOut.add {n0 e n tg : Nat} {S : Nat → Prop} {k : Option Nat} {N N1 : Mem} {v u : EV} {ll : List (List UInt8)} {s : List UInt8} (h : PartsOut n0 S k N v ll) (hu : Priv (some e) 1 tg N u (bytesE s) n) (hke : k ≠ some e) (hS : ¬ S e) (hSl : ∀ j, S j → j < N.bl.length) (h1 : N1 = N.push (.cells [u] 0 true)) (h0 : n0 ≤ N.bl.length) (hl : ll.length ≤ 1000000000) :
    ∃ v' N' k', appendE G N1 1 24 0 v [u] 1 = some (v', N') ∧ PartsOut n0 S k' N' v' (ll ++ [s]) ∧ (k' = k ∨ k = none ∧ k' = some N1.bl.length) ∧ (∀ j, j < N.bl.length → k ≠ some j → N'.bl[j]? = N.bl[j]?) ∧ N.bl.length ≤ N'.bl.length ∧ (n0 ≤ N.low → n0 ≤ N'.low) := by
  obtain ⟨xs, x1, x2, x3, x4⟩ := h
  have hg : Grown N N1 := by rw [h1]; exact Grown.rfl'.push
  have l1 : N1.bl.length = N.bl.length + 1 := by rw [h1]; simp [Mem.push]
  have w1 : N1.low = N.low := by rw [h1]; rfl
  obtain ⟨v', N', k', ha, hp, hk, hj, hle, hw⟩ := (x2.grown hg).app (G := G) (bytes := 24) (cnt := 1) (new := [u]) tagOk_0 (by omega) rfl (by omega)
  have hkl := fun j (hj : k = some j) => x2.ltk hj
  have agree : ∀ j, j < N.bl.length → k ≠ some j → N'.bl[j]? = N.bl[j]? := fun j h1 h2 => by
    rw [hj j (by omega) (fun h => h2 h.symm), hg.at h1]
  have kk : ∀ j, j < N.bl.length → k' = some j → k = some j := fun j h1 h2 => by
    rcases hk with h | ⟨_, h⟩
    · rw [← h, h2]
    · rw [h] at h2
      cases h2
      omega
  refine ⟨v', N', k', ha, ⟨xs ++ [u], by simp [x1], by simpa using hp, fun j hj => ?_, fun p w t hw ht => ?_⟩, hk, agree, by omega, fun h => hw n0 (by omega) (by omega) x3⟩
  · rcases hk with h | ⟨_, h⟩
    · exact x3 j (by rw [← h, hj])
    · rw [h] at hj
      cases hj
      omega
  · by_cases hpl : p < xs.length
    · rw [List.getElem?_append_left hpl] at hw
      rw [List.getElem?_append_left (by omega)] at ht
      exact (x4 p w t hw ht).step (by omega) fun j h1 h2 => ⟨agree j h1 fun h => h2 (.inl h), fun h => h.elim (fun h => h2 (.inl (kk j h1 h))) fun h => h2 (.inr h)⟩
    · have hpe : p = xs.length := by
        have := (List.getElem?_eq_some_iff.1 hw).1
        simp at this
        omega
      subst hpe
      rw [List.getElem?_append_right (Nat.le_refl _), Nat.sub_self] at hw
      rw [List.getElem?_append_right (by omega), show xs.length - ll.length = 0 by omega] at ht
      simp at hw ht
      subst hw ht
      exact (hu.off (S := fun j => k = some j ∨ S j) (fun h => h.elim hke hS)).step (by omega) fun j h1 h2 => ⟨agree j h1 fun h => h2 (.inl h), fun h => h.elim (fun h => h2 (.inl (kk j h1 h))) fun h => h2 (.inr h)⟩
/-- A copy of bytes: what stands is put behind an empty literal. -/
theorem copy_lit {N N1 : Mem} {y : EV} {s : List UInt8} (h1 : N1 = N.push (.cells [] 0 true)) (hy : BytesAt G N y s) (hs : s.length ≤ 1000000000000) :
    ∃ u N2, appE G N1 1 1 tagB (.slice (some ⟨.mem N.bl.length 0, 0⟩) 0 0 1) (srcCells G N1 1 y) = some (u, N2) ∧ Priv (some N.bl.length) 1 tagB N2 u (bytesE s) s.length ∧ Grown N N2 ∧ (∀ n0, n0 ≤ N.low → n0 ≤ N.bl.length → n0 ≤ N2.low) := by
  have hg : Grown N N1 := by rw [h1]; exact Grown.rfl'.push
  have l1 : N1.bl.length = N.bl.length + 1 := by rw [h1]; simp [Mem.push]
  have w1 : N1.low = N.low := by rw [h1]; rfl
  obtain ⟨u, N2, k', ha, hp, hk, hj, hle, hw⟩ := (Priv.lit (esz := 1) (tag := tagB) (n := 0) h1 rfl).app (G := G) (bytes := 1) (cnt := s.length) (new := bytesE s) tagB_ok' (by omega) (by simp [bytesE]) (by omega)
  have hk : k' = some N.bl.length := by
    rcases hk with h | ⟨h, _⟩
    · exact h
    · cases h
  subst hk
  rw [List.nil_append, Nat.zero_add] at hp
  refine ⟨u, N2, ?_, hp, grown_of (by omega) fun j h => by rw [hj j (by omega) (fun h => by cases h; omega), hg.at h], fun n0 h h2 => hw n0 (by omega) (by omega) (fun j hj => by cases hj; omega)⟩
  rw [(hy.grown hg).src]
  exact ha
end Go.Proofs.YtjlpfijbnflknaaDoor.bounceBounds

namespace Go.Proofs.YtjlpfijbnflknaaDoor.bounceBounds
open Go.Ev hiding Comes
variable [GG]

theorem sits_byte {N : Nat} {m : Mem} {r : List EV} (h : Sits N m (.int .u8) r) : ∃ b : UInt8, r = [byteE b] ∧ True := by
  obtain ⟨n, rfl, h1, h2⟩ := sits_int h
  have h1 : 0 ≤ n := h1
  have h2 : n ≤ 255 := h2
  refine ⟨UInt8.ofNat n.toNat, ?_, trivial⟩
  have : (UInt8.ofNat n.toNat).toNat = n.toNat := by
    rw [UInt8.toNat_ofNat']
    omega
  unfold byteE
  rw [this, Int.toNat_of_nonneg h1]
/-- A slice of bytes. -/
theorem sits_bytes {N : Nat} {m : Mem} {xs : List EV} (h : Sits N m (.slice (.int .u8)) xs) : ∃ v s, xs = [v] ∧ BytesAt G m v s ∧ s.length ≤ N := by
  obtain ⟨v, rows, rfl, h1, h2, h3⟩ := sits_slice (G := G) h
  obtain ⟨l, rfl, _⟩ := rows_of (fun r hr => sits_byte (h3 r hr))
  have e : (l.map fun b => [byteE b]) = (bytesE l).map fun x => [x] := by simp [bytesE]
  rw [e] at h1
  exact ⟨v, l, rfl, lent_bytesAt (n0 := 0) (n1 := 0) (mark := []) h1, by simpa using h2⟩
/-- A slice of slices of bytes. -/
theorem sits_byteRows {N : Nat} {m : Mem} {xs : List EV} (h : Sits N m (.slice (.slice (.int .u8))) xs) : ∃ v ll, xs = [v] ∧ ByteRows G m v ll ∧ ll.length ≤ N ∧ ∀ s ∈ ll, s.length ≤ N := by
  obtain ⟨v, rows, rfl, h1, h2, h3⟩ := sits_slice (G := G) h
  obtain ⟨l, rfl, h4⟩ := rows_of (α := EV × List UInt8) (f := fun p => [p.1]) (Q := fun p => BytesAt G m p.1 p.2 ∧ p.2.length ≤ N) (fun r hr => by
    obtain ⟨v, s, rfl, h5, h6⟩ := sits_bytes (h3 r hr)
    exact ⟨(v, s), rfl, h5, h6⟩)
  refine ⟨v, l.map (·.2), rfl, ⟨l.map (·.1), by simp, ?_, fun i x s hx hs => ?_⟩, by simpa using h2, fun s hs => ?_⟩
  · rw [List.map_map]
    exact h1
  · rw [List.getElem?_map, Option.map_eq_some_iff] at hx hs
    obtain ⟨p, hp, rfl⟩ := hx
    obtain ⟨q, hq, rfl⟩ := hs
    rw [hp] at hq
    cases hq
    exact (h4 p (List.mem_of_getElem? hp)).1
  · obtain ⟨p, hp, rfl⟩ := List.mem_map.1 hs
    exact (h4 p hp).2
end Go.Proofs.YtjlpfijbnflknaaDoor.bounceBounds

namespace Go.Proofs.YtjlpfijbnflknaaDoor.bounceBounds
open Go.Ev hiding Comes
variable [GG]

theorem law (m : Mem) (x : EV) (ll : List (List UInt8)) (hx : ByteRows G m x ll) (hl : ll.length ≤ 2000000) (hs : ∀ s ∈ ll, s.length ≤ 2000000) :
    Go.Ev.Comes T G f_l30_BounceBounds [x] m none ⟨.val (.bool true), m, none⟩ := by
  refine comes2 T_l30_BounceBounds rfl fun M hg hlen hlow => ?_
  have hl0 : m.bl.length ≤ M.low := by omega
  have hx := hx.grown hg
  obtain ⟨a0, c0, e0, sx⟩ := hx.slice
  have lx : lnbE x = some (.int .i64 ll.length) := by rw [sx]; rfl
  simp only [F_l30_BounceBounds]
  simp +contextual only [vq, vc, ve, vv, vn, vl, ↓reduceIte, Nat.reduceEqDiff, Nat.reduceAdd, Nat.reduceMul, Nat.reduceSub, Nat.reduceLeDiff, Nat.reduceLT, Nat.reduceBEq, Nat.reduceBNe, reduceCtorEq, Int.reduceBEq, Int.reduceBNe, Int.reduceLT, Int.reduceLE, Int.reduceEq, Int.reduceToNat, Int.reduceAdd, Int.reduceSub, Int.reduceNeg, lx]
  refine loop2 (fun q st => ∃ (i : Nat) (A : Fr) (N : Mem) (v : EV) (k : Option Nat), st = ⟨A, N, [], none⟩ ∧ q = ll.length - i ∧ i ≤ ll.length ∧ A 0 = x ∧ A 3 = v ∧ A 6 = x ∧ A 7 = .int .i64 ll.length ∧ A 8 = .int .i64 (i : Nat) ∧ Grown M N ∧ m.bl.length ≤ N.low ∧ PartsOut m.bl.length (fun _ => False) k N v (ll.take i)) ll.length ⟨0, _, M, _, none, rfl, by omega, by omega, by simp +contextual only [vq, vc, ve, vv, vn, vl, ↓reduceIte, Nat.reduceEqDiff, Nat.reduceAdd, Nat.reduceMul, Nat.reduceSub, Nat.reduceLeDiff, Nat.reduceLT, Nat.reduceBEq, Nat.reduceBNe, reduceCtorEq, Int.reduceBEq, Int.reduceBNe, Int.reduceLT, Int.reduceLE, Int.reduceEq, Int.reduceToNat, Int.reduceAdd, Int.reduceSub, Int.reduceNeg], by simp +contextual only [vq, vc, ve, vv, vn, vl, ↓reduceIte, Nat.reduceEqDiff, Nat.reduceAdd, Nat.reduceMul, Nat.reduceSub, Nat.reduceLeDiff, Nat.reduceLT, Nat.reduceBEq, Nat.reduceBNe, reduceCtorEq, Int.reduceBEq, Int.reduceBNe, Int.reduceLT, Int.reduceLE, Int.reduceEq, Int.reduceToNat, Int.reduceAdd, Int.reduceSub, Int.reduceNeg], by simp +contextual only [vq, vc, ve, vv, vn, vl, ↓reduceIte, Nat.reduceEqDiff, Nat.reduceAdd, Nat.reduceMul, Nat.reduceSub, Nat.reduceLeDiff, Nat.reduceLT, Nat.reduceBEq, Nat.reduceBNe, reduceCtorEq, Int.reduceBEq, Int.reduceBNe, Int.reduceLT, Int.reduceLE, Int.reduceEq, Int.reduceToNat, Int.reduceAdd, Int.reduceSub, Int.reduceNeg], by simp +contextual only [vq, vc, ve, vv, vn, vl, ↓reduceIte, Nat.reduceEqDiff, Nat.reduceAdd, Nat.reduceMul, Nat.reduceSub, Nat.reduceLeDiff, Nat.reduceLT, Nat.reduceBEq, Nat.reduceBNe, reduceCtorEq, Int.reduceBEq, Int.reduceBNe, Int.reduceLT, Int.reduceLE, Int.reduceEq, Int.reduceToNat, Int.reduceAdd, Int.reduceSub, Int.reduceNeg], by simp +contextual only [vq, vc, ve, vv, vn, vl, ↓reduceIte, Nat.reduceEqDiff, Nat.reduceAdd, Nat.reduceMul, Nat.reduceSub, Nat.reduceLeDiff, Nat.reduceLT, Nat.reduceBEq, Nat.reduceBNe, reduceCtorEq, Int.reduceBEq, Int.reduceBNe, Int.reduceLT, Int.reduceLE, Int.reduceEq, Int.reduceToNat, Int.reduceAdd, Int.reduceSub, Int.reduceNeg]; rfl, Grown.rfl', hl0, PartsOut.nil⟩ fun J hJ q st hI => ?_
  obtain ⟨i, A, N, v, k, rfl, rfl, hi, A0, A3, A6, A7, A8, hgN, hlN, hout⟩ := hI
  by_cases hlt : i < ll.length
  · obtain ⟨a, cap, y, e, hy1, hy2, hy⟩ := (hx.grown hgN).at hlt
    have hsi := hs _ (List.getElem_mem hlt)
    rw [e] at A6
    simp +contextual only [vq, vc, ve, vv, vn, vl, ↓reduceIte, Nat.reduceEqDiff, Nat.reduceAdd, Nat.reduceMul, Nat.reduceSub, Nat.reduceLeDiff, Nat.reduceLT, Nat.reduceBEq, Nat.reduceBNe, reduceCtorEq, Int.reduceBEq, Int.reduceBNe, Int.reduceLT, Int.reduceLE, Int.reduceEq, Int.reduceToNat, Int.reduceAdd, Int.reduceSub, Int.reduceNeg, A3, A6, A7, A8, hlt, hy1]
    refine new_mk fun N1 n1 => ?_
    obtain ⟨u, N2, ha, hu, hg2, hw2⟩ := copy_lit n1 hy (by omega)
    obtain ⟨ua, uc, ue, su⟩ := hu.slice
    rw [su] at ha hu
    simp +contextual only [vq, vc, ve, vv, vn, vl, ↓reduceIte, Nat.reduceEqDiff, Nat.reduceAdd, Nat.reduceMul, Nat.reduceSub, Nat.reduceLeDiff, Nat.reduceLT, Nat.reduceBEq, Nat.reduceBNe, reduceCtorEq, Int.reduceBEq, Int.reduceBNe, Int.reduceLT, Int.reduceLE, Int.reduceEq, Int.reduceToNat, Int.reduceAdd, Int.reduceSub, Int.reduceNeg, ha]
    refine new_mk fun N3 n3 => ?_
    have hkl : ∀ j, k = some j → j < N.bl.length := fun j hj => let ⟨_, _, h, _⟩ := hout; h.ltk hj
    have ho2 := hout.step (N' := N2) (S' := fun _ => False) hg2.le (fun j hj => hg2.at (hkl j hj)) fun j h1 h2 h3 => ⟨hg2.at h1, h3⟩
    have hle := hgN.le
    have hle2 := hg2.le
    obtain ⟨v', N4, k', hb, ho4, hk, hag, hle4, hw4⟩ := ho2.add hu (fun h => by have := hkl _ h; omega) (fun h => h) (fun j h => h.elim) n3 (by omega) (by simp; omega)
    have hR3 : RowIs N3 N2.bl.length [.slice ua ll[i].length uc ue] := by rw [n3]; exact row_push _ _
    have hlo2 := hw2 m.bl.length hlN (by omega)
    have g4 : Grown M N4 := grown_of (by omega) fun j hj => by
      rw [hag j (by omega) fun h => by have : m.bl.length ≤ j := (let ⟨_, _, _, h3, _⟩ := hout; h3 j h); omega, hg2.at (by omega), hgN.at hj]
    rw [← List.take_succ_eq_append_getElem hlt] at ho4
    simp +contextual only [vq, vc, ve, vv, vn, vl, ↓reduceIte, Nat.reduceEqDiff, Nat.reduceAdd, Nat.reduceMul, Nat.reduceSub, Nat.reduceLeDiff, Nat.reduceLT, Nat.reduceBEq, Nat.reduceBNe, reduceCtorEq, Int.reduceBEq, Int.reduceBNe, Int.reduceLT, Int.reduceLE, Int.reduceEq, Int.reduceToNat, Int.reduceAdd, Int.reduceSub, Int.reduceNeg, hR3.getN (G := G), hb, A8, wsucc hlt (by omega)]
    exact again2 hJ (ll.length - (i + 1)) (by omega) ⟨i + 1, _, N4, v', k', rfl, rfl, by omega, by simp +contextual only [vq, vc, ve, vv, vn, vl, ↓reduceIte, Nat.reduceEqDiff, Nat.reduceAdd, Nat.reduceMul, Nat.reduceSub, Nat.reduceLeDiff, Nat.reduceLT, Nat.reduceBEq, Nat.reduceBNe, reduceCtorEq, Int.reduceBEq, Int.reduceBNe, Int.reduceLT, Int.reduceLE, Int.reduceEq, Int.reduceToNat, Int.reduceAdd, Int.reduceSub, Int.reduceNeg, A0], by simp +contextual only [vq, vc, ve, vv, vn, vl, ↓reduceIte, Nat.reduceEqDiff, Nat.reduceAdd, Nat.reduceMul, Nat.reduceSub, Nat.reduceLeDiff, Nat.reduceLT, Nat.reduceBEq, Nat.reduceBNe, reduceCtorEq, Int.reduceBEq, Int.reduceBNe, Int.reduceLT, Int.reduceLE, Int.reduceEq, Int.reduceToNat, Int.reduceAdd, Int.reduceSub, Int.reduceNeg], by simp +contextual only [vq, vc, ve, vv, vn, vl, ↓reduceIte, Nat.reduceEqDiff, Nat.reduceAdd, Nat.reduceMul, Nat.reduceSub, Nat.reduceLeDiff, Nat.reduceLT, Nat.reduceBEq, Nat.reduceBNe, reduceCtorEq, Int.reduceBEq, Int.reduceBNe, Int.reduceLT, Int.reduceLE, Int.reduceEq, Int.reduceToNat, Int.reduceAdd, Int.reduceSub, Int.reduceNeg, A6, e], by simp +contextual only [vq, vc, ve, vv, vn, vl, ↓reduceIte, Nat.reduceEqDiff, Nat.reduceAdd, Nat.reduceMul, Nat.reduceSub, Nat.reduceLeDiff, Nat.reduceLT, Nat.reduceBEq, Nat.reduceBNe, reduceCtorEq, Int.reduceBEq, Int.reduceBNe, Int.reduceLT, Int.reduceLE, Int.reduceEq, Int.reduceToNat, Int.reduceAdd, Int.reduceSub, Int.reduceNeg, A7], by simp +contextual only [vq, vc, ve, vv, vn, vl, ↓reduceIte, Nat.reduceEqDiff, Nat.reduceAdd, Nat.reduceMul, Nat.reduceSub, Nat.reduceLeDiff, Nat.reduceLT, Nat.reduceBEq, Nat.reduceBNe, reduceCtorEq, Int.reduceBEq, Int.reduceBNe, Int.reduceLT, Int.reduceLE, Int.reduceEq, Int.reduceToNat, Int.reduceAdd, Int.reduceSub, Int.reduceNeg], g4, hw4 hlo2, ho4⟩
  · have : i = ll.length := by omega
    subst this
    rw [List.take_length] at hout
    have hrow := hout.rows
    have hL := allMarks_len hs
    obtain ⟨n, hn, h1, h2⟩ := least (allMarks ll)
    have hB1 := c_bounce_Boundary N v ll hrow hl hs n h1 h2
    have hB2 := c_r30_Boundary N x ll (hx.grown hgN) hl hs n h1 h2
    have hS := c_l30_sameParts N v x ll ll hrow (hx.grown hgN) (by omega) (by omega)
    have hH := c_l30_head N
    simp +contextual only [vq, vc, ve, vv, vn, vl, ↓reduceIte, Nat.reduceEqDiff, Nat.reduceAdd, Nat.reduceMul, Nat.reduceSub, Nat.reduceLeDiff, Nat.reduceLT, Nat.reduceBEq, Nat.reduceBNe, reduceCtorEq, Int.reduceBEq, Int.reduceBNe, Int.reduceLT, Int.reduceLE, Int.reduceEq, Int.reduceToNat, Int.reduceAdd, Int.reduceSub, Int.reduceNeg, A0, A3, A7, A8, hlt, callR_val hB1, callR_val hB2, callR_val hS, callR_val hH, hlN]
theorem lawAll (m : Mem) (xs : List EV) (hro : RO m) (hs : SitArgs 1048576 m [.slice (.slice (.int .u8))] xs) : ∃ m' p', Go.Ev.Comes T G f_l30_BounceBounds xs m none ⟨.val (.bool true), m', p'⟩ := by
  obtain ⟨ys, r, rfl, h1, _, rfl⟩ := hs
  obtain ⟨v, ll, rfl, hp, hl, hb⟩ := sits_byteRows h1
  exact ⟨m, none, law m v ll hp (by omega) (fun s hs => by have := hb s hs; omega)⟩
end Go.Proofs.YtjlpfijbnflknaaDoor.bounceBounds
