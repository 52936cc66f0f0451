/- A part of the proof of the statement that this claim hands in: what single functions come to. There are no conditions. -/
import Derived.Test.YtmjoaiccbghijaaGreatDoorAgFuns
import Derived.Test.YtmjoaiccbghijaaGreatDoorXEv29
set_option linter.unusedVariables false
set_option linter.unusedSimpArgs false
set_option linter.unusedSectionVars false
namespace Go.Proofs.YtmjoaiccbghijaaGreatDoor.paramAgain
open Go.Ev hiding Comes
/-- The table of octet: class, first byte, last byte. -/
def tab : List (Int × Nat × Nat) := [(1, 65, 90), (1, 97, 122), (2, 48, 57), (3, 65, 90), (3, 97, 122), (3, 48, 57), (4, 48, 57), (4, 65, 70), (4, 97, 102), (5, 33, 33), (5, 35, 39), (5, 42, 43), (5, 45, 45), (5, 47, 47), (5, 61, 61), (5, 63, 63), (5, 94, 96), (5, 123, 126), (6, 32, 33), (6, 35, 91), (6, 93, 126), (7, 33, 90), (7, 94, 126), (8, 33, 60), (8, 62, 126), (9, 33, 42), (9, 44, 60), (9, 62, 126), (10, 45, 45), (11, 33, 57), (11, 59, 126), (12, 9, 9), (12, 32, 126), (13, 0, 127), (14, 128, 255)]
def tabCells (x : Int × Nat × Nat) : List EV := [.int .i64 x.1, .int .u8 (x.2.1 : Nat), .int .u8 (x.2.2 : Nat)]
def tabRow : List EV := (tab.map tabCells).flatten
/-- What the package-level variables hold that are read: the table of octet. -/
class GG where
  g : Globs
  tab : g g_octet_stretches = some tabRow
def G [GG] : Globs := GG.g
theorem g_tab [GG] : G g_octet_stretches = some tabRow := GG.tab
def tabG : Globs := fun g => if g = g_octet_stretches then some tabRow else none
instance tabGG : GG := ⟨tabG, if_pos rfl⟩
end Go.Proofs.YtmjoaiccbghijaaGreatDoor.paramAgain

namespace Go.Proofs.YtmjoaiccbghijaaGreatDoor.paramAgain
open Go.Ev hiding Comes

def hit (c : Int) (b : Nat) (x : Int × Nat × Nat) : Bool := (x.1 == c) && (decide (x.2.1 ≤ b) && decide (b ≤ x.2.2))
def isT (c : Int) (b : Nat) : Bool := tab.any (hit c b)
/-- Is a byte of a class? -/
def isF (c : Int) (b : Nat) : Bool := isT c b || ((c == 5 || c == 10) && isT 3 b)
/-- How many bytes at the beginning are of a class. -/
def sp (c : Int) (s : List UInt8) : Nat := (s.takeWhile fun b => isF c b.toNat).length
theorem sp_le (c : Int) (s : List UInt8) : sp c s ≤ s.length := tw_le s
/-- A byte as a capital. -/
def up (b : UInt8) : UInt8 := if 97 ≤ b.toNat ∧ b.toNat ≤ 122 then b - 32 else b
def upS (s : List UInt8) : List UInt8 := s.map up
/-- The same but for capitals. -/
def sameU (a b : List UInt8) : Bool := upS a == upS b
end Go.Proofs.YtmjoaiccbghijaaGreatDoor.paramAgain

namespace Go.Proofs.YtmjoaiccbghijaaGreatDoor.paramAgain
open Go.Ev hiding Comes

theorem findByte_neg {s : List UInt8} {c : UInt8} (h : findByte s c < 0) : ∀ b ∈ s, b ≠ c := by
  unfold findByte at h
  split at h
  · omega
  · rename_i hn
    intro b hb e
    have := List.findIdx?_eq_none_iff.1 hn b hb
    simp [e] at this
theorem findByte_pos {s : List UInt8} {c : UInt8} (h : ¬ findByte s c < 0) : ∃ k : Nat, findByte s c = k ∧ k < s.length ∧ s[k]? = some c ∧ ∀ j, j < k → s[j]? ≠ some c := by
  unfold findByte at h ⊢
  split at h
  · rename_i k hk
    obtain ⟨h1, h2, h3⟩ := List.findIdx?_eq_some_iff_getElem.1 hk
    refine ⟨k, rfl, h1, by rw [List.getElem?_eq_getElem h1]; simpa using h2, fun j hj e => ?_⟩
    have hjl : j < s.length := by omega
    rw [List.getElem?_eq_getElem hjl] at e
    have := h3 j hj
    simp at e this
    exact this e
  · omega
end Go.Proofs.YtmjoaiccbghijaaGreatDoor.paramAgain

namespace Go.Proofs.YtmjoaiccbghijaaGreatDoor.paramAgain
open Go.Ev hiding Comes
variable [GG]

theorem c_bytealg_IndexByteString (m : Mem) (s : List UInt8) (c : UInt8) : Go.Ev.Comes T G f_bytealg_IndexByteString [.str s, .int .u8 c.toNat] m none ⟨.val (.int .i64 (findByte s c)), m, none⟩ :=
  ⟨1, by have := c.toNat_lt; simp [evFun, T_bytealg_IndexByteString, F_bytealg_IndexByteString, primE, ibsE, UInt8.ofNat_toNat]; omega⟩
theorem c_stringslite_IndexByte (m : Mem) (s : List UInt8) (c : UInt8) : Go.Ev.Comes T G f_stringslite_IndexByte [.str s, .int .u8 c.toNat] m none ⟨.val (.int .i64 (findByte s c)), m, none⟩ := by
  refine comes2 T_stringslite_IndexByte rfl fun M hg hlen hlow => ?_
  have hl : m.bl.length ≤ M.low := by omega
  simp only [F_stringslite_IndexByte]
  simp +contextual only [vq, vc, ve, vv, vn, vl, ↓reduceIte, Nat.reduceEqDiff, Nat.reduceAdd, Nat.reduceMul, Nat.reduceSub, Nat.reduceLeDiff, Nat.reduceLT, Nat.reduceBEq, Nat.reduceBNe, reduceCtorEq, Int.reduceBEq, Int.reduceBNe, Int.reduceLT, Int.reduceLE, Int.reduceEq, Int.reduceToNat, Int.reduceAdd, Int.reduceSub, Int.reduceNeg, callR_val (c_bytealg_IndexByteString M s c), hl]
theorem c_stringslite_Index1 (m : Mem) (s : List UInt8) (c : UInt8) : Go.Ev.Comes T G f_stringslite_Index [.str s, .str [c]] m none ⟨.val (.int .i64 (findByte s c)), m, none⟩ := by
  refine comes2 T_stringslite_Index rfl fun M hg hlen hlow => ?_
  have hl : m.bl.length ≤ M.low := by omega
  simp only [F_stringslite_Index]
  cases hq : ([c] == s) with
  | true =>
    have h0 : findByte s c = 0 := by
      have : [c] = s := by simpa using hq
      subst this
      simp [findByte]
    simp +contextual only [vq, vc, ve, vv, vn, vl, ↓reduceIte, Nat.reduceEqDiff, Nat.reduceAdd, Nat.reduceMul, Nat.reduceSub, Nat.reduceLeDiff, Nat.reduceLT, Nat.reduceBEq, Nat.reduceBNe, reduceCtorEq, Int.reduceBEq, Int.reduceBNe, Int.reduceLT, Int.reduceLE, Int.reduceEq, Int.reduceToNat, Int.reduceAdd, Int.reduceSub, Int.reduceNeg, hl, hq, h0]
  | false =>
    have k1 : (((1 : Nat) : Int) == 1) = true := rfl
    simp +contextual only [vq, vc, ve, vv, vn, vl, ↓reduceIte, Nat.reduceEqDiff, Nat.reduceAdd, Nat.reduceMul, Nat.reduceSub, Nat.reduceLeDiff, Nat.reduceLT, Nat.reduceBEq, Nat.reduceBNe, reduceCtorEq, Int.reduceBEq, Int.reduceBNe, Int.reduceLT, Int.reduceLE, Int.reduceEq, Int.reduceToNat, Int.reduceAdd, Int.reduceSub, Int.reduceNeg, callR_val (c_stringslite_IndexByte M s c), hl, hq, k1]
end Go.Proofs.YtmjoaiccbghijaaGreatDoor.paramAgain

namespace Go.Proofs.YtmjoaiccbghijaaGreatDoor.paramAgain
open Go.Ev hiding Comes
variable [GG]

/-- How far it is to a space. -/
def til (s : List UInt8) : Nat := (s.takeWhile (· != 32)).length
theorem til_le (s : List UInt8) : til s ≤ s.length := tw_le s
theorem til_find (s : List UInt8) : (findByte s 32 < 0 ∧ til s = s.length) ∨ ∃ k : Nat, findByte s 32 = k ∧ k < s.length ∧ til s = k := by
  by_cases h : findByte s 32 < 0
  · refine .inl ⟨h, tw_end fun x hx => ?_⟩
    have := findByte_neg h x hx
    simpa using this
  · obtain ⟨k, h1, h2, h3, h4⟩ := findByte_pos h
    refine .inr ⟨k, h1, h2, tw_at (p := (· != 32)) (fun x hx => ?_) h3 rfl⟩
    obtain ⟨j, hj⟩ := List.getElem?_of_mem hx
    have hjk : j < k := by
      have := (List.getElem?_eq_some_iff.1 hj).1
      simp at this
      omega
    rw [List.getElem?_take_of_lt hjk] at hj
    have := h4 j hjk
    rw [hj] at this
    simpa using this
theorem c_stringslite_Cut1 (m : Mem) (s : List UInt8) (hs : s.length ≤ 1000000000000) : ∃ r b, Go.Ev.Comes T G f_stringslite_Cut [.str s, .str [32]] m none ⟨.val (.tuple [.str (s.take (til s)), .str r, .bool b]), m, none⟩ := by
  rcases til_find s with ⟨h, ht⟩ | ⟨k, h, hk, ht⟩
  · refine ⟨[], false, comes2 T_stringslite_Cut rfl fun M hg hlen hlow => ?_⟩
    have hl : m.bl.length ≤ M.low := by omega
    have hI := c_stringslite_Index1 M s 32
    have k1 : ¬ 0 ≤ findByte s 32 := by omega
    rw [ht, List.take_length]
    simp only [F_stringslite_Cut]
    simp +contextual only [vq, vc, ve, vv, vn, vl, ↓reduceIte, Nat.reduceEqDiff, Nat.reduceAdd, Nat.reduceMul, Nat.reduceSub, Nat.reduceLeDiff, Nat.reduceLT, Nat.reduceBEq, Nat.reduceBNe, reduceCtorEq, Int.reduceBEq, Int.reduceBNe, Int.reduceLT, Int.reduceLE, Int.reduceEq, Int.reduceToNat, Int.reduceAdd, Int.reduceSub, Int.reduceNeg, callR_val hI, k1, hl]
  · refine ⟨s.drop (k + 1), true, comes2 T_stringslite_Cut rfl fun M hg hlen hlow => ?_⟩
    have hl : m.bl.length ≤ M.low := by omega
    have hI := c_stringslite_Index1 M s 32
    rw [h] at hI
    have k2 : k ≤ s.length := by omega
    have k3 : k + 1 ≤ s.length := by omega
    rw [ht]
    simp only [F_stringslite_Cut]
    have wk : IntKind.i64.wrap ((k : Int) + ((1 : Nat) : Int)) = ((k + 1 : Nat) : Int) := wrap_of (by omega) (by omega)
    simp +contextual only [vq, vc, ve, vv, vn, vl, ↓reduceIte, Nat.reduceEqDiff, Nat.reduceAdd, Nat.reduceMul, Nat.reduceSub, Nat.reduceLeDiff, Nat.reduceLT, Nat.reduceBEq, Nat.reduceBNe, reduceCtorEq, Int.reduceBEq, Int.reduceBNe, Int.reduceLT, Int.reduceLE, Int.reduceEq, Int.reduceToNat, Int.reduceAdd, Int.reduceSub, Int.reduceNeg, callR_val hI, k2, k3, wk, hl]
theorem c_strings_Cut1 (m : Mem) (s : List UInt8) (hs : s.length ≤ 1000000000000) : ∃ r b, Go.Ev.Comes T G f_strings_Cut [.str s, .str [32]] m none ⟨.val (.tuple [.str (s.take (til s)), .str r, .bool b]), m, none⟩ := by
  obtain ⟨r, b, h⟩ := c_stringslite_Cut1 ⟨m.bl, m.bl.length⟩ s hs
  refine ⟨r, b, comes2 T_strings_Cut rfl fun M hg hlen hlow => ?_⟩
  have hl : m.bl.length ≤ M.low := by omega
  have hM : M = ⟨m.bl, m.bl.length⟩ := by
    have := begin_bl hg hlen
    cases M
    simp only at this hlow
    rw [this, hlow]
  simp only [F_strings_Cut]
  rw [hM]
  simp +contextual only [vq, vc, ve, vv, vn, vl, ↓reduceIte, Nat.reduceEqDiff, Nat.reduceAdd, Nat.reduceMul, Nat.reduceSub, Nat.reduceLeDiff, Nat.reduceLT, Nat.reduceBEq, Nat.reduceBNe, reduceCtorEq, Int.reduceBEq, Int.reduceBNe, Int.reduceLT, Int.reduceLE, Int.reduceEq, Int.reduceToNat, Int.reduceAdd, Int.reduceSub, Int.reduceNeg, callR_val h]
end Go.Proofs.YtmjoaiccbghijaaGreatDoor.paramAgain

namespace Go.Proofs.YtmjoaiccbghijaaGreatDoor.paramAgain
open Go.Ev hiding Comes
variable [GG]

theorem flat_get {esz : Nat} : ∀ {cs : List (List EV)} {i : Nat} {r : List EV}, (∀ c ∈ cs, c.length = esz) → cs[i]? = some r → Sub cs.flatten (i * esz) esz r
  | [], _, _, _, h => by simp at h
  | c :: cs, 0, r, hl, h => by
    simp at h
    subst h
    have := hl c (List.mem_cons_self ..)
    rw [Nat.zero_mul]
    exact sub_here this
  | c :: cs, i + 1, r, hl, h => by
    have h1 := hl c (List.mem_cons_self ..)
    have := flat_get (cs := cs) (fun c hc => hl c (List.mem_cons_of_mem _ hc)) (by simpa using h)
    rw [Nat.succ_mul, Nat.add_comm]
    exact sub_skip h1 this

theorem tab_get {N : Mem} {i : Nat} (hi : i < 35) : N.getN G ⟨.glob g_octet_stretches, i * 3⟩ 3 = some (tabCells (tab[i]'hi)) := by
  have h : Sub tabRow (i * 3) 3 (tabCells (tab[i]'hi)) := flat_get (by
    intro c hc
    obtain ⟨x, _, rfl⟩ := List.mem_map.1 hc
    rfl) (by rw [List.getElem?_map, List.getElem?_eq_getElem (show i < tab.length from hi)]; rfl)
  obtain ⟨h1, h2⟩ := h
  unfold Mem.getN
  rw [if_neg (by omega)]
  have hr : N.row G (.glob g_octet_stretches) = some tabRow := g_tab
  simp only [hr, Option.bind_some, if_pos h1, h2]

theorem octet_Is_of (m : Mem) (c : Int) (b : Nat) (h3 : (c == 5 || c == 10) = true → ∀ m, Go.Ev.Comes T G f_octet_Is [.int .i64 3, .int .u8 (b : Nat)] m none ⟨.val (.bool (isT 3 b)), m, none⟩) :
    Go.Ev.Comes T G f_octet_Is [.int .i64 c, .int .u8 (b : Nat)] m none ⟨.val (.bool (isF c b)), m, none⟩ := by
  refine comes2 T_octet_Is rfl fun M hg hlen hlow => ?_
  simp only [F_octet_Is]
  simp +contextual only [vq, vc, ve, vv, vn, vl, ↓reduceIte, Nat.reduceEqDiff, Nat.reduceAdd, Nat.reduceMul, Nat.reduceSub, Nat.reduceLeDiff, Nat.reduceLT, Nat.reduceBEq, Nat.reduceBNe, reduceCtorEq, Int.reduceBEq, Int.reduceBNe, Int.reduceLT, Int.reduceLE, Int.reduceEq, Int.reduceToNat, Int.reduceAdd, Int.reduceSub, Int.reduceNeg]
  refine loop2 (fun n st => ∃ i A N, st = ⟨A, N, [], none⟩ ∧ Grown M N ∧ m.bl.length ≤ N.low ∧ n = 35 - i ∧ i ≤ 35 ∧ A 0 = .int .i64 c ∧ A 1 = .int .u8 (b : Nat) ∧ A 7 = .int .i64 (i : Nat) ∧ (tab.take i).any (hit c b) = false) 35 ⟨0, _, _, rfl, Grown.rfl', by omega, by omega, by omega, by simp +contextual only [vq, vc, ve, vv, vn, vl, ↓reduceIte, Nat.reduceEqDiff, Nat.reduceAdd, Nat.reduceMul, Nat.reduceSub, Nat.reduceLeDiff, Nat.reduceLT, Nat.reduceBEq, Nat.reduceBNe, reduceCtorEq, Int.reduceBEq, Int.reduceBNe, Int.reduceLT, Int.reduceLE, Int.reduceEq, Int.reduceToNat, Int.reduceAdd, Int.reduceSub, Int.reduceNeg], by simp +contextual only [vq, vc, ve, vv, vn, vl, ↓reduceIte, Nat.reduceEqDiff, Nat.reduceAdd, Nat.reduceMul, Nat.reduceSub, Nat.reduceLeDiff, Nat.reduceLT, Nat.reduceBEq, Nat.reduceBNe, reduceCtorEq, Int.reduceBEq, Int.reduceBNe, Int.reduceLT, Int.reduceLE, Int.reduceEq, Int.reduceToNat, Int.reduceAdd, Int.reduceSub, Int.reduceNeg], by simp +contextual only [vq, vc, ve, vv, vn, vl, ↓reduceIte, Nat.reduceEqDiff, Nat.reduceAdd, Nat.reduceMul, Nat.reduceSub, Nat.reduceLeDiff, Nat.reduceLT, Nat.reduceBEq, Nat.reduceBNe, reduceCtorEq, Int.reduceBEq, Int.reduceBNe, Int.reduceLT, Int.reduceLE, Int.reduceEq, Int.reduceToNat, Int.reduceAdd, Int.reduceSub, Int.reduceNeg]; rfl, rfl⟩ fun J hJ n st hI => ?_
  obtain ⟨i, A, N, rfl, gN, lN, rfl, hi, A0, A1, A7, hno⟩ := hI
  have e35 : ((i : Int) < 35) = (i < 35) := propext ⟨fun h => by omega, fun h => by omega⟩
  simp +contextual only [vq, vc, ve, vv, vn, vl, ↓reduceIte, Nat.reduceEqDiff, Nat.reduceAdd, Nat.reduceMul, Nat.reduceSub, Nat.reduceLeDiff, Nat.reduceLT, Nat.reduceBEq, Nat.reduceBNe, reduceCtorEq, Int.reduceBEq, Int.reduceBNe, Int.reduceLT, Int.reduceLE, Int.reduceEq, Int.reduceToNat, Int.reduceAdd, Int.reduceSub, Int.reduceNeg, A7, e35]
  refine br2_dec (fun hlt => ?_) (fun hge => ?_)
  · have e35' : ((i : Int) < ((35 : Nat) : Int)) = True := eq_true (by omega)
    simp +contextual only [vq, vc, ve, vv, vn, vl, ↓reduceIte, Nat.reduceEqDiff, Nat.reduceAdd, Nat.reduceMul, Nat.reduceSub, Nat.reduceLeDiff, Nat.reduceLT, Nat.reduceBEq, Nat.reduceBNe, reduceCtorEq, Int.reduceBEq, Int.reduceBNe, Int.reduceLT, Int.reduceLE, Int.reduceEq, Int.reduceToNat, Int.reduceAdd, Int.reduceSub, Int.reduceNeg, A7, e35', tab_get hlt, tabCells]
    refine new_mk fun N1 e1 => ?_
    obtain ⟨N2, p2, g2, R2, l2, w2⟩ := put_new e1 (cs := tabCells (tab[i]'hlt)) rfl
    simp only [tabCells] at p2 R2
    simp +contextual only [vq, vc, ve, vv, vn, vl, ↓reduceIte, Nat.reduceEqDiff, Nat.reduceAdd, Nat.reduceMul, Nat.reduceSub, Nat.reduceLeDiff, Nat.reduceLT, Nat.reduceBEq, Nat.reduceBNe, reduceCtorEq, Int.reduceBEq, Int.reduceBNe, Int.reduceLT, Int.reduceLE, Int.reduceEq, Int.reduceToNat, Int.reduceAdd, Int.reduceSub, Int.reduceNeg, p2, R2.get (G := G), A0, A1]
    have hh : ((tab[i]'hlt).1 == c && decide ((tab[i]'hlt).2.1 ≤ b) && decide (b ≤ (tab[i]'hlt).2.2)) = hit c b (tab[i]'hlt) := by simp only [hit, Bool.and_assoc]
    have hlo : m.bl.length ≤ N2.low := by have := gN.le; omega
    have ht : (tab.take (i + 1)).any (hit c b) = hit c b (tab[i]'hlt) := by rw [List.take_succ_eq_append_getElem hlt, List.any_append, hno]; simp
    rw [hh]
    refine br2_mk (fun hk => ?_) (fun hk => ?_)
    · have ha : isF c b = true := by
        have : isT c b = true := List.any_eq_true.2 ⟨_, List.getElem_mem hlt, hk⟩
        simp [isF, this]
      simp +contextual only [vq, vc, ve, vv, vn, vl, ↓reduceIte, Nat.reduceEqDiff, Nat.reduceAdd, Nat.reduceMul, Nat.reduceSub, Nat.reduceLeDiff, Nat.reduceLT, Nat.reduceBEq, Nat.reduceBNe, reduceCtorEq, Int.reduceBEq, Int.reduceBNe, Int.reduceLT, Int.reduceLE, Int.reduceEq, Int.reduceToNat, Int.reduceAdd, Int.reduceSub, Int.reduceNeg, ha, hlo]
    · simp +contextual only [vq, vc, ve, vv, vn, vl, ↓reduceIte, Nat.reduceEqDiff, Nat.reduceAdd, Nat.reduceMul, Nat.reduceSub, Nat.reduceLeDiff, Nat.reduceLT, Nat.reduceBEq, Nat.reduceBNe, reduceCtorEq, Int.reduceBEq, Int.reduceBNe, Int.reduceLT, Int.reduceLE, Int.reduceEq, Int.reduceToNat, Int.reduceAdd, Int.reduceSub, Int.reduceNeg, A7, wsucc hlt (by omega)]
      exact again2 hJ (35 - (i + 1)) (by omega) ⟨i + 1, _, _, rfl, gN.trans g2, hlo, rfl, by omega, by simp +contextual only [vq, vc, ve, vv, vn, vl, ↓reduceIte, Nat.reduceEqDiff, Nat.reduceAdd, Nat.reduceMul, Nat.reduceSub, Nat.reduceLeDiff, Nat.reduceLT, Nat.reduceBEq, Nat.reduceBNe, reduceCtorEq, Int.reduceBEq, Int.reduceBNe, Int.reduceLT, Int.reduceLE, Int.reduceEq, Int.reduceToNat, Int.reduceAdd, Int.reduceSub, Int.reduceNeg, A0], by simp +contextual only [vq, vc, ve, vv, vn, vl, ↓reduceIte, Nat.reduceEqDiff, Nat.reduceAdd, Nat.reduceMul, Nat.reduceSub, Nat.reduceLeDiff, Nat.reduceLT, Nat.reduceBEq, Nat.reduceBNe, reduceCtorEq, Int.reduceBEq, Int.reduceBNe, Int.reduceLT, Int.reduceLE, Int.reduceEq, Int.reduceToNat, Int.reduceAdd, Int.reduceSub, Int.reduceNeg, A1], by simp +contextual only [vq, vc, ve, vv, vn, vl, ↓reduceIte, Nat.reduceEqDiff, Nat.reduceAdd, Nat.reduceMul, Nat.reduceSub, Nat.reduceLeDiff, Nat.reduceLT, Nat.reduceBEq, Nat.reduceBNe, reduceCtorEq, Int.reduceBEq, Int.reduceBNe, Int.reduceLT, Int.reduceLE, Int.reduceEq, Int.reduceToNat, Int.reduceAdd, Int.reduceSub, Int.reduceNeg], by rw [ht, hk]⟩
  · have hie : i = 35 := by omega
    subst hie
    have hno' : isT c b = false := by rw [← hno]; rfl
    have hc : isF c b = ((c == 5 || c == 10) && isT 3 b) := by simp [isF, hno']
    cases hq : (c == 5 || c == 10) with
    | true =>
      rw [hq] at hc
      simp +contextual only [vq, vc, ve, vv, vn, vl, ↓reduceIte, Nat.reduceEqDiff, Nat.reduceAdd, Nat.reduceMul, Nat.reduceSub, Nat.reduceLeDiff, Nat.reduceLT, Nat.reduceBEq, Nat.reduceBNe, reduceCtorEq, Int.reduceBEq, Int.reduceBNe, Int.reduceLT, Int.reduceLE, Int.reduceEq, Int.reduceToNat, Int.reduceAdd, Int.reduceSub, Int.reduceNeg, A0, A1, hq, callR_val (h3 hq _), lN, hc]
    | false =>
      rw [hq] at hc
      simp +contextual only [vq, vc, ve, vv, vn, vl, ↓reduceIte, Nat.reduceEqDiff, Nat.reduceAdd, Nat.reduceMul, Nat.reduceSub, Nat.reduceLeDiff, Nat.reduceLT, Nat.reduceBEq, Nat.reduceBNe, reduceCtorEq, Int.reduceBEq, Int.reduceBNe, Int.reduceLT, Int.reduceLE, Int.reduceEq, Int.reduceToNat, Int.reduceAdd, Int.reduceSub, Int.reduceNeg, A0, A1, hq, lN, hc]

theorem c_octet_Is (m : Mem) (c : Int) (b : Nat) : Go.Ev.Comes T G f_octet_Is [.int .i64 c, .int .u8 (b : Nat)] m none ⟨.val (.bool (isF c b)), m, none⟩ := by
  refine octet_Is_of m c b fun _ m => ?_
  have h := octet_Is_of m 3 b (fun h => by simp at h)
  have e : isF 3 b = isT 3 b := by simp [isF]
  rw [e] at h
  exact h
end Go.Proofs.YtmjoaiccbghijaaGreatDoor.paramAgain

namespace Go.Proofs.YtmjoaiccbghijaaGreatDoor.paramAgain
open Go.Ev hiding Comes
variable [GG]

theorem c_octet_Span_string (m : Mem) (c : Int) (s : List UInt8) (k : Nat) (hk : k ≤ s.length) (hN : s.length ≤ 4611686018427387904) :
    Go.Ev.Comes T G f_octet_Span_string [.int .i64 c, .str s, .int .i64 k] m none ⟨.val (.int .i64 (k + sp c (s.drop k) : Nat)), m, none⟩ := by
  refine comes2 T_octet_Span_string rfl fun M hg hlen hlow => ?_
  have hl : m.bl.length ≤ M.low := by omega
  simp only [F_octet_Span_string]
  simp +contextual only [vq, vc, ve, vv, vn, vl, ↓reduceIte, Nat.reduceEqDiff, Nat.reduceAdd, Nat.reduceMul, Nat.reduceSub, Nat.reduceLeDiff, Nat.reduceLT, Nat.reduceBEq, Nat.reduceBNe, reduceCtorEq, Int.reduceBEq, Int.reduceBNe, Int.reduceLT, Int.reduceLE, Int.reduceEq, Int.reduceToNat, Int.reduceAdd, Int.reduceSub, Int.reduceNeg]
  refine loop2 (fun n st => ∃ i A, st = ⟨A, M, [], none⟩ ∧ n = s.length - i ∧ k ≤ i ∧ i ≤ s.length ∧ A 0 = .int .i64 c ∧ A 1 = .str s ∧ A 2 = .int .i64 i ∧ ∀ x ∈ (s.drop k).take (i - k), isF c x.toNat = true) (s.length - k) ⟨k, _, rfl, by omega, by omega, by omega, by simp +contextual only [vq, vc, ve, vv, vn, vl, ↓reduceIte, Nat.reduceEqDiff, Nat.reduceAdd, Nat.reduceMul, Nat.reduceSub, Nat.reduceLeDiff, Nat.reduceLT, Nat.reduceBEq, Nat.reduceBNe, reduceCtorEq, Int.reduceBEq, Int.reduceBNe, Int.reduceLT, Int.reduceLE, Int.reduceEq, Int.reduceToNat, Int.reduceAdd, Int.reduceSub, Int.reduceNeg], by simp +contextual only [vq, vc, ve, vv, vn, vl, ↓reduceIte, Nat.reduceEqDiff, Nat.reduceAdd, Nat.reduceMul, Nat.reduceSub, Nat.reduceLeDiff, Nat.reduceLT, Nat.reduceBEq, Nat.reduceBNe, reduceCtorEq, Int.reduceBEq, Int.reduceBNe, Int.reduceLT, Int.reduceLE, Int.reduceEq, Int.reduceToNat, Int.reduceAdd, Int.reduceSub, Int.reduceNeg], by simp +contextual only [vq, vc, ve, vv, vn, vl, ↓reduceIte, Nat.reduceEqDiff, Nat.reduceAdd, Nat.reduceMul, Nat.reduceSub, Nat.reduceLeDiff, Nat.reduceLT, Nat.reduceBEq, Nat.reduceBNe, reduceCtorEq, Int.reduceBEq, Int.reduceBNe, Int.reduceLT, Int.reduceLE, Int.reduceEq, Int.reduceToNat, Int.reduceAdd, Int.reduceSub, Int.reduceNeg], by simp⟩ fun J hJ n st hI => ?_
  obtain ⟨i, A, rfl, rfl, hki, hi, A0, A1, A2, hall⟩ := hI
  by_cases hlt : i < s.length
  · have hd : (s.drop k)[i - k]? = some s[i] := by rw [List.getElem?_drop, show k + (i - k) = i by omega, get_byte hlt]
    simp +contextual only [vq, vc, ve, vv, vn, vl, ↓reduceIte, Nat.reduceEqDiff, Nat.reduceAdd, Nat.reduceMul, Nat.reduceSub, Nat.reduceLeDiff, Nat.reduceLT, Nat.reduceBEq, Nat.reduceBNe, reduceCtorEq, Int.reduceBEq, Int.reduceBNe, Int.reduceLT, Int.reduceLE, Int.reduceEq, Int.reduceToNat, Int.reduceAdd, Int.reduceSub, Int.reduceNeg, A0, A1, A2, hlt, get_byte hlt, callR_val (c_octet_Is _ _ _)]
    refine br2_mk (fun hp => ?_) (fun hp => ?_)
    · simp +contextual only [vq, vc, ve, vv, vn, vl, ↓reduceIte, Nat.reduceEqDiff, Nat.reduceAdd, Nat.reduceMul, Nat.reduceSub, Nat.reduceLeDiff, Nat.reduceLT, Nat.reduceBEq, Nat.reduceBNe, reduceCtorEq, Int.reduceBEq, Int.reduceBNe, Int.reduceLT, Int.reduceLE, Int.reduceEq, Int.reduceToNat, Int.reduceAdd, Int.reduceSub, Int.reduceNeg, A2, wsucc hlt hN]
      refine again2 hJ (s.length - (i + 1)) (by omega) ⟨i + 1, _, rfl, rfl, by omega, by omega, by simp +contextual only [vq, vc, ve, vv, vn, vl, ↓reduceIte, Nat.reduceEqDiff, Nat.reduceAdd, Nat.reduceMul, Nat.reduceSub, Nat.reduceLeDiff, Nat.reduceLT, Nat.reduceBEq, Nat.reduceBNe, reduceCtorEq, Int.reduceBEq, Int.reduceBNe, Int.reduceLT, Int.reduceLE, Int.reduceEq, Int.reduceToNat, Int.reduceAdd, Int.reduceSub, Int.reduceNeg, A0], by simp +contextual only [vq, vc, ve, vv, vn, vl, ↓reduceIte, Nat.reduceEqDiff, Nat.reduceAdd, Nat.reduceMul, Nat.reduceSub, Nat.reduceLeDiff, Nat.reduceLT, Nat.reduceBEq, Nat.reduceBNe, reduceCtorEq, Int.reduceBEq, Int.reduceBNe, Int.reduceLT, Int.reduceLE, Int.reduceEq, Int.reduceToNat, Int.reduceAdd, Int.reduceSub, Int.reduceNeg, A1], by simp +contextual only [vq, vc, ve, vv, vn, vl, ↓reduceIte, Nat.reduceEqDiff, Nat.reduceAdd, Nat.reduceMul, Nat.reduceSub, Nat.reduceLeDiff, Nat.reduceLT, Nat.reduceBEq, Nat.reduceBNe, reduceCtorEq, Int.reduceBEq, Int.reduceBNe, Int.reduceLT, Int.reduceLE, Int.reduceEq, Int.reduceToNat, Int.reduceAdd, Int.reduceSub, Int.reduceNeg], ?_⟩
      obtain ⟨h1, h2⟩ := List.getElem?_eq_some_iff.1 hd
      have := take_next (p := fun b => isF c b.toNat) h1 hall (by rw [h2]; exact hp)
      rwa [show i - k + 1 = i + 1 - k by omega] at this
    · have e : sp c (s.drop k) = i - k := tw_at (p := fun b => isF c b.toNat) hall hd hp
      have e2 : k + sp c (s.drop k) = i := by omega
      simp +contextual only [vq, vc, ve, vv, vn, vl, ↓reduceIte, Nat.reduceEqDiff, Nat.reduceAdd, Nat.reduceMul, Nat.reduceSub, Nat.reduceLeDiff, Nat.reduceLT, Nat.reduceBEq, Nat.reduceBNe, reduceCtorEq, Int.reduceBEq, Int.reduceBNe, Int.reduceLT, Int.reduceLE, Int.reduceEq, Int.reduceToNat, Int.reduceAdd, Int.reduceSub, Int.reduceNeg, A2, hl, e2]
  · have he : i = s.length := by omega
    subst he
    have e : sp c (s.drop k) = s.length - k := by
      rw [List.take_of_length_le (by simp)] at hall
      have := tw_end (p := fun b => isF c b.toNat) hall
      simpa [sp] using this
    have e2 : k + sp c (s.drop k) = s.length := by omega
    simp +contextual only [vq, vc, ve, vv, vn, vl, ↓reduceIte, Nat.reduceEqDiff, Nat.reduceAdd, Nat.reduceMul, Nat.reduceSub, Nat.reduceLeDiff, Nat.reduceLT, Nat.reduceBEq, Nat.reduceBNe, reduceCtorEq, Int.reduceBEq, Int.reduceBNe, Int.reduceLT, Int.reduceLE, Int.reduceEq, Int.reduceToNat, Int.reduceAdd, Int.reduceSub, Int.reduceNeg, A0, A1, A2, hlt, hl, e2]
end Go.Proofs.YtmjoaiccbghijaaGreatDoor.paramAgain

namespace Go.Proofs.YtmjoaiccbghijaaGreatDoor.paramAgain
open Go.Ev hiding Comes
variable [GG]

theorem c_r01_Has (m : Mem) (s : List UInt8) (b : UInt8) (hN : s.length ≤ 4611686018427387904) :
    Go.Ev.Comes T G f_r01_Has [.str s, .int .u8 b.toNat] m none ⟨.val (.bool (s.contains b)), m, none⟩ := by
  refine comes2 T_r01_Has rfl fun M hg hlen hlow => ?_
  have hl : m.bl.length ≤ M.low := by omega
  simp only [F_r01_Has]
  simp +contextual only [vq, vc, ve, vv, vn, vl, ↓reduceIte, Nat.reduceEqDiff, Nat.reduceAdd, Nat.reduceMul, Nat.reduceSub, Nat.reduceLeDiff, Nat.reduceLT, Nat.reduceBEq, Nat.reduceBNe, reduceCtorEq, Int.reduceBEq, Int.reduceBNe, Int.reduceLT, Int.reduceLE, Int.reduceEq, Int.reduceToNat, Int.reduceAdd, Int.reduceSub, Int.reduceNeg]
  refine loop2 (fun n st => ∃ i A, st = ⟨A, M, [], none⟩ ∧ n = s.length - i ∧ i ≤ s.length ∧ A 0 = .str s ∧ A 1 = .int .u8 b.toNat ∧ A 5 = .int .i64 i ∧ s.contains b = (s.drop i).contains b) s.length ⟨0, _, rfl, by omega, by omega, by simp +contextual only [vq, vc, ve, vv, vn, vl, ↓reduceIte, Nat.reduceEqDiff, Nat.reduceAdd, Nat.reduceMul, Nat.reduceSub, Nat.reduceLeDiff, Nat.reduceLT, Nat.reduceBEq, Nat.reduceBNe, reduceCtorEq, Int.reduceBEq, Int.reduceBNe, Int.reduceLT, Int.reduceLE, Int.reduceEq, Int.reduceToNat, Int.reduceAdd, Int.reduceSub, Int.reduceNeg], by simp +contextual only [vq, vc, ve, vv, vn, vl, ↓reduceIte, Nat.reduceEqDiff, Nat.reduceAdd, Nat.reduceMul, Nat.reduceSub, Nat.reduceLeDiff, Nat.reduceLT, Nat.reduceBEq, Nat.reduceBNe, reduceCtorEq, Int.reduceBEq, Int.reduceBNe, Int.reduceLT, Int.reduceLE, Int.reduceEq, Int.reduceToNat, Int.reduceAdd, Int.reduceSub, Int.reduceNeg], by simp +contextual only [vq, vc, ve, vv, vn, vl, ↓reduceIte, Nat.reduceEqDiff, Nat.reduceAdd, Nat.reduceMul, Nat.reduceSub, Nat.reduceLeDiff, Nat.reduceLT, Nat.reduceBEq, Nat.reduceBNe, reduceCtorEq, Int.reduceBEq, Int.reduceBNe, Int.reduceLT, Int.reduceLE, Int.reduceEq, Int.reduceToNat, Int.reduceAdd, Int.reduceSub, Int.reduceNeg]; rfl, rfl⟩ fun J hJ n st hI => ?_
  obtain ⟨i, A, rfl, rfl, hi, A0, A1, A5, hc⟩ := hI
  simp +contextual only [vq, vc, ve, vv, vn, vl, ↓reduceIte, Nat.reduceEqDiff, Nat.reduceAdd, Nat.reduceMul, Nat.reduceSub, Nat.reduceLeDiff, Nat.reduceLT, Nat.reduceBEq, Nat.reduceBNe, reduceCtorEq, Int.reduceBEq, Int.reduceBNe, Int.reduceLT, Int.reduceLE, Int.reduceEq, Int.reduceToNat, Int.reduceAdd, Int.reduceSub, Int.reduceNeg, A0, A5]
  refine br2_dec (fun hlt => ?_) (fun hge => ?_)
  · have hd : s.drop i = s[i] :: s.drop (i + 1) := List.drop_eq_getElem_cons hlt
    simp +contextual only [vq, vc, ve, vv, vn, vl, ↓reduceIte, Nat.reduceEqDiff, Nat.reduceAdd, Nat.reduceMul, Nat.reduceSub, Nat.reduceLeDiff, Nat.reduceLT, Nat.reduceBEq, Nat.reduceBNe, reduceCtorEq, Int.reduceBEq, Int.reduceBNe, Int.reduceLT, Int.reduceLE, Int.reduceEq, Int.reduceToNat, Int.reduceAdd, Int.reduceSub, Int.reduceNeg, A0, A1, A5, get_byte hlt, u8_eqN]
    refine br2_mk (fun hp => ?_) (fun hp => ?_)
    · have hp : s[i] = b := by simpa using hp
      have e : s.contains b = true := by rw [hc, hd, hp]; simp
      simp +contextual only [vq, vc, ve, vv, vn, vl, ↓reduceIte, Nat.reduceEqDiff, Nat.reduceAdd, Nat.reduceMul, Nat.reduceSub, Nat.reduceLeDiff, Nat.reduceLT, Nat.reduceBEq, Nat.reduceBNe, reduceCtorEq, Int.reduceBEq, Int.reduceBNe, Int.reduceLT, Int.reduceLE, Int.reduceEq, Int.reduceToNat, Int.reduceAdd, Int.reduceSub, Int.reduceNeg, hl, e]
    · have e : s.contains b = (s.drop (i + 1)).contains b := by
        rw [hc, hd, List.contains_cons]
        have : (b == s[i]) = false := by rw [← hp]; exact Bool.beq_comm
        rw [this, Bool.false_or]
      simp +contextual only [vq, vc, ve, vv, vn, vl, ↓reduceIte, Nat.reduceEqDiff, Nat.reduceAdd, Nat.reduceMul, Nat.reduceSub, Nat.reduceLeDiff, Nat.reduceLT, Nat.reduceBEq, Nat.reduceBNe, reduceCtorEq, Int.reduceBEq, Int.reduceBNe, Int.reduceLT, Int.reduceLE, Int.reduceEq, Int.reduceToNat, Int.reduceAdd, Int.reduceSub, Int.reduceNeg, A5, wsucc hlt hN]
      exact again2 hJ (s.length - (i + 1)) (by omega) ⟨i + 1, _, rfl, rfl, by omega, by simp +contextual only [vq, vc, ve, vv, vn, vl, ↓reduceIte, Nat.reduceEqDiff, Nat.reduceAdd, Nat.reduceMul, Nat.reduceSub, Nat.reduceLeDiff, Nat.reduceLT, Nat.reduceBEq, Nat.reduceBNe, reduceCtorEq, Int.reduceBEq, Int.reduceBNe, Int.reduceLT, Int.reduceLE, Int.reduceEq, Int.reduceToNat, Int.reduceAdd, Int.reduceSub, Int.reduceNeg, A0], by simp +contextual only [vq, vc, ve, vv, vn, vl, ↓reduceIte, Nat.reduceEqDiff, Nat.reduceAdd, Nat.reduceMul, Nat.reduceSub, Nat.reduceLeDiff, Nat.reduceLT, Nat.reduceBEq, Nat.reduceBNe, reduceCtorEq, Int.reduceBEq, Int.reduceBNe, Int.reduceLT, Int.reduceLE, Int.reduceEq, Int.reduceToNat, Int.reduceAdd, Int.reduceSub, Int.reduceNeg, A1], by simp +contextual only [vq, vc, ve, vv, vn, vl, ↓reduceIte, Nat.reduceEqDiff, Nat.reduceAdd, Nat.reduceMul, Nat.reduceSub, Nat.reduceLeDiff, Nat.reduceLT, Nat.reduceBEq, Nat.reduceBNe, reduceCtorEq, Int.reduceBEq, Int.reduceBNe, Int.reduceLT, Int.reduceLE, Int.reduceEq, Int.reduceToNat, Int.reduceAdd, Int.reduceSub, Int.reduceNeg], e⟩
  · have e : s.contains b = false := by rw [hc, List.drop_eq_nil_of_le (by omega)]; rfl
    simp +contextual only [vq, vc, ve, vv, vn, vl, ↓reduceIte, Nat.reduceEqDiff, Nat.reduceAdd, Nat.reduceMul, Nat.reduceSub, Nat.reduceLeDiff, Nat.reduceLT, Nat.reduceBEq, Nat.reduceBNe, reduceCtorEq, Int.reduceBEq, Int.reduceBNe, Int.reduceLT, Int.reduceLE, Int.reduceEq, Int.reduceToNat, Int.reduceAdd, Int.reduceSub, Int.reduceNeg, hl, e]
end Go.Proofs.YtmjoaiccbghijaaGreatDoor.paramAgain

set_option maxRecDepth 10000
namespace Go.Proofs.YtmjoaiccbghijaaGreatDoor.paramAgain
open Go.Ev hiding Comes
variable [GG]

/-- A visible byte that is none of some. -/
def seen (b : UInt8) (s : List UInt8) : Bool := decide (33 ≤ (b.toNat : Int)) && decide ((b.toNat : Int) ≤ 126) && !s.contains b
theorem c_r01_shown (m : Mem) (b : UInt8) (s : List UInt8) (hN : s.length ≤ 4611686018427387904) :
    Go.Ev.Comes T G f_r01_shown [.int .u8 b.toNat, .str s] m none ⟨.val (.bool (seen b s)), m, none⟩ := by
  refine comes2 T_r01_shown rfl fun M hg hlen hlow => ?_
  have hl : m.bl.length ≤ M.low := by omega
  simp only [F_r01_shown]
  simp +contextual only [vq, vc, ve, vv, vn, vl, ↓reduceIte, Nat.reduceEqDiff, Nat.reduceAdd, Nat.reduceMul, Nat.reduceSub, Nat.reduceLeDiff, Nat.reduceLT, Nat.reduceBEq, Nat.reduceBNe, reduceCtorEq, Int.reduceBEq, Int.reduceBNe, Int.reduceLT, Int.reduceLE, Int.reduceEq, Int.reduceToNat, Int.reduceAdd, Int.reduceSub, Int.reduceNeg, callR_val (c_r01_Has _ _ _ hN), hl]
  rfl
theorem r01_Is_1 (m : Mem) (b : UInt8) : Go.Ev.Comes T G f_r01_Is [.int .i64 1, .int .u8 b.toNat] m none ⟨.val (.bool (isF 1 b.toNat)), m, none⟩ := by
  refine comes2 T_r01_Is rfl fun M hg hlen hlow => ?_
  have hl : m.bl.length ≤ M.low := by omega
  clear hg
  have hh := fun m s b h => callR_val (c_r01_Has m s b h)
  have hs := fun m b s h => callR_val (c_r01_shown m b s h)
  simp only [F_r01_Is]
  simp +contextual only [vq, vc, ve, vv, vn, vl, ↓reduceIte, Nat.reduceEqDiff, Nat.reduceAdd, Nat.reduceMul, Nat.reduceSub, Nat.reduceLeDiff, Nat.reduceLT, Nat.reduceBEq, Nat.reduceBNe, reduceCtorEq, Int.reduceBEq, Int.reduceBNe, Int.reduceLT, Int.reduceLE, Int.reduceEq, Int.reduceToNat, Int.reduceAdd, Int.reduceSub, Int.reduceNeg, hh, hl]
  clear hh hs
  revert b
  decide +kernel
theorem r01_Is_2 (m : Mem) (b : UInt8) : Go.Ev.Comes T G f_r01_Is [.int .i64 2, .int .u8 b.toNat] m none ⟨.val (.bool (isF 2 b.toNat)), m, none⟩ := by
  refine comes2 T_r01_Is rfl fun M hg hlen hlow => ?_
  have hl : m.bl.length ≤ M.low := by omega
  clear hg
  have hh := fun m s b h => callR_val (c_r01_Has m s b h)
  have hs := fun m b s h => callR_val (c_r01_shown m b s h)
  simp only [F_r01_Is]
  simp +contextual only [vq, vc, ve, vv, vn, vl, ↓reduceIte, Nat.reduceEqDiff, Nat.reduceAdd, Nat.reduceMul, Nat.reduceSub, Nat.reduceLeDiff, Nat.reduceLT, Nat.reduceBEq, Nat.reduceBNe, reduceCtorEq, Int.reduceBEq, Int.reduceBNe, Int.reduceLT, Int.reduceLE, Int.reduceEq, Int.reduceToNat, Int.reduceAdd, Int.reduceSub, Int.reduceNeg, hh, hs, hl]
  clear hh hs
  revert b
  decide +kernel
theorem r01_Is_4 (m : Mem) (b : UInt8) : Go.Ev.Comes T G f_r01_Is [.int .i64 4, .int .u8 b.toNat] m none ⟨.val (.bool (isF 4 b.toNat)), m, none⟩ := by
  refine comes2 T_r01_Is rfl fun M hg hlen hlow => ?_
  have hl : m.bl.length ≤ M.low := by omega
  clear hg
  have hh := fun m s b h => callR_val (c_r01_Has m s b h)
  have hs := fun m b s h => callR_val (c_r01_shown m b s h)
  simp only [F_r01_Is]
  simp +contextual only [vq, vc, ve, vv, vn, vl, ↓reduceIte, Nat.reduceEqDiff, Nat.reduceAdd, Nat.reduceMul, Nat.reduceSub, Nat.reduceLeDiff, Nat.reduceLT, Nat.reduceBEq, Nat.reduceBNe, reduceCtorEq, Int.reduceBEq, Int.reduceBNe, Int.reduceLT, Int.reduceLE, Int.reduceEq, Int.reduceToNat, Int.reduceAdd, Int.reduceSub, Int.reduceNeg, hh, hs, hl]
  clear hh hs
  revert b
  decide +kernel
theorem r01_Is_7 (m : Mem) (b : UInt8) : Go.Ev.Comes T G f_r01_Is [.int .i64 7, .int .u8 b.toNat] m none ⟨.val (.bool (isF 7 b.toNat)), m, none⟩ := by
  refine comes2 T_r01_Is rfl fun M hg hlen hlow => ?_
  have hl : m.bl.length ≤ M.low := by omega
  clear hg
  have hh := fun m s b h => callR_val (c_r01_Has m s b h)
  have hs := fun m b s h => callR_val (c_r01_shown m b s h)
  simp only [F_r01_Is]
  simp +contextual only [vq, vc, ve, vv, vn, vl, ↓reduceIte, Nat.reduceEqDiff, Nat.reduceAdd, Nat.reduceMul, Nat.reduceSub, Nat.reduceLeDiff, Nat.reduceLT, Nat.reduceBEq, Nat.reduceBNe, reduceCtorEq, Int.reduceBEq, Int.reduceBNe, Int.reduceLT, Int.reduceLE, Int.reduceEq, Int.reduceToNat, Int.reduceAdd, Int.reduceSub, Int.reduceNeg, hh, hs, hl]
  clear hh hs
  revert b
  decide +kernel
theorem r01_Is_8 (m : Mem) (b : UInt8) : Go.Ev.Comes T G f_r01_Is [.int .i64 8, .int .u8 b.toNat] m none ⟨.val (.bool (isF 8 b.toNat)), m, none⟩ := by
  refine comes2 T_r01_Is rfl fun M hg hlen hlow => ?_
  have hl : m.bl.length ≤ M.low := by omega
  clear hg
  have hh := fun m s b h => callR_val (c_r01_Has m s b h)
  have hs := fun m b s h => callR_val (c_r01_shown m b s h)
  simp only [F_r01_Is]
  simp +contextual only [vq, vc, ve, vv, vn, vl, ↓reduceIte, Nat.reduceEqDiff, Nat.reduceAdd, Nat.reduceMul, Nat.reduceSub, Nat.reduceLeDiff, Nat.reduceLT, Nat.reduceBEq, Nat.reduceBNe, reduceCtorEq, Int.reduceBEq, Int.reduceBNe, Int.reduceLT, Int.reduceLE, Int.reduceEq, Int.reduceToNat, Int.reduceAdd, Int.reduceSub, Int.reduceNeg, hh, hs, hl]
  clear hh hs
  revert b
  decide +kernel
theorem r01_Is_9 (m : Mem) (b : UInt8) : Go.Ev.Comes T G f_r01_Is [.int .i64 9, .int .u8 b.toNat] m none ⟨.val (.bool (isF 9 b.toNat)), m, none⟩ := by
  refine comes2 T_r01_Is rfl fun M hg hlen hlow => ?_
  have hl : m.bl.length ≤ M.low := by omega
  clear hg
  have hh := fun m s b h => callR_val (c_r01_Has m s b h)
  have hs := fun m b s h => callR_val (c_r01_shown m b s h)
  simp only [F_r01_Is]
  simp +contextual only [vq, vc, ve, vv, vn, vl, ↓reduceIte, Nat.reduceEqDiff, Nat.reduceAdd, Nat.reduceMul, Nat.reduceSub, Nat.reduceLeDiff, Nat.reduceLT, Nat.reduceBEq, Nat.reduceBNe, reduceCtorEq, Int.reduceBEq, Int.reduceBNe, Int.reduceLT, Int.reduceLE, Int.reduceEq, Int.reduceToNat, Int.reduceAdd, Int.reduceSub, Int.reduceNeg, hh, hs, hl]
  clear hh hs
  revert b
  decide +kernel
theorem r01_Is_11 (m : Mem) (b : UInt8) : Go.Ev.Comes T G f_r01_Is [.int .i64 11, .int .u8 b.toNat] m none ⟨.val (.bool (isF 11 b.toNat)), m, none⟩ := by
  refine comes2 T_r01_Is rfl fun M hg hlen hlow => ?_
  have hl : m.bl.length ≤ M.low := by omega
  clear hg
  have hh := fun m s b h => callR_val (c_r01_Has m s b h)
  have hs := fun m b s h => callR_val (c_r01_shown m b s h)
  simp only [F_r01_Is]
  simp +contextual only [vq, vc, ve, vv, vn, vl, ↓reduceIte, Nat.reduceEqDiff, Nat.reduceAdd, Nat.reduceMul, Nat.reduceSub, Nat.reduceLeDiff, Nat.reduceLT, Nat.reduceBEq, Nat.reduceBNe, reduceCtorEq, Int.reduceBEq, Int.reduceBNe, Int.reduceLT, Int.reduceLE, Int.reduceEq, Int.reduceToNat, Int.reduceAdd, Int.reduceSub, Int.reduceNeg, hh, hs, hl]
  clear hh hs
  revert b
  decide +kernel
theorem r01_Is_12 (m : Mem) (b : UInt8) : Go.Ev.Comes T G f_r01_Is [.int .i64 12, .int .u8 b.toNat] m none ⟨.val (.bool (isF 12 b.toNat)), m, none⟩ := by
  refine comes2 T_r01_Is rfl fun M hg hlen hlow => ?_
  have hl : m.bl.length ≤ M.low := by omega
  clear hg
  have hh := fun m s b h => callR_val (c_r01_Has m s b h)
  have hs := fun m b s h => callR_val (c_r01_shown m b s h)
  simp only [F_r01_Is]
  simp +contextual only [vq, vc, ve, vv, vn, vl, ↓reduceIte, Nat.reduceEqDiff, Nat.reduceAdd, Nat.reduceMul, Nat.reduceSub, Nat.reduceLeDiff, Nat.reduceLT, Nat.reduceBEq, Nat.reduceBNe, reduceCtorEq, Int.reduceBEq, Int.reduceBNe, Int.reduceLT, Int.reduceLE, Int.reduceEq, Int.reduceToNat, Int.reduceAdd, Int.reduceSub, Int.reduceNeg, hh, hs, hl]
  clear hh hs
  revert b
  decide +kernel
theorem r01_Is_13 (m : Mem) (b : UInt8) : Go.Ev.Comes T G f_r01_Is [.int .i64 13, .int .u8 b.toNat] m none ⟨.val (.bool (isF 13 b.toNat)), m, none⟩ := by
  refine comes2 T_r01_Is rfl fun M hg hlen hlow => ?_
  have hl : m.bl.length ≤ M.low := by omega
  clear hg
  have hh := fun m s b h => callR_val (c_r01_Has m s b h)
  have hs := fun m b s h => callR_val (c_r01_shown m b s h)
  simp only [F_r01_Is]
  simp +contextual only [vq, vc, ve, vv, vn, vl, ↓reduceIte, Nat.reduceEqDiff, Nat.reduceAdd, Nat.reduceMul, Nat.reduceSub, Nat.reduceLeDiff, Nat.reduceLT, Nat.reduceBEq, Nat.reduceBNe, reduceCtorEq, Int.reduceBEq, Int.reduceBNe, Int.reduceLT, Int.reduceLE, Int.reduceEq, Int.reduceToNat, Int.reduceAdd, Int.reduceSub, Int.reduceNeg, hh, hs, hl]
  clear hh hs
  revert b
  decide +kernel
theorem r01_Is_14 (m : Mem) (b : UInt8) : Go.Ev.Comes T G f_r01_Is [.int .i64 14, .int .u8 b.toNat] m none ⟨.val (.bool (isF 14 b.toNat)), m, none⟩ := by
  refine comes2 T_r01_Is rfl fun M hg hlen hlow => ?_
  have hl : m.bl.length ≤ M.low := by omega
  clear hg
  have hh := fun m s b h => callR_val (c_r01_Has m s b h)
  have hs := fun m b s h => callR_val (c_r01_shown m b s h)
  simp only [F_r01_Is]
  simp +contextual only [vq, vc, ve, vv, vn, vl, ↓reduceIte, Nat.reduceEqDiff, Nat.reduceAdd, Nat.reduceMul, Nat.reduceSub, Nat.reduceLeDiff, Nat.reduceLT, Nat.reduceBEq, Nat.reduceBNe, reduceCtorEq, Int.reduceBEq, Int.reduceBNe, Int.reduceLT, Int.reduceLE, Int.reduceEq, Int.reduceToNat, Int.reduceAdd, Int.reduceSub, Int.reduceNeg, hh, hs, hl]
  clear hh hs
  revert b
  decide +kernel
theorem r01_Is_6 (m : Mem) (b : UInt8) : Go.Ev.Comes T G f_r01_Is [.int .i64 6, .int .u8 b.toNat] m none ⟨.val (.bool (isF 6 b.toNat)), m, none⟩ := by
  refine comes2 T_r01_Is rfl fun M hg hlen hlow => ?_
  have hl : m.bl.length ≤ M.low := by omega
  clear hg
  have hh := fun m s b h => callR_val (c_r01_Has m s b h)
  have hs := fun m b s h => callR_val (c_r01_shown m b s h)
  simp only [F_r01_Is]
  simp +contextual only [vq, vc, ve, vv, vn, vl, ↓reduceIte, Nat.reduceEqDiff, Nat.reduceAdd, Nat.reduceMul, Nat.reduceSub, Nat.reduceLeDiff, Nat.reduceLT, Nat.reduceBEq, Nat.reduceBNe, reduceCtorEq, Int.reduceBEq, Int.reduceBNe, Int.reduceLT, Int.reduceLE, Int.reduceEq, Int.reduceToNat, Int.reduceAdd, Int.reduceSub, Int.reduceNeg, hh, hs, hl]
  clear hh hs
  revert b
  decide +kernel
theorem r01_Is_3 (m : Mem) (b : UInt8) : Go.Ev.Comes T G f_r01_Is [.int .i64 3, .int .u8 b.toNat] m none ⟨.val (.bool (isF 3 b.toNat)), m, none⟩ := by
  refine comes2 T_r01_Is rfl fun M hg hlen hlow => ?_
  have hl : m.bl.length ≤ M.low := by omega
  clear hg
  have hh := fun m s b h => callR_val (c_r01_Has m s b h)
  have hs := fun m b s h => callR_val (c_r01_shown m b s h)
  simp only [F_r01_Is]
  simp +contextual only [vq, vc, ve, vv, vn, vl, ↓reduceIte, Nat.reduceEqDiff, Nat.reduceAdd, Nat.reduceMul, Nat.reduceSub, Nat.reduceLeDiff, Nat.reduceLT, Nat.reduceBEq, Nat.reduceBNe, reduceCtorEq, Int.reduceBEq, Int.reduceBNe, Int.reduceLT, Int.reduceLE, Int.reduceEq, Int.reduceToNat, Int.reduceAdd, Int.reduceSub, Int.reduceNeg, callR_val (r01_Is_1 _ _), callR_val (r01_Is_2 _ _), hl]
  clear hh hs
  revert b
  decide +kernel
theorem r01_Is_5 (m : Mem) (b : UInt8) : Go.Ev.Comes T G f_r01_Is [.int .i64 5, .int .u8 b.toNat] m none ⟨.val (.bool (isF 5 b.toNat)), m, none⟩ := by
  refine comes2 T_r01_Is rfl fun M hg hlen hlow => ?_
  have hl : m.bl.length ≤ M.low := by omega
  clear hg
  have hh := fun m s b h => callR_val (c_r01_Has m s b h)
  have hs := fun m b s h => callR_val (c_r01_shown m b s h)
  simp only [F_r01_Is]
  simp +contextual only [vq, vc, ve, vv, vn, vl, ↓reduceIte, Nat.reduceEqDiff, Nat.reduceAdd, Nat.reduceMul, Nat.reduceSub, Nat.reduceLeDiff, Nat.reduceLT, Nat.reduceBEq, Nat.reduceBNe, reduceCtorEq, Int.reduceBEq, Int.reduceBNe, Int.reduceLT, Int.reduceLE, Int.reduceEq, Int.reduceToNat, Int.reduceAdd, Int.reduceSub, Int.reduceNeg, callR_val (r01_Is_3 _ _), hh, hl]
  clear hh hs
  revert b
  decide +kernel
theorem r01_Is_10 (m : Mem) (b : UInt8) : Go.Ev.Comes T G f_r01_Is [.int .i64 10, .int .u8 b.toNat] m none ⟨.val (.bool (isF 10 b.toNat)), m, none⟩ := by
  refine comes2 T_r01_Is rfl fun M hg hlen hlow => ?_
  have hl : m.bl.length ≤ M.low := by omega
  clear hg
  have hh := fun m s b h => callR_val (c_r01_Has m s b h)
  have hs := fun m b s h => callR_val (c_r01_shown m b s h)
  simp only [F_r01_Is]
  simp +contextual only [vq, vc, ve, vv, vn, vl, ↓reduceIte, Nat.reduceEqDiff, Nat.reduceAdd, Nat.reduceMul, Nat.reduceSub, Nat.reduceLeDiff, Nat.reduceLT, Nat.reduceBEq, Nat.reduceBNe, reduceCtorEq, Int.reduceBEq, Int.reduceBNe, Int.reduceLT, Int.reduceLE, Int.reduceEq, Int.reduceToNat, Int.reduceAdd, Int.reduceSub, Int.reduceNeg, callR_val (r01_Is_3 _ _), hl]
  clear hh hs
  revert b
  decide +kernel
theorem c_r01_Is (m : Mem) (c : Int) (b : UInt8) (h : 1 ≤ c ∧ c ≤ 14) : Go.Ev.Comes T G f_r01_Is [.int .i64 c, .int .u8 b.toNat] m none ⟨.val (.bool (isF c b.toNat)), m, none⟩ := by
  obtain ⟨n, rfl⟩ : ∃ n : Fin 15, c = (n.val : Int) := ⟨⟨c.toNat, by omega⟩, by simp; omega⟩
  match n, h with
  | 0, h => simp at h
  | 1, _ => exact r01_Is_1 m b
  | 2, _ => exact r01_Is_2 m b
  | 3, _ => exact r01_Is_3 m b
  | 4, _ => exact r01_Is_4 m b
  | 5, _ => exact r01_Is_5 m b
  | 6, _ => exact r01_Is_6 m b
  | 7, _ => exact r01_Is_7 m b
  | 8, _ => exact r01_Is_8 m b
  | 9, _ => exact r01_Is_9 m b
  | 10, _ => exact r01_Is_10 m b
  | 11, _ => exact r01_Is_11 m b
  | 12, _ => exact r01_Is_12 m b
  | 13, _ => exact r01_Is_13 m b
  | 14, _ => exact r01_Is_14 m b
end Go.Proofs.YtmjoaiccbghijaaGreatDoor.paramAgain

namespace Go.Proofs.YtmjoaiccbghijaaGreatDoor.paramAgain
open Go.Ev hiding Comes
variable [GG]

theorem c_r01_Bad (m : Mem) (c : Int) (s : List UInt8) (hc : 1 ≤ c ∧ c ≤ 14) (hN : s.length ≤ 4611686018427387904) :
    Go.Ev.Comes T G f_r01_Bad [.int .i64 c, .str s] m none ⟨.val (.int .i64 (sp c s : Nat)), m, none⟩ := by
  refine comes2 T_r01_Bad rfl fun M hg hlen hlow => ?_
  have hl : m.bl.length ≤ M.low := by omega
  simp only [F_r01_Bad]
  simp +contextual only [vq, vc, ve, vv, vn, vl, ↓reduceIte, Nat.reduceEqDiff, Nat.reduceAdd, Nat.reduceMul, Nat.reduceSub, Nat.reduceLeDiff, Nat.reduceLT, Nat.reduceBEq, Nat.reduceBNe, reduceCtorEq, Int.reduceBEq, Int.reduceBNe, Int.reduceLT, Int.reduceLE, Int.reduceEq, Int.reduceToNat, Int.reduceAdd, Int.reduceSub, Int.reduceNeg]
  refine loop2 (fun n st => ∃ i A, st = ⟨A, M, [], none⟩ ∧ n = s.length - i ∧ i ≤ s.length ∧ A 0 = .int .i64 c ∧ A 1 = .str s ∧ A 5 = .int .i64 i ∧ ∀ x ∈ s.take i, isF c x.toNat = true) s.length ⟨0, _, rfl, by omega, by omega, by simp +contextual only [vq, vc, ve, vv, vn, vl, ↓reduceIte, Nat.reduceEqDiff, Nat.reduceAdd, Nat.reduceMul, Nat.reduceSub, Nat.reduceLeDiff, Nat.reduceLT, Nat.reduceBEq, Nat.reduceBNe, reduceCtorEq, Int.reduceBEq, Int.reduceBNe, Int.reduceLT, Int.reduceLE, Int.reduceEq, Int.reduceToNat, Int.reduceAdd, Int.reduceSub, Int.reduceNeg], by simp +contextual only [vq, vc, ve, vv, vn, vl, ↓reduceIte, Nat.reduceEqDiff, Nat.reduceAdd, Nat.reduceMul, Nat.reduceSub, Nat.reduceLeDiff, Nat.reduceLT, Nat.reduceBEq, Nat.reduceBNe, reduceCtorEq, Int.reduceBEq, Int.reduceBNe, Int.reduceLT, Int.reduceLE, Int.reduceEq, Int.reduceToNat, Int.reduceAdd, Int.reduceSub, Int.reduceNeg], by simp +contextual only [vq, vc, ve, vv, vn, vl, ↓reduceIte, Nat.reduceEqDiff, Nat.reduceAdd, Nat.reduceMul, Nat.reduceSub, Nat.reduceLeDiff, Nat.reduceLT, Nat.reduceBEq, Nat.reduceBNe, reduceCtorEq, Int.reduceBEq, Int.reduceBNe, Int.reduceLT, Int.reduceLE, Int.reduceEq, Int.reduceToNat, Int.reduceAdd, Int.reduceSub, Int.reduceNeg]; rfl, by simp⟩ fun J hJ n st hI => ?_
  obtain ⟨i, A, rfl, rfl, hi, A0, A1, A5, hall⟩ := hI
  simp +contextual only [vq, vc, ve, vv, vn, vl, ↓reduceIte, Nat.reduceEqDiff, Nat.reduceAdd, Nat.reduceMul, Nat.reduceSub, Nat.reduceLeDiff, Nat.reduceLT, Nat.reduceBEq, Nat.reduceBNe, reduceCtorEq, Int.reduceBEq, Int.reduceBNe, Int.reduceLT, Int.reduceLE, Int.reduceEq, Int.reduceToNat, Int.reduceAdd, Int.reduceSub, Int.reduceNeg, A1, A5]
  refine br2_dec (fun hlt => ?_) (fun hge => ?_)
  · simp +contextual only [vq, vc, ve, vv, vn, vl, ↓reduceIte, Nat.reduceEqDiff, Nat.reduceAdd, Nat.reduceMul, Nat.reduceSub, Nat.reduceLeDiff, Nat.reduceLT, Nat.reduceBEq, Nat.reduceBNe, reduceCtorEq, Int.reduceBEq, Int.reduceBNe, Int.reduceLT, Int.reduceLE, Int.reduceEq, Int.reduceToNat, Int.reduceAdd, Int.reduceSub, Int.reduceNeg, A0, A1, A5, get_byte hlt, callR_val (c_r01_Is _ _ _ hc)]
    refine br2_mk (fun hp => ?_) (fun hp => ?_)
    · have hp : isF c (s[i]).toNat = false := by simpa using hp
      have e : sp c s = i := tw_at (p := fun b => isF c b.toNat) hall (get_byte hlt) hp
      simp +contextual only [vq, vc, ve, vv, vn, vl, ↓reduceIte, Nat.reduceEqDiff, Nat.reduceAdd, Nat.reduceMul, Nat.reduceSub, Nat.reduceLeDiff, Nat.reduceLT, Nat.reduceBEq, Nat.reduceBNe, reduceCtorEq, Int.reduceBEq, Int.reduceBNe, Int.reduceLT, Int.reduceLE, Int.reduceEq, Int.reduceToNat, Int.reduceAdd, Int.reduceSub, Int.reduceNeg, A5, hl, e]
    · have hp : isF c (s[i]).toNat = true := by simpa using hp
      simp +contextual only [vq, vc, ve, vv, vn, vl, ↓reduceIte, Nat.reduceEqDiff, Nat.reduceAdd, Nat.reduceMul, Nat.reduceSub, Nat.reduceLeDiff, Nat.reduceLT, Nat.reduceBEq, Nat.reduceBNe, reduceCtorEq, Int.reduceBEq, Int.reduceBNe, Int.reduceLT, Int.reduceLE, Int.reduceEq, Int.reduceToNat, Int.reduceAdd, Int.reduceSub, Int.reduceNeg, A5, wsucc hlt hN]
      exact again2 hJ (s.length - (i + 1)) (by omega) ⟨i + 1, _, rfl, rfl, by omega, by simp +contextual only [vq, vc, ve, vv, vn, vl, ↓reduceIte, Nat.reduceEqDiff, Nat.reduceAdd, Nat.reduceMul, Nat.reduceSub, Nat.reduceLeDiff, Nat.reduceLT, Nat.reduceBEq, Nat.reduceBNe, reduceCtorEq, Int.reduceBEq, Int.reduceBNe, Int.reduceLT, Int.reduceLE, Int.reduceEq, Int.reduceToNat, Int.reduceAdd, Int.reduceSub, Int.reduceNeg, A0], by simp +contextual only [vq, vc, ve, vv, vn, vl, ↓reduceIte, Nat.reduceEqDiff, Nat.reduceAdd, Nat.reduceMul, Nat.reduceSub, Nat.reduceLeDiff, Nat.reduceLT, Nat.reduceBEq, Nat.reduceBNe, reduceCtorEq, Int.reduceBEq, Int.reduceBNe, Int.reduceLT, Int.reduceLE, Int.reduceEq, Int.reduceToNat, Int.reduceAdd, Int.reduceSub, Int.reduceNeg, A1], by simp +contextual only [vq, vc, ve, vv, vn, vl, ↓reduceIte, Nat.reduceEqDiff, Nat.reduceAdd, Nat.reduceMul, Nat.reduceSub, Nat.reduceLeDiff, Nat.reduceLT, Nat.reduceBEq, Nat.reduceBNe, reduceCtorEq, Int.reduceBEq, Int.reduceBNe, Int.reduceLT, Int.reduceLE, Int.reduceEq, Int.reduceToNat, Int.reduceAdd, Int.reduceSub, Int.reduceNeg], take_next (p := fun b => isF c b.toNat) hlt hall hp⟩
  · have he : i = s.length := by omega
    subst he
    rw [List.take_length] at hall
    have e : sp c s = s.length := tw_end (p := fun b => isF c b.toNat) hall
    simp +contextual only [vq, vc, ve, vv, vn, vl, ↓reduceIte, Nat.reduceEqDiff, Nat.reduceAdd, Nat.reduceMul, Nat.reduceSub, Nat.reduceLeDiff, Nat.reduceLT, Nat.reduceBEq, Nat.reduceBNe, reduceCtorEq, Int.reduceBEq, Int.reduceBNe, Int.reduceLT, Int.reduceLE, Int.reduceEq, Int.reduceToNat, Int.reduceAdd, Int.reduceSub, Int.reduceNeg, A1, hl, e]
theorem c_r01_Span (m : Mem) (c : Int) (s : List UInt8) (k : Nat) (hc : 1 ≤ c ∧ c ≤ 14) (hk : k ≤ s.length) (hN : s.length ≤ 4611686018427387904) :
    Go.Ev.Comes T G f_r01_Span [.int .i64 c, .str s, .int .i64 k] m none ⟨.val (.int .i64 (k + sp c (s.drop k) : Nat)), m, none⟩ := by
  refine comes2 T_r01_Span rfl fun M hg hlen hlow => ?_
  have hl : m.bl.length ≤ M.low := by omega
  simp only [F_r01_Span]
  simp +contextual only [vq, vc, ve, vv, vn, vl, ↓reduceIte, Nat.reduceEqDiff, Nat.reduceAdd, Nat.reduceMul, Nat.reduceSub, Nat.reduceLeDiff, Nat.reduceLT, Nat.reduceBEq, Nat.reduceBNe, reduceCtorEq, Int.reduceBEq, Int.reduceBNe, Int.reduceLT, Int.reduceLE, Int.reduceEq, Int.reduceToNat, Int.reduceAdd, Int.reduceSub, Int.reduceNeg]
  by_cases h : s.length ≤ k
  · have e : k + sp c (s.drop k) = k := by rw [List.drop_eq_nil_of_le h]; rfl
    simp +contextual only [vq, vc, ve, vv, vn, vl, ↓reduceIte, Nat.reduceEqDiff, Nat.reduceAdd, Nat.reduceMul, Nat.reduceSub, Nat.reduceLeDiff, Nat.reduceLT, Nat.reduceBEq, Nat.reduceBNe, reduceCtorEq, Int.reduceBEq, Int.reduceBNe, Int.reduceLT, Int.reduceLE, Int.reduceEq, Int.reduceToNat, Int.reduceAdd, Int.reduceSub, Int.reduceNeg, h, hl, e]
  · have hle := sp_le c (s.drop k)
    rw [List.length_drop] at hle
    simp +contextual only [vq, vc, ve, vv, vn, vl, ↓reduceIte, Nat.reduceEqDiff, Nat.reduceAdd, Nat.reduceMul, Nat.reduceSub, Nat.reduceLeDiff, Nat.reduceLT, Nat.reduceBEq, Nat.reduceBNe, reduceCtorEq, Int.reduceBEq, Int.reduceBNe, Int.reduceLT, Int.reduceLE, Int.reduceEq, Int.reduceToNat, Int.reduceAdd, Int.reduceSub, Int.reduceNeg, h, hk, callR_val (c_r01_Bad _ _ _ hc (show (s.drop k).length ≤ _ by rw [List.length_drop]; omega)), hl, wrap_of (show (k : Int) + (sp c (s.drop k) : Nat) = ((k + sp c (s.drop k) : Nat) : Int) by omega) (by omega)]
end Go.Proofs.YtmjoaiccbghijaaGreatDoor.paramAgain

namespace Go.Proofs.YtmjoaiccbghijaaGreatDoor.paramAgain
open Go.Ev hiding Comes
variable [GG]

/-- How many bytes at the beginning are a keyword. -/
def kwd (s : List UInt8) : Nat := match s with
  | [] => 0
  | b :: r => if isF 3 b.toNat = true then sp 10 (b :: r) else 0
theorem kwd_le (s : List UInt8) : kwd s ≤ s.length := by
  cases s with
  | nil => simp [kwd]
  | cons b r =>
    simp only [kwd]
    split
    · exact sp_le _ _
    · omega
theorem c_param_keyword (m : Mem) (s : List UInt8) (hN : s.length ≤ 4611686018427387904) : Go.Ev.Comes T G f_param_keyword [.str s] m none ⟨.val (.int .i64 (kwd s : Nat)), m, none⟩ := by
  refine comes2 T_param_keyword rfl fun M hg hlen hlow => ?_
  have hl : m.bl.length ≤ M.low := by omega
  simp only [F_param_keyword]
  cases s with
  | nil => simp +contextual only [vq, vc, ve, vv, vn, vl, ↓reduceIte, Nat.reduceEqDiff, Nat.reduceAdd, Nat.reduceMul, Nat.reduceSub, Nat.reduceLeDiff, Nat.reduceLT, Nat.reduceBEq, Nat.reduceBNe, reduceCtorEq, Int.reduceBEq, Int.reduceBNe, Int.reduceLT, Int.reduceLE, Int.reduceEq, Int.reduceToNat, Int.reduceAdd, Int.reduceSub, Int.reduceNeg, hl, kwd]; rfl
  | cons b r =>
    have e : ((b :: r) == []) = false := rfl
    have h0 := c_octet_Span_string M 10 (b :: r) 0 (Nat.zero_le _) hN
    rw [Nat.zero_add, List.drop_zero] at h0
    have h : Go.Ev.Comes T G f_octet_Span_string [.int .i64 10, .str (b :: r), .int .i64 0] M none ⟨.val (.int .i64 (sp 10 (b :: r) : Nat)), M, none⟩ := h0
    cases hb : isF 3 b.toNat with
    | true => simp +contextual only [vq, vc, ve, vv, vn, vl, ↓reduceIte, Nat.reduceEqDiff, Nat.reduceAdd, Nat.reduceMul, Nat.reduceSub, Nat.reduceLeDiff, Nat.reduceLT, Nat.reduceBEq, Nat.reduceBNe, reduceCtorEq, Int.reduceBEq, Int.reduceBNe, Int.reduceLT, Int.reduceLE, Int.reduceEq, Int.reduceToNat, Int.reduceAdd, Int.reduceSub, Int.reduceNeg, e, callR_val (c_octet_Is _ _ _), hb, callR_val h, hl, kwd]
    | false => simp +contextual only [vq, vc, ve, vv, vn, vl, ↓reduceIte, Nat.reduceEqDiff, Nat.reduceAdd, Nat.reduceMul, Nat.reduceSub, Nat.reduceLeDiff, Nat.reduceLT, Nat.reduceBEq, Nat.reduceBNe, reduceCtorEq, Int.reduceBEq, Int.reduceBNe, Int.reduceLT, Int.reduceLE, Int.reduceEq, Int.reduceToNat, Int.reduceAdd, Int.reduceSub, Int.reduceNeg, e, callR_val (c_octet_Is _ _ _), hb, hl, kwd]; rfl
theorem c_r10_keyword (m : Mem) (s : List UInt8) (k : Nat) (hk : k ≤ s.length) (hN : s.length ≤ 4611686018427387904) : Go.Ev.Comes T G f_r10_keyword [.str s, .int .i64 k] m none ⟨.val (.int .i64 (kwd (s.drop k) : Nat)), m, none⟩ := by
  refine comes2 T_r10_keyword rfl fun M hg hlen hlow => ?_
  have hl : m.bl.length ≤ M.low := by omega
  simp only [F_r10_keyword]
  by_cases h : k < s.length
  · have hd : s.drop k = s[k] :: s.drop (k + 1) := List.drop_eq_getElem_cons h
    have hle := sp_le 10 (s.drop k)
    rw [List.length_drop] at hle
    have h1 : (s.length ≤ k) = False := eq_false (by omega)
    have hs := c_r01_Span M 10 s k (by omega) hk hN
    cases hb : isF 3 s[k].toNat with
    | true =>
      have e : kwd (s.drop k) = sp 10 (s.drop k) := by rw [hd, kwd, if_pos hb]
      simp +contextual only [vq, vc, ve, vv, vn, vl, ↓reduceIte, Nat.reduceEqDiff, Nat.reduceAdd, Nat.reduceMul, Nat.reduceSub, Nat.reduceLeDiff, Nat.reduceLT, Nat.reduceBEq, Nat.reduceBNe, reduceCtorEq, Int.reduceBEq, Int.reduceBNe, Int.reduceLT, Int.reduceLE, Int.reduceEq, Int.reduceToNat, Int.reduceAdd, Int.reduceSub, Int.reduceNeg, h1, get_byte h, callR_val (c_r01_Is _ 3 _ (by omega)), hb, callR_val hs, hl, e]
      rw [wrap_of (n := sp 10 (s.drop k)) (by omega) (by omega)]
    | false =>
      have e : kwd (s.drop k) = 0 := by rw [hd, kwd, if_neg (by simp [hb])]
      simp +contextual only [vq, vc, ve, vv, vn, vl, ↓reduceIte, Nat.reduceEqDiff, Nat.reduceAdd, Nat.reduceMul, Nat.reduceSub, Nat.reduceLeDiff, Nat.reduceLT, Nat.reduceBEq, Nat.reduceBNe, reduceCtorEq, Int.reduceBEq, Int.reduceBNe, Int.reduceLT, Int.reduceLE, Int.reduceEq, Int.reduceToNat, Int.reduceAdd, Int.reduceSub, Int.reduceNeg, h1, get_byte h, callR_val (c_r01_Is _ 3 _ (by omega)), hb, hl, e]; rfl
  · have h1 : (s.length ≤ k) = True := eq_true (by omega)
    have e : kwd (s.drop k) = 0 := by rw [List.drop_eq_nil_of_le (by omega)]; rfl
    simp +contextual only [vq, vc, ve, vv, vn, vl, ↓reduceIte, Nat.reduceEqDiff, Nat.reduceAdd, Nat.reduceMul, Nat.reduceSub, Nat.reduceLeDiff, Nat.reduceLT, Nat.reduceBEq, Nat.reduceBNe, reduceCtorEq, Int.reduceBEq, Int.reduceBNe, Int.reduceLT, Int.reduceLE, Int.reduceEq, Int.reduceToNat, Int.reduceAdd, Int.reduceSub, Int.reduceNeg, h1, hl, e]; rfl
end Go.Proofs.YtmjoaiccbghijaaGreatDoor.paramAgain

namespace Go.Proofs.YtmjoaiccbghijaaGreatDoor.paramAgain
open Go.Ev hiding Comes
variable [GG]

theorem up_toNat (b : UInt8) : ((up b).toNat : Int) = if 97 ≤ (b.toNat : Int) ∧ (b.toNat : Int) ≤ 122 then (b.toNat : Int) - 32 else b.toNat := by
  have h : ∀ n : Fin 256, ((up (UInt8.ofNat n.val)).toNat : Int) = if 97 ≤ ((UInt8.ofNat n.val).toNat : Int) ∧ ((UInt8.ofNat n.val).toNat : Int) ≤ 122 then ((UInt8.ofNat n.val).toNat : Int) - 32 else (UInt8.ofNat n.val).toNat := by decide +kernel
  have := h ⟨b.toNat, b.toNat_lt⟩
  rwa [UInt8.ofNat_toNat] at this
theorem c_octet_upper (m : Mem) (b : UInt8) : Go.Ev.Comes T G f_octet_upper [.int .u8 b.toNat] m none ⟨.val (.int .u8 (up b).toNat), m, none⟩ := by
  refine comes2 T_octet_upper rfl fun M hg hlen hlow => ?_
  have hl : m.bl.length ≤ M.low := by omega
  have hu := up_toNat b
  simp only [F_octet_upper]
  simp +contextual only [vq, vc, ve, vv, vn, vl, ↓reduceIte, Nat.reduceEqDiff, Nat.reduceAdd, Nat.reduceMul, Nat.reduceSub, Nat.reduceLeDiff, Nat.reduceLT, Nat.reduceBEq, Nat.reduceBNe, reduceCtorEq, Int.reduceBEq, Int.reduceBNe, Int.reduceLT, Int.reduceLE, Int.reduceEq, Int.reduceToNat, Int.reduceAdd, Int.reduceSub, Int.reduceNeg]
  refine br2_mk (fun h => ?_) (fun h => ?_)
  · have h : 97 ≤ (b.toNat : Int) ∧ (b.toNat : Int) ≤ 122 := by simpa using h
    rw [if_pos h] at hu
    simp +contextual only [vq, vc, ve, vv, vn, vl, ↓reduceIte, Nat.reduceEqDiff, Nat.reduceAdd, Nat.reduceMul, Nat.reduceSub, Nat.reduceLeDiff, Nat.reduceLT, Nat.reduceBEq, Nat.reduceBNe, reduceCtorEq, Int.reduceBEq, Int.reduceBNe, Int.reduceLT, Int.reduceLE, Int.reduceEq, Int.reduceToNat, Int.reduceAdd, Int.reduceSub, Int.reduceNeg, hl, hu, wrap8 (show 0 ≤ (b.toNat : Int) - 97 by omega) (by omega)]
    rw [wrap8 (by omega) (by omega)]
    omega
  · have h : ¬ (97 ≤ (b.toNat : Int) ∧ (b.toNat : Int) ≤ 122) := by
      intro k
      simp [k] at h
    rw [if_neg h] at hu
    simp +contextual only [vq, vc, ve, vv, vn, vl, ↓reduceIte, Nat.reduceEqDiff, Nat.reduceAdd, Nat.reduceMul, Nat.reduceSub, Nat.reduceLeDiff, Nat.reduceLT, Nat.reduceBEq, Nat.reduceBNe, reduceCtorEq, Int.reduceBEq, Int.reduceBNe, Int.reduceLT, Int.reduceLE, Int.reduceEq, Int.reduceToNat, Int.reduceAdd, Int.reduceSub, Int.reduceNeg, hl, hu]
end Go.Proofs.YtmjoaiccbghijaaGreatDoor.paramAgain

namespace Go.Proofs.YtmjoaiccbghijaaGreatDoor.paramAgain
open Go.Ev hiding Comes
variable [GG]

theorem c_octet_Upper (m : Mem) (s : List UInt8) (hN : s.length ≤ 4611686018427387904 / 65536) : Go.Ev.Comes T G f_octet_Upper [.str s] m none ⟨.val (.str (upS s)), m, none⟩ := by
  refine comes2 T_octet_Upper rfl fun M hg hlen hlow => ?_
  simp only [F_octet_Upper]
  have k1 : ((1 : Nat) : Int) * (s.length : Int) ≤ 281474976710656 := by omega
  simp +contextual only [vq, vc, ve, vv, vn, vl, ↓reduceIte, Nat.reduceEqDiff, Nat.reduceAdd, Nat.reduceMul, Nat.reduceSub, Nat.reduceLeDiff, Nat.reduceLT, Nat.reduceBEq, Nat.reduceBNe, reduceCtorEq, Int.reduceBEq, Int.reduceBNe, Int.reduceLT, Int.reduceLE, Int.reduceEq, Int.reduceToNat, Int.reduceAdd, Int.reduceSub, Int.reduceNeg, k1]
  refine new_mk fun M1 e1 => ?_
  simp +contextual only [vq, vc, ve, vv, vn, vl, ↓reduceIte, Nat.reduceEqDiff, Nat.reduceAdd, Nat.reduceMul, Nat.reduceSub, Nat.reduceLeDiff, Nat.reduceLT, Nat.reduceBEq, Nat.reduceBNe, reduceCtorEq, Int.reduceBEq, Int.reduceBNe, Int.reduceLT, Int.reduceLE, Int.reduceEq, Int.reduceToNat, Int.reduceAdd, Int.reduceSub, Int.reduceNeg]
  have R1 : RowIs M1 M.bl.length (repE s.length [.int .u8 0]) := by rw [e1]; exact row_push _ _
  refine loop2 (fun n st => ∃ i A N, st = ⟨A, N, [], none⟩ ∧ m.bl.length ≤ N.low ∧ n = s.length - i ∧ i ≤ s.length ∧ A 0 = .str s ∧ A 3 = .slice (some ⟨.mem M.bl.length 0, 0⟩) s.length s.length 1 ∧ A 9 = .int .i64 s.length ∧ A 10 = .int .i64 i ∧ RowIs N M.bl.length (bytesE (upS (s.take i)) ++ List.replicate (s.length - i) (.int .u8 0))) s.length ⟨0, _, _, rfl, by rw [e1]; show _ ≤ M.low; omega, by omega, by omega, by simp +contextual only [vq, vc, ve, vv, vn, vl, ↓reduceIte, Nat.reduceEqDiff, Nat.reduceAdd, Nat.reduceMul, Nat.reduceSub, Nat.reduceLeDiff, Nat.reduceLT, Nat.reduceBEq, Nat.reduceBNe, reduceCtorEq, Int.reduceBEq, Int.reduceBNe, Int.reduceLT, Int.reduceLE, Int.reduceEq, Int.reduceToNat, Int.reduceAdd, Int.reduceSub, Int.reduceNeg], by simp +contextual only [vq, vc, ve, vv, vn, vl, ↓reduceIte, Nat.reduceEqDiff, Nat.reduceAdd, Nat.reduceMul, Nat.reduceSub, Nat.reduceLeDiff, Nat.reduceLT, Nat.reduceBEq, Nat.reduceBNe, reduceCtorEq, Int.reduceBEq, Int.reduceBNe, Int.reduceLT, Int.reduceLE, Int.reduceEq, Int.reduceToNat, Int.reduceAdd, Int.reduceSub, Int.reduceNeg], by simp +contextual only [vq, vc, ve, vv, vn, vl, ↓reduceIte, Nat.reduceEqDiff, Nat.reduceAdd, Nat.reduceMul, Nat.reduceSub, Nat.reduceLeDiff, Nat.reduceLT, Nat.reduceBEq, Nat.reduceBNe, reduceCtorEq, Int.reduceBEq, Int.reduceBNe, Int.reduceLT, Int.reduceLE, Int.reduceEq, Int.reduceToNat, Int.reduceAdd, Int.reduceSub, Int.reduceNeg], by simp +contextual only [vq, vc, ve, vv, vn, vl, ↓reduceIte, Nat.reduceEqDiff, Nat.reduceAdd, Nat.reduceMul, Nat.reduceSub, Nat.reduceLeDiff, Nat.reduceLT, Nat.reduceBEq, Nat.reduceBNe, reduceCtorEq, Int.reduceBEq, Int.reduceBNe, Int.reduceLT, Int.reduceLE, Int.reduceEq, Int.reduceToNat, Int.reduceAdd, Int.reduceSub, Int.reduceNeg]; rfl, by simpa [repE, upS, bytesE] using R1⟩ fun J hJ n st hI => ?_
  obtain ⟨i, A, N, rfl, lN, rfl, hi, A0, A3, A9, A10, RN⟩ := hI
  simp +contextual only [vq, vc, ve, vv, vn, vl, ↓reduceIte, Nat.reduceEqDiff, Nat.reduceAdd, Nat.reduceMul, Nat.reduceSub, Nat.reduceLeDiff, Nat.reduceLT, Nat.reduceBEq, Nat.reduceBNe, reduceCtorEq, Int.reduceBEq, Int.reduceBNe, Int.reduceLT, Int.reduceLE, Int.reduceEq, Int.reduceToNat, Int.reduceAdd, Int.reduceSub, Int.reduceNeg, A9, A10]
  refine br2_dec (fun hlt => ?_) (fun hge => ?_)
  · have ho : i < (bytesE (upS (s.take i)) ++ List.replicate (s.length - i) (EV.int .u8 0)).length := by simp [upS, bytesE]; omega
    obtain ⟨N1, p1, R2, t1, w1⟩ := put1_row (v := .int .u8 (up s[i]).toNat) RN ho
    simp +contextual only [vq, vc, ve, vv, vn, vl, ↓reduceIte, Nat.reduceEqDiff, Nat.reduceAdd, Nat.reduceMul, Nat.reduceSub, Nat.reduceLeDiff, Nat.reduceLT, Nat.reduceBEq, Nat.reduceBNe, reduceCtorEq, Int.reduceBEq, Int.reduceBNe, Int.reduceLT, Int.reduceLE, Int.reduceEq, Int.reduceToNat, Int.reduceAdd, Int.reduceSub, Int.reduceNeg, A0, A3, A10, get_byte hlt, callR_val (c_octet_upper _ _), hlt, p1, wsucc hlt (by omega)]
    refine again2 hJ (s.length - (i + 1)) (by omega) ⟨i + 1, _, N1, rfl, by omega, rfl, by omega, by simp +contextual only [vq, vc, ve, vv, vn, vl, ↓reduceIte, Nat.reduceEqDiff, Nat.reduceAdd, Nat.reduceMul, Nat.reduceSub, Nat.reduceLeDiff, Nat.reduceLT, Nat.reduceBEq, Nat.reduceBNe, reduceCtorEq, Int.reduceBEq, Int.reduceBNe, Int.reduceLT, Int.reduceLE, Int.reduceEq, Int.reduceToNat, Int.reduceAdd, Int.reduceSub, Int.reduceNeg, A0], by simp +contextual only [vq, vc, ve, vv, vn, vl, ↓reduceIte, Nat.reduceEqDiff, Nat.reduceAdd, Nat.reduceMul, Nat.reduceSub, Nat.reduceLeDiff, Nat.reduceLT, Nat.reduceBEq, Nat.reduceBNe, reduceCtorEq, Int.reduceBEq, Int.reduceBNe, Int.reduceLT, Int.reduceLE, Int.reduceEq, Int.reduceToNat, Int.reduceAdd, Int.reduceSub, Int.reduceNeg, A3], by simp +contextual only [vq, vc, ve, vv, vn, vl, ↓reduceIte, Nat.reduceEqDiff, Nat.reduceAdd, Nat.reduceMul, Nat.reduceSub, Nat.reduceLeDiff, Nat.reduceLT, Nat.reduceBEq, Nat.reduceBNe, reduceCtorEq, Int.reduceBEq, Int.reduceBNe, Int.reduceLT, Int.reduceLE, Int.reduceEq, Int.reduceToNat, Int.reduceAdd, Int.reduceSub, Int.reduceNeg, A9], by simp +contextual only [vq, vc, ve, vv, vn, vl, ↓reduceIte, Nat.reduceEqDiff, Nat.reduceAdd, Nat.reduceMul, Nat.reduceSub, Nat.reduceLeDiff, Nat.reduceLT, Nat.reduceBEq, Nat.reduceBNe, reduceCtorEq, Int.reduceBEq, Int.reduceBNe, Int.reduceLT, Int.reduceLE, Int.reduceEq, Int.reduceToNat, Int.reduceAdd, Int.reduceSub, Int.reduceNeg], ?_⟩
    have e2 : s.length - i = (s.length - (i + 1)) + 1 := by omega
    have e3 : upS (s.take (i + 1)) = upS (s.take i) ++ [up s[i]] := by simp only [upS, List.take_succ_eq_append_getElem hlt, List.map_append]; rfl
    have e4 : (bytesE (upS (s.take i))).length = i := by simp [upS, bytesE]; omega
    rw [e2, List.replicate_succ, List.set_append_right _ _ (by omega), e4, Nat.sub_self, List.set_cons_zero] at R2
    rw [e3, bytes_app, List.append_assoc]
    exact R2
  · have he : i = s.length := by omega
    subst he
    rw [List.take_length, Nat.sub_self, List.replicate_zero, List.append_nil] at RN
    have g : N.getN G ⟨.mem M.bl.length 0, 0⟩ s.length = some (bytesE (upS s)) := getN_row RN (sub_all (by simp [upS, bytesE]))
    simp +contextual only [vq, vc, ve, vv, vn, vl, ↓reduceIte, Nat.reduceEqDiff, Nat.reduceAdd, Nat.reduceMul, Nat.reduceSub, Nat.reduceLeDiff, Nat.reduceLT, Nat.reduceBEq, Nat.reduceBNe, reduceCtorEq, Int.reduceBEq, Int.reduceBNe, Int.reduceLT, Int.reduceLE, Int.reduceEq, Int.reduceToNat, Int.reduceAdd, Int.reduceSub, Int.reduceNeg, A3, g, lN]
end Go.Proofs.YtmjoaiccbghijaaGreatDoor.paramAgain

namespace Go.Proofs.YtmjoaiccbghijaaGreatDoor.paramAgain
open Go.Ev hiding Comes


/-- A reader of UTF-8 takes a byte: may it stand there, and where the reader stands behind it. -/
def tkLo (b : Nat) : Nat := if b = 224 then 160 else if b = 240 then 144 else 128
def tkHi (b : Nat) : Nat := if b = 237 then 159 else if b = 244 then 143 else 191
def tk (need lo hi b : Nat) : Bool × Nat × Nat × Nat :=
  if 0 < need then (if b < lo ∨ hi < b then (false, need, lo, hi) else (true, need - 1, 128, 191))
  else if b < 128 then (true, 0, 128, 191) else if b < 194 ∨ 244 < b then (false, 0, 128, 191)
  else (true, (if b < 224 then 1 else if b < 240 then 2 else 3), tkLo b, tkHi b)
def stE (st : Nat × Nat × Nat) : List EV := [.int .u8 (st.1 : Nat), .int .u8 (st.2.1 : Nat), .int .u8 (st.2.2 : Nat)]

/-- What the first byte of n has at its top. -/
def leadZ (n : Nat) : Int := [0, 0, 192, 224, 240].getD n 0
/-- Is a number a rune? -/
def isR (r : Int) : Bool := (decide (0 ≤ r) && decide (r ≤ 1114111)) && (decide (r < 55296) || decide (57343 < r))


/-! The plain law of UTF-8: how many bytes the well-formed rune at the head of a row has, by a reader's steps and by writing the rune. -/
def inr (lo hi : Nat) (b : UInt8) : Bool := decide (lo ≤ b.toNat) && decide (b.toNat ≤ hi)
/-- How many bytes the rune at the head has; 0: there is none. -/
def wf : List UInt8 → Nat
  | [] => 0
  | b :: r =>
    if b.toNat < 128 then 1
    else if b.toNat < 194 ∨ 244 < b.toNat then 0
    else if b.toNat < 224 then (match r with
      | c :: _ => if inr 128 191 c then 2 else 0
      | [] => 0)
    else if b.toNat < 240 then (match r with
      | c :: d :: _ => if inr (tkLo b.toNat) (tkHi b.toNat) c && inr 128 191 d then 3 else 0
      | _ => 0)
    else (match r with
      | c :: d :: e :: _ => if inr (tkLo b.toNat) (tkHi b.toNat) c && (inr 128 191 d && inr 128 191 e) then 4 else 0
      | _ => 0)
/-- How long the longest well-formed beginning is. -/
def good : Nat → List UInt8 → Nat
  | 0, _ => 0
  | f + 1, l => match wf l with
    | 0 => 0
    | n + 1 => n + 1 + good f (l.drop (n + 1))
/-- The reader, byte by byte. -/
def pb (bg i n lo hi : Nat) : List UInt8 → Nat
  | [] => if 0 < n then bg else i
  | b :: r => if (tk n lo hi b.toNat).1 = true then pb (if n = 0 then i else bg) (i + 1) (tk n lo hi b.toNat).2.1 (tk n lo hi b.toNat).2.2.1 (tk n lo hi b.toNat).2.2.2 r else (if n = 0 then i else bg)

theorem tk_more {n lo hi b : Nat} (hn : 0 < n) : tk n lo hi b = if b < lo ∨ hi < b then (false, n, lo, hi) else (true, n - 1, 128, 191) := by
  unfold tk
  rw [if_pos hn]
theorem pb_in {bg i n lo hi : Nat} {c : UInt8} {r : List UInt8} (h : inr lo hi c = true) : pb bg i (n + 1) lo hi (c :: r) = pb bg (i + 1) n 128 191 r := by
  have : ¬ (c.toNat < lo ∨ hi < c.toNat) := by simp [inr] at h; omega
  simp only [pb, tk_more (n := n + 1) (by omega), if_neg this, if_true, Nat.add_sub_cancel, Nat.add_one_ne_zero, if_false]
theorem pb_out {bg i n lo hi : Nat} {c : UInt8} {r : List UInt8} (h : inr lo hi c = false) : pb bg i (n + 1) lo hi (c :: r) = bg := by
  have : c.toNat < lo ∨ hi < c.toNat := by simp [inr] at h; omega
  simp only [pb, tk_more (n := n + 1) (by omega), if_pos this, Bool.false_eq_true, if_false, Nat.add_one_ne_zero]
theorem pb_nil {bg i n lo hi : Nat} : pb bg i (n + 1) lo hi [] = bg := by simp [pb]

theorem pb_good : ∀ (f : Nat) (l : List UInt8) (bg i lo hi : Nat), l.length ≤ f → pb bg i 0 lo hi l = i + good f l
  | f, [], bg, i, lo, hi, _ => by cases f <;> simp [pb, good, wf]
  | 0, b :: r, _, _, _, _, h => by simp at h
  | f + 1, b :: r, bg, i, lo, hi, h => by
    have hr : r.length ≤ f := by simpa using h
    have t0 : tk 0 lo hi b.toNat = if b.toNat < 128 then (true, 0, 128, 191) else if b.toNat < 194 ∨ 244 < b.toNat then (false, 0, 128, 191)
      else (true, (if b.toNat < 224 then 1 else if b.toNat < 240 then 2 else 3), tkLo b.toNat, tkHi b.toNat) := rfl
    by_cases h1 : b.toNat < 128
    · rw [if_pos h1] at t0
      simp only [pb, t0, if_true, good, wf, if_pos h1, List.drop_succ_cons, List.drop_zero]
      rw [pb_good f r i (i + 1) _ _ hr]
      omega
    · rw [if_neg h1] at t0
      by_cases h2 : b.toNat < 194 ∨ 244 < b.toNat
      · rw [if_pos h2] at t0
        simp only [pb, t0, Bool.false_eq_true, if_false, if_true, good, wf, if_neg h1, if_pos h2]
        omega
      · rw [if_neg h2] at t0
        by_cases h3 : b.toNat < 224
        · rw [if_pos h3] at t0
          have hlo : tkLo b.toNat = 128 := by unfold tkLo; rw [if_neg (by omega), if_neg (by omega)]
          have hhi : tkHi b.toNat = 191 := by unfold tkHi; rw [if_neg (by omega), if_neg (by omega)]
          rw [hlo, hhi] at t0
          simp only [pb, t0, if_true]
          cases r with
          | nil => simp [pb, good, wf, h1, h2, h3]
          | cons c r =>
            simp only [good, wf, if_neg h1, if_neg h2, if_pos h3]
            cases hc : inr 128 191 c with
            | true =>
              rw [pb_in (n := 0) hc, pb_good f r i (i + 1 + 1) _ _ (by simp at hr; omega)]
              simp only [if_true, List.drop_succ_cons, List.drop_zero]
              omega
            | false =>
              rw [pb_out (n := 0) hc]
              simp
        · rw [if_neg h3] at t0
          by_cases h4 : b.toNat < 240
          · rw [if_pos h4] at t0
            simp only [pb, t0, if_true]
            cases r with
            | nil => simp [pb, good, wf, h1, h2, h3, h4]
            | cons c r =>
              cases hc : inr (tkLo b.toNat) (tkHi b.toNat) c with
              | false =>
                rw [pb_out (n := 1) hc]
                cases r <;> simp [good, wf, h1, h2, h3, h4, hc]
              | true =>
                rw [pb_in (n := 1) hc]
                cases r with
                | nil => simp [pb, good, wf, h1, h2, h3, h4]
                | cons d r =>
                  simp only [good, wf, if_neg h1, if_neg h2, if_neg h3, if_pos h4, hc, Bool.true_and]
                  cases hd : inr 128 191 d with
                  | true =>
                    rw [pb_in (n := 0) hd, pb_good f r i (i + 1 + 1 + 1) _ _ (by simp at hr; omega)]
                    simp only [if_true, List.drop_succ_cons, List.drop_zero]
                    omega
                  | false =>
                    rw [pb_out (n := 0) hd]
                    simp
          · rw [if_neg h4] at t0
            simp only [pb, t0, if_true]
            cases r with
            | nil => simp [pb, good, wf, h1, h2, h3, h4]
            | cons c r =>
              cases hc : inr (tkLo b.toNat) (tkHi b.toNat) c with
              | false =>
                rw [pb_out (n := 2) hc]
                rcases r with _ | ⟨d, _ | ⟨e, r⟩⟩ <;> simp [good, wf, h1, h2, h3, h4, hc]
              | true =>
                rw [pb_in (n := 2) hc]
                cases r with
                | nil => simp [pb, good, wf, h1, h2, h3, h4]
                | cons d r =>
                  cases hd : inr 128 191 d with
                  | false =>
                    rw [pb_out (n := 1) hd]
                    cases r <;> simp [good, wf, h1, h2, h3, h4, hc, hd]
                  | true =>
                    rw [pb_in (n := 1) hd]
                    cases r with
                    | nil => simp [pb, good, wf, h1, h2, h3, h4]
                    | cons e r =>
                      simp only [good, wf, if_neg h1, if_neg h2, if_neg h3, if_neg h4, hc, hd, Bool.true_and]
                      cases he : inr 128 191 e with
                      | true =>
                        rw [pb_in (n := 0) he, pb_good f r i (i + 1 + 1 + 1 + 1) _ _ (by simp at hr; omega)]
                        simp only [if_true, List.drop_succ_cons, List.drop_zero]
                        omega
                      | false =>
                        rw [pb_out (n := 0) he]
                        simp

/-- The number that bytes make. -/
def madeX (l : List UInt8) : Int := match l with
  | [] => 0
  | b :: r => r.foldl (fun x c => 64 * x + (c.toNat : Int) - 128) ((b.toNat : Int) - leadZ l.length)
/-- The bytes of a rune. -/
def bt (z : Int) : UInt8 := UInt8.ofNat z.toNat
def wr (x : Int) : List UInt8 :=
  if x < 128 then [bt x] else if x < 2048 then [bt (192 + x / 64), bt (128 + x % 64)]
  else if x < 65536 then [bt (224 + x / 4096), bt (128 + x / 64 % 64), bt (128 + x % 64)]
  else [bt (240 + x / 262144), bt (128 + x / 4096 % 64), bt (128 + x / 64 % 64), bt (128 + x % 64)]
def madeOk (l : List UInt8) : Bool := isR (madeX l) && (wr (madeX l) == l)

theorem bt_eq {z : Int} {a : UInt8} (h0 : 0 ≤ z) (h1 : z < 256) : (bt z = a) ↔ z = (a.toNat : Int) := by
  constructor
  · rintro rfl
    simp only [bt, UInt8.toNat_ofNat']
    omega
  · intro h
    apply UInt8.toNat_inj.1
    simp only [bt, UInt8.toNat_ofNat']
    omega
theorem isR_iff (x : Int) : isR x = true ↔ (0 ≤ x ∧ x ≤ 1114111) ∧ (x < 55296 ∨ 57343 < x) := by
  simp [isR]

theorem lo_iff (a b : Nat) : tkLo a ≤ b ↔ (a = 224 → 160 ≤ b) ∧ (a = 240 → 144 ≤ b) ∧ 128 ≤ b := by
  unfold tkLo
  split
  · omega
  · split <;> omega
theorem hi_iff (a b : Nat) : b ≤ tkHi a ↔ (a = 237 → b ≤ 159) ∧ (a = 244 → b ≤ 143) ∧ b ≤ 191 := by
  unfold tkHi
  split
  · omega
  · split <;> omega

theorem made1 (a : UInt8) : madeOk [a] = decide (a.toNat < 128) := by
  have ha := a.toNat_lt
  rw [Bool.eq_iff_iff, decide_eq_true_eq]
  simp only [madeOk, Bool.and_eq_true, isR_iff, beq_iff_eq, madeX, List.foldl_nil, List.length_cons, List.length_nil, leadZ, List.getD]
  simp only [show ([0, 0, 192, 224, 240] : List Int)[0 + 1]?.getD 0 = 0 from rfl, Int.sub_zero]
  constructor
  · rintro ⟨_, h⟩
    unfold wr at h
    split at h
    · omega
    · split at h
      · simp at h
      · split at h <;> simp at h
  · intro h
    refine ⟨by omega, ?_⟩
    unfold wr
    rw [if_pos (by omega)]
    simp only [List.cons.injEq, and_true]
    rw [bt_eq (by omega) (by omega)]

theorem made2 (a b : UInt8) : madeOk [a, b] = (decide (194 ≤ a.toNat ∧ a.toNat < 224) && inr 128 191 b) := by
  have ha := a.toNat_lt
  have hb := b.toNat_lt
  rw [Bool.eq_iff_iff]
  simp only [madeOk, Bool.and_eq_true, isR_iff, beq_iff_eq, madeX, List.foldl_nil, List.foldl_cons, List.length_cons, List.length_nil, leadZ, List.getD, inr, decide_eq_true_eq]
  simp only [show ([0, 0, 192, 224, 240] : List Int)[0 + 1 + 1]?.getD 0 = 192 from rfl]
  generalize hx : 64 * ((a.toNat : Int) - 192) + (b.toNat : Int) - 128 = x
  constructor
  · rintro ⟨hr, h⟩
    unfold wr at h
    split at h
    · simp at h
    · split at h
      · simp only [List.cons.injEq, and_true] at h
        rw [bt_eq (by omega) (by omega), bt_eq (by omega) (by omega)] at h
        omega
      · split at h <;> simp at h
  · intro h
    refine ⟨by omega, ?_⟩
    unfold wr
    rw [if_neg (by omega), if_pos (by omega)]
    simp only [List.cons.injEq, and_true]
    rw [bt_eq (by omega) (by omega), bt_eq (by omega) (by omega)]
    omega

theorem made3 (a b c : UInt8) : madeOk [a, b, c] = (decide (224 ≤ a.toNat ∧ a.toNat < 240) && (inr (tkLo a.toNat) (tkHi a.toNat) b && inr 128 191 c)) := by
  have ha := a.toNat_lt
  have hb := b.toNat_lt
  have hc := c.toNat_lt
  rw [Bool.eq_iff_iff]
  simp only [madeOk, Bool.and_eq_true, isR_iff, beq_iff_eq, madeX, List.foldl_nil, List.foldl_cons, List.length_cons, List.length_nil, leadZ, List.getD, inr, decide_eq_true_eq, lo_iff, hi_iff]
  simp only [show ([0, 0, 192, 224, 240] : List Int)[0 + 1 + 1 + 1]?.getD 0 = 224 from rfl]
  generalize hx : 64 * (64 * ((a.toNat : Int) - 224) + (b.toNat : Int) - 128) + (c.toNat : Int) - 128 = x
  constructor
  · rintro ⟨hr, h⟩
    unfold wr at h
    split at h
    · simp at h
    · split at h
      · simp at h
      · split at h
        · simp only [List.cons.injEq, and_true] at h
          rw [bt_eq (by omega) (by omega), bt_eq (by omega) (by omega), bt_eq (by omega) (by omega)] at h
          omega
        · simp at h
  · intro h
    refine ⟨by omega, ?_⟩
    unfold wr
    rw [if_neg (by omega), if_neg (by omega), if_pos (by omega)]
    simp only [List.cons.injEq, and_true]
    rw [bt_eq (by omega) (by omega), bt_eq (by omega) (by omega), bt_eq (by omega) (by omega)]
    omega

theorem made4 (a b c d : UInt8) : madeOk [a, b, c, d] = (decide (240 ≤ a.toNat ∧ a.toNat < 245) && (inr (tkLo a.toNat) (tkHi a.toNat) b && (inr 128 191 c && inr 128 191 d))) := by
  have ha := a.toNat_lt
  have hb := b.toNat_lt
  have hc := c.toNat_lt
  have hd := d.toNat_lt
  rw [Bool.eq_iff_iff]
  simp only [madeOk, Bool.and_eq_true, isR_iff, beq_iff_eq, madeX, List.foldl_nil, List.foldl_cons, List.length_cons, List.length_nil, leadZ, List.getD, inr, decide_eq_true_eq, lo_iff, hi_iff]
  simp only [show ([0, 0, 192, 224, 240] : List Int)[0 + 1 + 1 + 1 + 1]?.getD 0 = 240 from rfl]
  generalize hx : 64 * (64 * (64 * ((a.toNat : Int) - 240) + (b.toNat : Int) - 128) + (c.toNat : Int) - 128) + (d.toNat : Int) - 128 = x
  constructor
  · rintro ⟨hr, h⟩
    unfold wr at h
    split at h
    · simp at h
    · split at h
      · simp at h
      · split at h
        · simp at h
        · simp only [List.cons.injEq, and_true] at h
          rw [bt_eq (by omega) (by omega), bt_eq (by omega) (by omega), bt_eq (by omega) (by omega), bt_eq (by omega) (by omega)] at h
          omega
  · intro h
    refine ⟨by omega, ?_⟩
    unfold wr
    rw [if_neg (by omega), if_neg (by omega), if_neg (by omega)]
    simp only [List.cons.injEq, and_true]
    rw [bt_eq (by omega) (by omega), bt_eq (by omega) (by omega), bt_eq (by omega) (by omega), bt_eq (by omega) (by omega)]
    omega

/-- Each length is the right one, or none. -/
theorem made_wf (l : List UInt8) (n : Nat) (h1 : 1 ≤ n) (h4 : n ≤ 4) (hl : n ≤ l.length) : madeOk (l.take n) = decide (wf l = n) := by
  match l, hl with
  | [], hl => simp at hl; omega
  | a :: r, hl =>
    have ha := a.toNat_lt
    have hn : n = 1 ∨ n = 2 ∨ n = 3 ∨ n = 4 := by omega
    rcases hn with rfl | rfl | rfl | rfl
    · simp only [List.take_succ_cons, List.take_zero, made1]
      rw [Bool.eq_iff_iff, decide_eq_true_eq, decide_eq_true_eq]
      unfold wf
      repeat' split
      all_goals simp_all
    · match r, hl with
      | [], hl => simp at hl
      | b :: r, hl =>
        simp only [List.take_succ_cons, List.take_zero, made2]
        rw [Bool.eq_iff_iff, decide_eq_true_eq, Bool.and_eq_true, decide_eq_true_eq]
        by_cases h1 : a.toNat < 128
        · simp only [wf, if_pos h1]; exact ⟨fun h => by omega, fun h => by omega⟩
        by_cases h2 : a.toNat < 194 ∨ 244 < a.toNat
        · simp only [wf, if_neg h1, if_pos h2]; exact ⟨fun h => by omega, fun h => by omega⟩
        by_cases h3 : a.toNat < 224
        · simp only [wf, if_neg h1, if_neg h2, if_pos h3]
          cases inr 128 191 b
          · exact ⟨fun h => by simp at h, fun h => by simp at h⟩
          · exact ⟨fun h => rfl, fun h => ⟨by omega, rfl⟩⟩
        refine ⟨fun h => by omega, fun h => ?_⟩
        exfalso
        by_cases h4 : a.toNat < 240
        · rcases r with _ | ⟨c, r⟩ <;> simp only [wf, if_neg h1, if_neg h2, if_neg h3, if_pos h4] at h
          · omega
          · split at h <;> omega
        · rcases r with _ | ⟨c, _ | ⟨d, r⟩⟩ <;> simp only [wf, if_neg h1, if_neg h2, if_neg h3, if_neg h4] at h
          · omega
          · omega
          · split at h <;> omega
    · match r, hl with
      | [], hl => simp at hl
      | [b], hl => simp at hl
      | b :: c :: r, hl =>
        simp only [List.take_succ_cons, List.take_zero, made3]
        rw [Bool.eq_iff_iff, decide_eq_true_eq, Bool.and_eq_true, decide_eq_true_eq]
        by_cases h1 : a.toNat < 128
        · simp only [wf, if_pos h1]; exact ⟨fun h => by omega, fun h => by omega⟩
        by_cases h2 : a.toNat < 194 ∨ 244 < a.toNat
        · simp only [wf, if_neg h1, if_pos h2]; exact ⟨fun h => by omega, fun h => by omega⟩
        by_cases h3 : a.toNat < 224
        · simp only [wf, if_neg h1, if_neg h2, if_pos h3]
          exact ⟨fun h => by omega, fun h => by split at h <;> omega⟩
        by_cases h4 : a.toNat < 240
        · simp only [wf, if_neg h1, if_neg h2, if_neg h3, if_pos h4]
          cases inr (tkLo a.toNat) (tkHi a.toNat) b && inr 128 191 c
          · exact ⟨fun h => by simp at h, fun h => by simp at h⟩
          · exact ⟨fun h => rfl, fun h => ⟨by omega, rfl⟩⟩
        refine ⟨fun h => by omega, fun h => ?_⟩
        exfalso
        rcases r with _ | ⟨d, r⟩ <;> simp only [wf, if_neg h1, if_neg h2, if_neg h3, if_neg h4] at h
        · omega
        · split at h <;> omega
    · match r, hl with
      | [], hl => simp at hl
      | [b], hl => simp at hl
      | [b, c], hl => simp at hl
      | b :: c :: d :: r, hl =>
        simp only [List.take_succ_cons, List.take_zero, made4]
        rw [Bool.eq_iff_iff, decide_eq_true_eq, Bool.and_eq_true, decide_eq_true_eq]
        by_cases h1 : a.toNat < 128
        · simp only [wf, if_pos h1]; exact ⟨fun h => by omega, fun h => by omega⟩
        by_cases h2 : a.toNat < 194 ∨ 244 < a.toNat
        · simp only [wf, if_neg h1, if_pos h2]; exact ⟨fun h => by omega, fun h => by omega⟩
        by_cases h3 : a.toNat < 224
        · simp only [wf, if_neg h1, if_neg h2, if_pos h3]
          exact ⟨fun h => by omega, fun h => by split at h <;> omega⟩
        by_cases h4 : a.toNat < 240
        · simp only [wf, if_neg h1, if_neg h2, if_neg h3, if_pos h4]
          exact ⟨fun h => by omega, fun h => by split at h <;> omega⟩
        simp only [wf, if_neg h1, if_neg h2, if_neg h3, if_neg h4]
        cases inr (tkLo a.toNat) (tkHi a.toNat) b && (inr 128 191 c && inr 128 191 d)
        · exact ⟨fun h => by simp at h, fun h => by simp at h⟩
        · exact ⟨fun h => rfl, fun h => ⟨by omega, rfl⟩⟩


/-- What the first k bytes make, if there are n. -/
def madeK (l : List UInt8) (k : Nat) : Int := match l with
  | [] => 0
  | b :: r => (r.take k).foldl (fun x c => 64 * x + (c.toNat : Int) - 128) ((b.toNat : Int) - leadZ l.length)
theorem madeK_end (l : List UInt8) : madeK l (l.length - 1) = madeX l := by
  cases l with
  | nil => rfl
  | cons b r => simp [madeK, madeX]
theorem madeK_next {l : List UInt8} {k : Nat} (h : k + 1 < l.length) : madeK l (k + 1) = 64 * madeK l k + (l[k + 1].toNat : Int) - 128 := by
  cases l with
  | nil => simp at h
  | cons b r =>
    have hk : k < r.length := by simpa using h
    simp only [madeK]
    rw [List.take_succ_eq_append_getElem hk, List.foldl_append]
    rfl
theorem lead_le (n : Nat) : 0 ≤ leadZ n ∧ leadZ n ≤ 240 := by
  unfold leadZ
  match n with
  | 0 | 1 | 2 | 3 | 4 => decide
  | n + 5 => simp
theorem fold_bound : ∀ (l : List UInt8) (x K : Int), -K ≤ x → x ≤ K → 0 ≤ K → l.length ≤ 4 →
    -(64 ^ l.length * (K + 300)) ≤ l.foldl (fun x c => 64 * x + (c.toNat : Int) - 128) x ∧ l.foldl (fun x c => 64 * x + (c.toNat : Int) - 128) x ≤ 64 ^ l.length * (K + 300) := by
  intro l
  match l with
  | [] => intro x K h1 h2 h3 h4; simp; omega
  | [a] => intro x K h1 h2 h3 h4; have := a.toNat_lt; simp; omega
  | [a, b] => intro x K h1 h2 h3 h4; have := a.toNat_lt; have := b.toNat_lt; simp; omega
  | [a, b, c] => intro x K h1 h2 h3 h4; have := a.toNat_lt; have := b.toNat_lt; have := c.toNat_lt; simp; omega
  | [a, b, c, d] => intro x K h1 h2 h3 h4; have := a.toNat_lt; have := b.toNat_lt; have := c.toNat_lt; have := d.toNat_lt; simp; omega
  | a :: b :: c :: d :: e :: r => intro x K h1 h2 h3 h4; simp at h4
theorem madeK_small {l : List UInt8} (h : l.length ≤ 4) (k : Nat) : -200000000 ≤ madeK l k ∧ madeK l k ≤ 200000000 := by
  cases l with
  | nil => simp [madeK]
  | cons b r =>
    have hb := b.toNat_lt
    have hl := lead_le (b :: r).length
    have hr : r.length ≤ 3 := by simpa using h
    have ht : (r.take k).length ≤ 3 := by simp; omega
    have := fold_bound (r.take k) ((b.toNat : Int) - leadZ (b :: r).length) 255 (by omega) (by omega) (by omega) (by omega)
    simp only [madeK]
    have h64 : (64 : Int) ^ (r.take k).length ≤ 262144 := by
      have : ∀ n : Nat, n ≤ 3 → (64 : Int) ^ n ≤ 262144 := by decide
      exact this _ ht
    have h65 : (64 : Int) ^ (r.take k).length * (255 + 300) ≤ 262144 * 555 := Int.mul_le_mul_of_nonneg_right h64 (by decide)
    omega
end Go.Proofs.YtmjoaiccbghijaaGreatDoor.paramAgain

namespace Go.Proofs.YtmjoaiccbghijaaGreatDoor.paramAgain
open Go.Ev hiding Comes
variable [GG]

theorem u8lt (n k : Nat) : ((n : Int) < (k : Int)) = (n < k) := propext Int.ofNat_lt
/-- A reader of UTF-8 takes a byte. -/
theorem c_runes_state_take (m : Mem) (q need lo hi : Nat) (b : UInt8) (h : RowIs m q (stE (need, lo, hi))) (hn4 : need < 4) :
    ∃ r, Go.Ev.Comes T G f_runes_state_take [.ptr (some ⟨.mem q 0, 0⟩), .int .u8 b.toNat] m none r ∧ ∃ M, r = ⟨.val (.bool (tk need lo hi b.toNat).1), M, none⟩ ∧ But1 q m M ∧ min m.low q ≤ M.low ∧ RowIs M q (stE (tk need lo hi b.toNat).2) := by
  have hq := h.lt
  refine comes2P T_runes_state_take rfl fun M hg hlen hlow => ?_
  have hM : RowIs M q (stE (need, lo, hi)) := h.grown hg
  have hbl := begin_bl hg hlen
  have fin : ∀ {M3 : Mem} {A : Fr} {v : Bool}, A 4 = .bool v → But1 q M M3 → M3.low < m.bl.length → min m.low q ≤ M3.low → (tk need lo hi b.toNat).1 = v → RowIs M3 q (stE (tk need lo hi b.toNat).2) → postX G [.tmp 4] m (fun r => ∃ M, r = ⟨.val (.bool (tk need lo hi b.toNat).1), M, none⟩ ∧ But1 q m M ∧ min m.low q ≤ M.low ∧ RowIs M q (stE (tk need lo hi b.toNat).2)) .ret ⟨A, M3, [], none⟩ := by
    intro M3 A v hA t3 hl3 hw e R
    refine postX_wrote (v := .bool v) (by simp +contextual only [vq, vc, ve, vv, vn, vl, ↓reduceIte, Nat.reduceEqDiff, Nat.reduceAdd, Nat.reduceMul, Nat.reduceSub, Nat.reduceLeDiff, Nat.reduceLT, Nat.reduceBEq, Nat.reduceBNe, reduceCtorEq, Int.reduceBEq, Int.reduceBNe, Int.reduceLT, Int.reduceLE, Int.reduceEq, Int.reduceToNat, Int.reduceAdd, Int.reduceSub, Int.reduceNeg, hA]) hl3 ⟨⟨M3.bl, min m.low M3.low⟩, by rw [e], ⟨t3.1.trans hlen, fun j hj => by rw [show (⟨M3.bl, min m.low M3.low⟩ : Mem).bl = M3.bl from rfl, t3.2 j hj, hbl]⟩, by simp only; omega, R⟩
  simp only [F_runes_state_take]
  simp only [stE] at hM
  by_cases hn : 0 < need
  · have k0 : ((0 : Int) < (need : Int)) = True := eq_true (by omega)
    by_cases hbad : b.toNat < lo ∨ hi < b.toNat
    · have e : tk need lo hi b.toNat = (false, need, lo, hi) := by rw [tk_more hn, if_pos hbad]
      have k1 : (decide (b.toNat < lo) || decide (hi < b.toNat)) = true := by simpa using hbad
      simp +contextual only [vq, vc, ve, vv, vn, vl, ↓reduceIte, Nat.reduceEqDiff, Nat.reduceAdd, Nat.reduceMul, Nat.reduceSub, Nat.reduceLeDiff, Nat.reduceLT, Nat.reduceBEq, Nat.reduceBNe, reduceCtorEq, Int.reduceBEq, Int.reduceBNe, Int.reduceLT, Int.reduceLE, Int.reduceEq, Int.reduceToNat, Int.reduceAdd, Int.reduceSub, Int.reduceNeg, hM.get (G := G), k0, k1]
      exact postX_same (v := .bool false) (by simp +contextual only [vq, vc, ve, vv, vn, vl, ↓reduceIte, Nat.reduceEqDiff, Nat.reduceAdd, Nat.reduceMul, Nat.reduceSub, Nat.reduceLeDiff, Nat.reduceLT, Nat.reduceBEq, Nat.reduceBNe, reduceCtorEq, Int.reduceBEq, Int.reduceBNe, Int.reduceLT, Int.reduceLE, Int.reduceEq, Int.reduceToNat, Int.reduceAdd, Int.reduceSub, Int.reduceNeg]) (by omega) rfl ⟨m, by rw [e], But1.rfl', by omega, by rw [e]; exact h⟩
    · have e : tk need lo hi b.toNat = (true, need - 1, 128, 191) := by rw [tk_more hn, if_neg hbad]
      have k1 : (decide (b.toNat < lo) || decide (hi < b.toNat)) = false := by simpa using hbad
      obtain ⟨M1, p1, r1, t1, w1⟩ := put1_row (off := 0) (v := .int .u8 (need - 1 : Nat)) hM (by simp)
      obtain ⟨M2, p2, r2, t2, w2⟩ := put1_row (off := 1) (v := .int .u8 128) r1 (by simp)
      obtain ⟨M3, p3, r3, t3, w3⟩ := put1_row (off := 2) (v := .int .u8 191) r2 (by simp)
      have hw : IntKind.u8.wrap ((need : Int) - 1) = ((need - 1 : Nat) : Int) := by rw [wrap8 (by omega) (by omega)]; omega
      simp +contextual only [vq, vc, ve, vv, vn, vl, ↓reduceIte, Nat.reduceEqDiff, Nat.reduceAdd, Nat.reduceMul, Nat.reduceSub, Nat.reduceLeDiff, Nat.reduceLT, Nat.reduceBEq, Nat.reduceBNe, reduceCtorEq, Int.reduceBEq, Int.reduceBNe, Int.reduceLT, Int.reduceLE, Int.reduceEq, Int.reduceToNat, Int.reduceAdd, Int.reduceSub, Int.reduceNeg, hM.get (G := G), k0, k1, hw, p1, p2, p3]
      exact fin (v := true) (by simp +contextual only [vq, vc, ve, vv, vn, vl, ↓reduceIte, Nat.reduceEqDiff, Nat.reduceAdd, Nat.reduceMul, Nat.reduceSub, Nat.reduceLeDiff, Nat.reduceLT, Nat.reduceBEq, Nat.reduceBNe, reduceCtorEq, Int.reduceBEq, Int.reduceBNe, Int.reduceLT, Int.reduceLE, Int.reduceEq, Int.reduceToNat, Int.reduceAdd, Int.reduceSub, Int.reduceNeg]) ((t1.trans t2).trans t3) (by omega) (by omega) (by rw [e]) (by rw [e]; exact r3)
  · have hn0 : need = 0 := by omega
    subst hn0
    have t0 : tk 0 lo hi b.toNat = if b.toNat < 128 then (true, 0, 128, 191) else if b.toNat < 194 ∨ 244 < b.toNat then (false, 0, 128, 191)
      else (true, (if b.toNat < 224 then 1 else if b.toNat < 240 then 2 else 3), tkLo b.toNat, tkHi b.toNat) := rfl
    have k0 : ((0 : Int) < ((0 : Nat) : Int)) = False := eq_false (by omega)
    have lt (k : Nat) : ((b.toNat : Int) < (k : Int)) = (b.toNat < k) := u8lt _ _
    have lt1 : ((b.toNat : Int) < 128) = (b.toNat < 128) := u8lt _ 128
    have lt2 : ((b.toNat : Int) < 194) = (b.toNat < 194) := u8lt _ 194
    have lt3 : ((244 : Int) < (b.toNat : Int)) = (244 < b.toNat) := u8lt 244 _
    have lt4 : ((b.toNat : Int) < 224) = (b.toNat < 224) := u8lt _ 224
    have lt5 : ((b.toNat : Int) < 240) = (b.toNat < 240) := u8lt _ 240
    obtain ⟨M1, p1, r1, t1, w1⟩ := put1_row (off := 1) (v := .int .u8 128) hM (by simp)
    obtain ⟨M2, p2, r2, t2, w2⟩ := put1_row (off := 2) (v := .int .u8 191) r1 (by simp)
    by_cases h1 : b.toNat < 128
    · rw [if_pos h1] at t0
      simp +contextual only [vq, vc, ve, vv, vn, vl, ↓reduceIte, Nat.reduceEqDiff, Nat.reduceAdd, Nat.reduceMul, Nat.reduceSub, Nat.reduceLeDiff, Nat.reduceLT, Nat.reduceBEq, Nat.reduceBNe, reduceCtorEq, Int.reduceBEq, Int.reduceBNe, Int.reduceLT, Int.reduceLE, Int.reduceEq, Int.reduceToNat, Int.reduceAdd, Int.reduceSub, Int.reduceNeg, hM.get (G := G), k0, p1, p2, lt1, h1]
      exact fin (v := true) (by simp +contextual only [vq, vc, ve, vv, vn, vl, ↓reduceIte, Nat.reduceEqDiff, Nat.reduceAdd, Nat.reduceMul, Nat.reduceSub, Nat.reduceLeDiff, Nat.reduceLT, Nat.reduceBEq, Nat.reduceBNe, reduceCtorEq, Int.reduceBEq, Int.reduceBNe, Int.reduceLT, Int.reduceLE, Int.reduceEq, Int.reduceToNat, Int.reduceAdd, Int.reduceSub, Int.reduceNeg]) (t1.trans t2) (by omega) (by omega) (by rw [t0]) (by rw [t0]; exact r2)
    · rw [if_neg h1] at t0
      by_cases h2 : b.toNat < 194 ∨ 244 < b.toNat
      · rw [if_pos h2] at t0
        have k2 : (decide (b.toNat < 194) || decide (244 < b.toNat)) = true := by simpa using h2
        simp +contextual only [vq, vc, ve, vv, vn, vl, ↓reduceIte, Nat.reduceEqDiff, Nat.reduceAdd, Nat.reduceMul, Nat.reduceSub, Nat.reduceLeDiff, Nat.reduceLT, Nat.reduceBEq, Nat.reduceBNe, reduceCtorEq, Int.reduceBEq, Int.reduceBNe, Int.reduceLT, Int.reduceLE, Int.reduceEq, Int.reduceToNat, Int.reduceAdd, Int.reduceSub, Int.reduceNeg, hM.get (G := G), k0, p1, p2, lt1, h1, lt2, lt3, k2]
        exact fin (v := false) (by simp +contextual only [vq, vc, ve, vv, vn, vl, ↓reduceIte, Nat.reduceEqDiff, Nat.reduceAdd, Nat.reduceMul, Nat.reduceSub, Nat.reduceLeDiff, Nat.reduceLT, Nat.reduceBEq, Nat.reduceBNe, reduceCtorEq, Int.reduceBEq, Int.reduceBNe, Int.reduceLT, Int.reduceLE, Int.reduceEq, Int.reduceToNat, Int.reduceAdd, Int.reduceSub, Int.reduceNeg]) (t1.trans t2) (by omega) (by omega) (by rw [t0]) (by rw [t0]; exact r2)
      · rw [if_neg h2] at t0
        have k2 : (decide (b.toNat < 194) || decide (244 < b.toNat)) = false := by simpa using h2
        have eq (k : Nat) : ((b.toNat : Int) == (k : Int)) = (b.toNat == k) := int_beq _ _
        have e1 : ((b.toNat : Int) == 224) = (b.toNat == 224) := eq 224
        have e2 : ((b.toNat : Int) == 237) = (b.toNat == 237) := eq 237
        have e3 : ((b.toNat : Int) == 240) = (b.toNat == 240) := eq 240
        have e4 : ((b.toNat : Int) == 244) = (b.toNat == 244) := eq 244
        have ne (k : Nat) (h : b.toNat ≠ k) : (b.toNat == k) = false := by simpa using h
        by_cases h3 : b.toNat < 224
        · have hl : tkLo b.toNat = 128 := by unfold tkLo; rw [if_neg (by omega), if_neg (by omega)]
          have hh : tkHi b.toNat = 191 := by unfold tkHi; rw [if_neg (by omega), if_neg (by omega)]
          rw [if_pos h3, hl, hh] at t0
          obtain ⟨M3, p3, r3, t3, w3⟩ := put1_row (off := 0) (v := .int .u8 1) r2 (by simp)
          simp +contextual only [vq, vc, ve, vv, vn, vl, ↓reduceIte, Nat.reduceEqDiff, Nat.reduceAdd, Nat.reduceMul, Nat.reduceSub, Nat.reduceLeDiff, Nat.reduceLT, Nat.reduceBEq, Nat.reduceBNe, reduceCtorEq, Int.reduceBEq, Int.reduceBNe, Int.reduceLT, Int.reduceLE, Int.reduceEq, Int.reduceToNat, Int.reduceAdd, Int.reduceSub, Int.reduceNeg, hM.get (G := G), k0, p1, p2, lt1, h1, lt2, lt3, k2, lt4, h3, p3, e1, e2, e3, e4, ne 224 (by omega), ne 237 (by omega), ne 240 (by omega), ne 244 (by omega)]
          exact fin (v := true) (by simp +contextual only [vq, vc, ve, vv, vn, vl, ↓reduceIte, Nat.reduceEqDiff, Nat.reduceAdd, Nat.reduceMul, Nat.reduceSub, Nat.reduceLeDiff, Nat.reduceLT, Nat.reduceBEq, Nat.reduceBNe, reduceCtorEq, Int.reduceBEq, Int.reduceBNe, Int.reduceLT, Int.reduceLE, Int.reduceEq, Int.reduceToNat, Int.reduceAdd, Int.reduceSub, Int.reduceNeg]) ((t1.trans t2).trans t3) (by omega) (by omega) (by rw [t0]) (by rw [t0]; exact r3)
        rw [if_neg h3] at t0
        by_cases h4 : b.toNat < 240
        · rw [if_pos h4] at t0
          obtain ⟨M3, p3, r3, t3, w3⟩ := put1_row (off := 0) (v := .int .u8 2) r2 (by simp)
          by_cases q1 : b.toNat = 224
          · have hl : tkLo b.toNat = 160 := by unfold tkLo; rw [if_pos q1]
            have hh : tkHi b.toNat = 191 := by unfold tkHi; rw [if_neg (by omega), if_neg (by omega)]
            rw [hl, hh] at t0
            obtain ⟨M4, p4, r4, t4, w4⟩ := put1_row (off := 1) (v := .int .u8 160) r3 (by simp)
            simp +contextual only [vq, vc, ve, vv, vn, vl, ↓reduceIte, Nat.reduceEqDiff, Nat.reduceAdd, Nat.reduceMul, Nat.reduceSub, Nat.reduceLeDiff, Nat.reduceLT, Nat.reduceBEq, Nat.reduceBNe, reduceCtorEq, Int.reduceBEq, Int.reduceBNe, Int.reduceLT, Int.reduceLE, Int.reduceEq, Int.reduceToNat, Int.reduceAdd, Int.reduceSub, Int.reduceNeg, hM.get (G := G), k0, p1, p2, lt1, h1, lt2, lt3, k2, lt4, h3, lt5, h4, p3, e1, show (b.toNat == 224) = true by simpa using q1, p4]
            exact fin (v := true) (by simp +contextual only [vq, vc, ve, vv, vn, vl, ↓reduceIte, Nat.reduceEqDiff, Nat.reduceAdd, Nat.reduceMul, Nat.reduceSub, Nat.reduceLeDiff, Nat.reduceLT, Nat.reduceBEq, Nat.reduceBNe, reduceCtorEq, Int.reduceBEq, Int.reduceBNe, Int.reduceLT, Int.reduceLE, Int.reduceEq, Int.reduceToNat, Int.reduceAdd, Int.reduceSub, Int.reduceNeg]) (((t1.trans t2).trans t3).trans t4) (by omega) (by omega) (by rw [t0]) (by rw [t0]; exact r4)
          by_cases q2 : b.toNat = 237
          · have hl : tkLo b.toNat = 128 := by unfold tkLo; rw [if_neg (by omega), if_neg (by omega)]
            have hh : tkHi b.toNat = 159 := by unfold tkHi; rw [if_pos q2]
            rw [hl, hh] at t0
            obtain ⟨M4, p4, r4, t4, w4⟩ := put1_row (off := 2) (v := .int .u8 159) r3 (by simp)
            simp +contextual only [vq, vc, ve, vv, vn, vl, ↓reduceIte, Nat.reduceEqDiff, Nat.reduceAdd, Nat.reduceMul, Nat.reduceSub, Nat.reduceLeDiff, Nat.reduceLT, Nat.reduceBEq, Nat.reduceBNe, reduceCtorEq, Int.reduceBEq, Int.reduceBNe, Int.reduceLT, Int.reduceLE, Int.reduceEq, Int.reduceToNat, Int.reduceAdd, Int.reduceSub, Int.reduceNeg, hM.get (G := G), k0, p1, p2, lt1, h1, lt2, lt3, k2, lt4, h3, lt5, h4, p3, e1, ne 224 q1, e2, show (b.toNat == 237) = true by simpa using q2, p4]
            exact fin (v := true) (by simp +contextual only [vq, vc, ve, vv, vn, vl, ↓reduceIte, Nat.reduceEqDiff, Nat.reduceAdd, Nat.reduceMul, Nat.reduceSub, Nat.reduceLeDiff, Nat.reduceLT, Nat.reduceBEq, Nat.reduceBNe, reduceCtorEq, Int.reduceBEq, Int.reduceBNe, Int.reduceLT, Int.reduceLE, Int.reduceEq, Int.reduceToNat, Int.reduceAdd, Int.reduceSub, Int.reduceNeg]) (((t1.trans t2).trans t3).trans t4) (by omega) (by omega) (by rw [t0]) (by rw [t0]; exact r4)
          · have hl : tkLo b.toNat = 128 := by unfold tkLo; rw [if_neg (by omega), if_neg (by omega)]
            have hh : tkHi b.toNat = 191 := by unfold tkHi; rw [if_neg (by omega), if_neg (by omega)]
            rw [hl, hh] at t0
            simp +contextual only [vq, vc, ve, vv, vn, vl, ↓reduceIte, Nat.reduceEqDiff, Nat.reduceAdd, Nat.reduceMul, Nat.reduceSub, Nat.reduceLeDiff, Nat.reduceLT, Nat.reduceBEq, Nat.reduceBNe, reduceCtorEq, Int.reduceBEq, Int.reduceBNe, Int.reduceLT, Int.reduceLE, Int.reduceEq, Int.reduceToNat, Int.reduceAdd, Int.reduceSub, Int.reduceNeg, hM.get (G := G), k0, p1, p2, lt1, h1, lt2, lt3, k2, lt4, h3, lt5, h4, p3, e1, e2, e3, e4, ne 224 q1, ne 237 q2, ne 240 (by omega), ne 244 (by omega)]
            exact fin (v := true) (by simp +contextual only [vq, vc, ve, vv, vn, vl, ↓reduceIte, Nat.reduceEqDiff, Nat.reduceAdd, Nat.reduceMul, Nat.reduceSub, Nat.reduceLeDiff, Nat.reduceLT, Nat.reduceBEq, Nat.reduceBNe, reduceCtorEq, Int.reduceBEq, Int.reduceBNe, Int.reduceLT, Int.reduceLE, Int.reduceEq, Int.reduceToNat, Int.reduceAdd, Int.reduceSub, Int.reduceNeg]) ((t1.trans t2).trans t3) (by omega) (by omega) (by rw [t0]) (by rw [t0]; exact r3)
        · rw [if_neg h4] at t0
          obtain ⟨M3, p3, r3, t3, w3⟩ := put1_row (off := 0) (v := .int .u8 3) r2 (by simp)
          by_cases q1 : b.toNat = 240
          · have hl : tkLo b.toNat = 144 := by unfold tkLo; rw [if_neg (by omega), if_pos q1]
            have hh : tkHi b.toNat = 191 := by unfold tkHi; rw [if_neg (by omega), if_neg (by omega)]
            rw [hl, hh] at t0
            obtain ⟨M4, p4, r4, t4, w4⟩ := put1_row (off := 1) (v := .int .u8 144) r3 (by simp)
            simp +contextual only [vq, vc, ve, vv, vn, vl, ↓reduceIte, Nat.reduceEqDiff, Nat.reduceAdd, Nat.reduceMul, Nat.reduceSub, Nat.reduceLeDiff, Nat.reduceLT, Nat.reduceBEq, Nat.reduceBNe, reduceCtorEq, Int.reduceBEq, Int.reduceBNe, Int.reduceLT, Int.reduceLE, Int.reduceEq, Int.reduceToNat, Int.reduceAdd, Int.reduceSub, Int.reduceNeg, hM.get (G := G), k0, p1, p2, lt1, h1, lt2, lt3, k2, lt4, h3, lt5, h4, p3, e1, e2, e3, ne 224 (by omega), ne 237 (by omega), show (b.toNat == 240) = true by simpa using q1, p4]
            exact fin (v := true) (by simp +contextual only [vq, vc, ve, vv, vn, vl, ↓reduceIte, Nat.reduceEqDiff, Nat.reduceAdd, Nat.reduceMul, Nat.reduceSub, Nat.reduceLeDiff, Nat.reduceLT, Nat.reduceBEq, Nat.reduceBNe, reduceCtorEq, Int.reduceBEq, Int.reduceBNe, Int.reduceLT, Int.reduceLE, Int.reduceEq, Int.reduceToNat, Int.reduceAdd, Int.reduceSub, Int.reduceNeg]) (((t1.trans t2).trans t3).trans t4) (by omega) (by omega) (by rw [t0]) (by rw [t0]; exact r4)
          by_cases q2 : b.toNat = 244
          · have hl : tkLo b.toNat = 128 := by unfold tkLo; rw [if_neg (by omega), if_neg (by omega)]
            have hh : tkHi b.toNat = 143 := by unfold tkHi; rw [if_neg (by omega), if_pos q2]
            rw [hl, hh] at t0
            obtain ⟨M4, p4, r4, t4, w4⟩ := put1_row (off := 2) (v := .int .u8 143) r3 (by simp)
            simp +contextual only [vq, vc, ve, vv, vn, vl, ↓reduceIte, Nat.reduceEqDiff, Nat.reduceAdd, Nat.reduceMul, Nat.reduceSub, Nat.reduceLeDiff, Nat.reduceLT, Nat.reduceBEq, Nat.reduceBNe, reduceCtorEq, Int.reduceBEq, Int.reduceBNe, Int.reduceLT, Int.reduceLE, Int.reduceEq, Int.reduceToNat, Int.reduceAdd, Int.reduceSub, Int.reduceNeg, hM.get (G := G), k0, p1, p2, lt1, h1, lt2, lt3, k2, lt4, h3, lt5, h4, p3, e1, e2, e3, e4, ne 224 (by omega), ne 237 (by omega), ne 240 q1, show (b.toNat == 244) = true by simpa using q2, p4]
            exact fin (v := true) (by simp +contextual only [vq, vc, ve, vv, vn, vl, ↓reduceIte, Nat.reduceEqDiff, Nat.reduceAdd, Nat.reduceMul, Nat.reduceSub, Nat.reduceLeDiff, Nat.reduceLT, Nat.reduceBEq, Nat.reduceBNe, reduceCtorEq, Int.reduceBEq, Int.reduceBNe, Int.reduceLT, Int.reduceLE, Int.reduceEq, Int.reduceToNat, Int.reduceAdd, Int.reduceSub, Int.reduceNeg]) (((t1.trans t2).trans t3).trans t4) (by omega) (by omega) (by rw [t0]) (by rw [t0]; exact r4)
          · have hl : tkLo b.toNat = 128 := by unfold tkLo; rw [if_neg (by omega), if_neg (by omega)]
            have hh : tkHi b.toNat = 191 := by unfold tkHi; rw [if_neg (by omega), if_neg (by omega)]
            rw [hl, hh] at t0
            simp +contextual only [vq, vc, ve, vv, vn, vl, ↓reduceIte, Nat.reduceEqDiff, Nat.reduceAdd, Nat.reduceMul, Nat.reduceSub, Nat.reduceLeDiff, Nat.reduceLT, Nat.reduceBEq, Nat.reduceBNe, reduceCtorEq, Int.reduceBEq, Int.reduceBNe, Int.reduceLT, Int.reduceLE, Int.reduceEq, Int.reduceToNat, Int.reduceAdd, Int.reduceSub, Int.reduceNeg, hM.get (G := G), k0, p1, p2, lt1, h1, lt2, lt3, k2, lt4, h3, lt5, h4, p3, e1, e2, e3, e4, ne 224 (by omega), ne 237 (by omega), ne 240 q1, ne 244 q2]
            exact fin (v := true) (by simp +contextual only [vq, vc, ve, vv, vn, vl, ↓reduceIte, Nat.reduceEqDiff, Nat.reduceAdd, Nat.reduceMul, Nat.reduceSub, Nat.reduceLeDiff, Nat.reduceLT, Nat.reduceBEq, Nat.reduceBNe, reduceCtorEq, Int.reduceBEq, Int.reduceBNe, Int.reduceLT, Int.reduceLE, Int.reduceEq, Int.reduceToNat, Int.reduceAdd, Int.reduceSub, Int.reduceNeg]) ((t1.trans t2).trans t3) (by omega) (by omega) (by rw [t0]) (by rw [t0]; exact r3)
end Go.Proofs.YtmjoaiccbghijaaGreatDoor.paramAgain

namespace Go.Proofs.YtmjoaiccbghijaaGreatDoor.paramAgain
open Go.Ev hiding Comes
variable [GG]

theorem tk_lt {n lo hi b : Nat} (h : n < 4) : (tk n lo hi b).2.1 < 4 := by
  unfold tk
  repeat' split
  all_goals simp <;> omega
/-- runes.Bad: where the first wrong UTF-8 begins. -/
theorem c_runes_Bad_string (m : Mem) (s : List UInt8) (hN : s.length ≤ 1000000000000) : Go.Ev.Comes T G f_runes_Bad_string [.str s] m none ⟨.val (.int .i64 (good s.length s : Nat)), m, none⟩ := by
  refine comes2 T_runes_Bad_string rfl fun M hg hlen hlow => ?_
  simp only [F_runes_Bad_string]
  simp +contextual only [vq, vc, ve, vv, vn, vl, ↓reduceIte, Nat.reduceEqDiff, Nat.reduceAdd, Nat.reduceMul, Nat.reduceSub, Nat.reduceLeDiff, Nat.reduceLT, Nat.reduceBEq, Nat.reduceBNe, reduceCtorEq, Int.reduceBEq, Int.reduceBNe, Int.reduceLT, Int.reduceLE, Int.reduceEq, Int.reduceToNat, Int.reduceAdd, Int.reduceSub, Int.reduceNeg]
  refine new_mk fun M1 e1 => ?_
  have R0 : RowIs M1 M.bl.length (stE (0, 0, 0)) := by rw [e1]; exact row_push _ _
  have l1 : M1.low = M.low := by rw [e1]; rfl
  simp +contextual only [vq, vc, ve, vv, vn, vl, ↓reduceIte, Nat.reduceEqDiff, Nat.reduceAdd, Nat.reduceMul, Nat.reduceSub, Nat.reduceLeDiff, Nat.reduceLT, Nat.reduceBEq, Nat.reduceBNe, reduceCtorEq, Int.reduceBEq, Int.reduceBNe, Int.reduceLT, Int.reduceLE, Int.reduceEq, Int.reduceToNat, Int.reduceAdd, Int.reduceSub, Int.reduceNeg]
  refine loop2 (fun n st => ∃ i A N bg nd lo hi, st = ⟨A, N, [], none⟩ ∧ m.bl.length ≤ N.low ∧ n = s.length - i ∧ i ≤ s.length ∧ A 0 = .str s ∧ A 3 = .ptr (some ⟨.mem M.bl.length 0, 0⟩) ∧ A 4 = .int .i64 (bg : Nat) ∧ A 7 = .int .i64 s.length ∧ A 8 = .int .i64 (i : Nat) ∧ RowIs N M.bl.length (stE (nd, lo, hi)) ∧ nd < 4 ∧ pb bg i nd lo hi (s.drop i) = good s.length s) s.length ⟨0, _, _, 0, 0, 0, 0, rfl, by omega, by omega, by omega, by simp +contextual only [vq, vc, ve, vv, vn, vl, ↓reduceIte, Nat.reduceEqDiff, Nat.reduceAdd, Nat.reduceMul, Nat.reduceSub, Nat.reduceLeDiff, Nat.reduceLT, Nat.reduceBEq, Nat.reduceBNe, reduceCtorEq, Int.reduceBEq, Int.reduceBNe, Int.reduceLT, Int.reduceLE, Int.reduceEq, Int.reduceToNat, Int.reduceAdd, Int.reduceSub, Int.reduceNeg], by simp +contextual only [vq, vc, ve, vv, vn, vl, ↓reduceIte, Nat.reduceEqDiff, Nat.reduceAdd, Nat.reduceMul, Nat.reduceSub, Nat.reduceLeDiff, Nat.reduceLT, Nat.reduceBEq, Nat.reduceBNe, reduceCtorEq, Int.reduceBEq, Int.reduceBNe, Int.reduceLT, Int.reduceLE, Int.reduceEq, Int.reduceToNat, Int.reduceAdd, Int.reduceSub, Int.reduceNeg], by simp +contextual only [vq, vc, ve, vv, vn, vl, ↓reduceIte, Nat.reduceEqDiff, Nat.reduceAdd, Nat.reduceMul, Nat.reduceSub, Nat.reduceLeDiff, Nat.reduceLT, Nat.reduceBEq, Nat.reduceBNe, reduceCtorEq, Int.reduceBEq, Int.reduceBNe, Int.reduceLT, Int.reduceLE, Int.reduceEq, Int.reduceToNat, Int.reduceAdd, Int.reduceSub, Int.reduceNeg]; rfl, by simp +contextual only [vq, vc, ve, vv, vn, vl, ↓reduceIte, Nat.reduceEqDiff, Nat.reduceAdd, Nat.reduceMul, Nat.reduceSub, Nat.reduceLeDiff, Nat.reduceLT, Nat.reduceBEq, Nat.reduceBNe, reduceCtorEq, Int.reduceBEq, Int.reduceBNe, Int.reduceLT, Int.reduceLE, Int.reduceEq, Int.reduceToNat, Int.reduceAdd, Int.reduceSub, Int.reduceNeg], by simp +contextual only [vq, vc, ve, vv, vn, vl, ↓reduceIte, Nat.reduceEqDiff, Nat.reduceAdd, Nat.reduceMul, Nat.reduceSub, Nat.reduceLeDiff, Nat.reduceLT, Nat.reduceBEq, Nat.reduceBNe, reduceCtorEq, Int.reduceBEq, Int.reduceBNe, Int.reduceLT, Int.reduceLE, Int.reduceEq, Int.reduceToNat, Int.reduceAdd, Int.reduceSub, Int.reduceNeg]; rfl, R0, by omega, by rw [List.drop_zero, pb_good s.length s 0 0 0 0 (Nat.le_refl _)]; omega⟩ fun J hJ n st hI => ?_
  obtain ⟨i, A, N, bg, nd, lo, hi, rfl, lN, rfl, hi', A0, A3, A4, A7, A8, RN, hnd, hpb⟩ := hI
  simp +contextual only [vq, vc, ve, vv, vn, vl, ↓reduceIte, Nat.reduceEqDiff, Nat.reduceAdd, Nat.reduceMul, Nat.reduceSub, Nat.reduceLeDiff, Nat.reduceLT, Nat.reduceBEq, Nat.reduceBNe, reduceCtorEq, Int.reduceBEq, Int.reduceBNe, Int.reduceLT, Int.reduceLE, Int.reduceEq, Int.reduceToNat, Int.reduceAdd, Int.reduceSub, Int.reduceNeg, A7, A8]
  refine br2_dec (fun hlt => ?_) (fun hge => ?_)
  · have hd : s.drop i = s[i] :: s.drop (i + 1) := List.drop_eq_getElem_cons hlt
    rw [hd] at hpb
    obtain ⟨_, hc, N1, rfl, t1, w1, R1⟩ := c_runes_state_take N M.bl.length nd lo hi s[i] RN hnd
    have RN' := RN
    simp only [stE] at RN'
    have lN1 : m.bl.length ≤ N1.low := by omega
    by_cases hz : nd = 0
    · subst hz
      simp +contextual only [vq, vc, ve, vv, vn, vl, ↓reduceIte, Nat.reduceEqDiff, Nat.reduceAdd, Nat.reduceMul, Nat.reduceSub, Nat.reduceLeDiff, Nat.reduceLT, Nat.reduceBEq, Nat.reduceBNe, reduceCtorEq, Int.reduceBEq, Int.reduceBNe, Int.reduceLT, Int.reduceLE, Int.reduceEq, Int.reduceToNat, Int.reduceAdd, Int.reduceSub, Int.reduceNeg, A0, A3, A7, A8, RN'.get (G := G), get_byte hlt, callR_val hc]
      refine br2_mk (fun hk => ?_) (fun hk => ?_)
      · have hk : (tk 0 lo hi s[i].toNat).1 = false := by simpa using hk
        simp only [pb, hk, Bool.false_eq_true, if_false] at hpb
        try simp only [if_true] at hpb
        simp +contextual only [vq, vc, ve, vv, vn, vl, ↓reduceIte, Nat.reduceEqDiff, Nat.reduceAdd, Nat.reduceMul, Nat.reduceSub, Nat.reduceLeDiff, Nat.reduceLT, Nat.reduceBEq, Nat.reduceBNe, reduceCtorEq, Int.reduceBEq, Int.reduceBNe, Int.reduceLT, Int.reduceLE, Int.reduceEq, Int.reduceToNat, Int.reduceAdd, Int.reduceSub, Int.reduceNeg, hpb, lN1]
      · have hk : (tk 0 lo hi s[i].toNat).1 = true := by simpa using hk
        simp only [pb, hk, if_true] at hpb
        try simp only [if_true] at hpb
        simp +contextual only [vq, vc, ve, vv, vn, vl, ↓reduceIte, Nat.reduceEqDiff, Nat.reduceAdd, Nat.reduceMul, Nat.reduceSub, Nat.reduceLeDiff, Nat.reduceLT, Nat.reduceBEq, Nat.reduceBNe, reduceCtorEq, Int.reduceBEq, Int.reduceBNe, Int.reduceLT, Int.reduceLE, Int.reduceEq, Int.reduceToNat, Int.reduceAdd, Int.reduceSub, Int.reduceNeg, A8, wsucc hlt (by omega)]
        exact again2 hJ (s.length - (i + 1)) (by omega) ⟨i + 1, _, N1, i, _, _, _, rfl, lN1, rfl, by omega, by simp +contextual only [vq, vc, ve, vv, vn, vl, ↓reduceIte, Nat.reduceEqDiff, Nat.reduceAdd, Nat.reduceMul, Nat.reduceSub, Nat.reduceLeDiff, Nat.reduceLT, Nat.reduceBEq, Nat.reduceBNe, reduceCtorEq, Int.reduceBEq, Int.reduceBNe, Int.reduceLT, Int.reduceLE, Int.reduceEq, Int.reduceToNat, Int.reduceAdd, Int.reduceSub, Int.reduceNeg, A0], by simp +contextual only [vq, vc, ve, vv, vn, vl, ↓reduceIte, Nat.reduceEqDiff, Nat.reduceAdd, Nat.reduceMul, Nat.reduceSub, Nat.reduceLeDiff, Nat.reduceLT, Nat.reduceBEq, Nat.reduceBNe, reduceCtorEq, Int.reduceBEq, Int.reduceBNe, Int.reduceLT, Int.reduceLE, Int.reduceEq, Int.reduceToNat, Int.reduceAdd, Int.reduceSub, Int.reduceNeg, A3], by simp +contextual only [vq, vc, ve, vv, vn, vl, ↓reduceIte, Nat.reduceEqDiff, Nat.reduceAdd, Nat.reduceMul, Nat.reduceSub, Nat.reduceLeDiff, Nat.reduceLT, Nat.reduceBEq, Nat.reduceBNe, reduceCtorEq, Int.reduceBEq, Int.reduceBNe, Int.reduceLT, Int.reduceLE, Int.reduceEq, Int.reduceToNat, Int.reduceAdd, Int.reduceSub, Int.reduceNeg], by simp +contextual only [vq, vc, ve, vv, vn, vl, ↓reduceIte, Nat.reduceEqDiff, Nat.reduceAdd, Nat.reduceMul, Nat.reduceSub, Nat.reduceLeDiff, Nat.reduceLT, Nat.reduceBEq, Nat.reduceBNe, reduceCtorEq, Int.reduceBEq, Int.reduceBNe, Int.reduceLT, Int.reduceLE, Int.reduceEq, Int.reduceToNat, Int.reduceAdd, Int.reduceSub, Int.reduceNeg, A7], by simp +contextual only [vq, vc, ve, vv, vn, vl, ↓reduceIte, Nat.reduceEqDiff, Nat.reduceAdd, Nat.reduceMul, Nat.reduceSub, Nat.reduceLeDiff, Nat.reduceLT, Nat.reduceBEq, Nat.reduceBNe, reduceCtorEq, Int.reduceBEq, Int.reduceBNe, Int.reduceLT, Int.reduceLE, Int.reduceEq, Int.reduceToNat, Int.reduceAdd, Int.reduceSub, Int.reduceNeg], R1, tk_lt hnd, hpb⟩
    · have k1 : (nd == 0) = false := by simpa using hz
      simp +contextual only [vq, vc, ve, vv, vn, vl, ↓reduceIte, Nat.reduceEqDiff, Nat.reduceAdd, Nat.reduceMul, Nat.reduceSub, Nat.reduceLeDiff, Nat.reduceLT, Nat.reduceBEq, Nat.reduceBNe, reduceCtorEq, Int.reduceBEq, Int.reduceBNe, Int.reduceLT, Int.reduceLE, Int.reduceEq, Int.reduceToNat, Int.reduceAdd, Int.reduceSub, Int.reduceNeg, A0, A3, A7, A8, RN'.get (G := G), get_byte hlt, callR_val hc, k1]
      refine br2_mk (fun hk => ?_) (fun hk => ?_)
      · have hk : (tk nd lo hi s[i].toNat).1 = false := by simpa using hk
        simp only [pb, hk, Bool.false_eq_true, if_false] at hpb
        simp only [if_neg hz] at hpb
        simp +contextual only [vq, vc, ve, vv, vn, vl, ↓reduceIte, Nat.reduceEqDiff, Nat.reduceAdd, Nat.reduceMul, Nat.reduceSub, Nat.reduceLeDiff, Nat.reduceLT, Nat.reduceBEq, Nat.reduceBNe, reduceCtorEq, Int.reduceBEq, Int.reduceBNe, Int.reduceLT, Int.reduceLE, Int.reduceEq, Int.reduceToNat, Int.reduceAdd, Int.reduceSub, Int.reduceNeg, A4, hpb, lN1]
      · have hk : (tk nd lo hi s[i].toNat).1 = true := by simpa using hk
        simp only [pb, hk, if_true] at hpb
        simp only [if_neg hz] at hpb
        simp +contextual only [vq, vc, ve, vv, vn, vl, ↓reduceIte, Nat.reduceEqDiff, Nat.reduceAdd, Nat.reduceMul, Nat.reduceSub, Nat.reduceLeDiff, Nat.reduceLT, Nat.reduceBEq, Nat.reduceBNe, reduceCtorEq, Int.reduceBEq, Int.reduceBNe, Int.reduceLT, Int.reduceLE, Int.reduceEq, Int.reduceToNat, Int.reduceAdd, Int.reduceSub, Int.reduceNeg, A8, wsucc hlt (by omega)]
        exact again2 hJ (s.length - (i + 1)) (by omega) ⟨i + 1, _, N1, bg, _, _, _, rfl, lN1, rfl, by omega, by simp +contextual only [vq, vc, ve, vv, vn, vl, ↓reduceIte, Nat.reduceEqDiff, Nat.reduceAdd, Nat.reduceMul, Nat.reduceSub, Nat.reduceLeDiff, Nat.reduceLT, Nat.reduceBEq, Nat.reduceBNe, reduceCtorEq, Int.reduceBEq, Int.reduceBNe, Int.reduceLT, Int.reduceLE, Int.reduceEq, Int.reduceToNat, Int.reduceAdd, Int.reduceSub, Int.reduceNeg, A0], by simp +contextual only [vq, vc, ve, vv, vn, vl, ↓reduceIte, Nat.reduceEqDiff, Nat.reduceAdd, Nat.reduceMul, Nat.reduceSub, Nat.reduceLeDiff, Nat.reduceLT, Nat.reduceBEq, Nat.reduceBNe, reduceCtorEq, Int.reduceBEq, Int.reduceBNe, Int.reduceLT, Int.reduceLE, Int.reduceEq, Int.reduceToNat, Int.reduceAdd, Int.reduceSub, Int.reduceNeg, A3], by simp +contextual only [vq, vc, ve, vv, vn, vl, ↓reduceIte, Nat.reduceEqDiff, Nat.reduceAdd, Nat.reduceMul, Nat.reduceSub, Nat.reduceLeDiff, Nat.reduceLT, Nat.reduceBEq, Nat.reduceBNe, reduceCtorEq, Int.reduceBEq, Int.reduceBNe, Int.reduceLT, Int.reduceLE, Int.reduceEq, Int.reduceToNat, Int.reduceAdd, Int.reduceSub, Int.reduceNeg, A4,], by simp +contextual only [vq, vc, ve, vv, vn, vl, ↓reduceIte, Nat.reduceEqDiff, Nat.reduceAdd, Nat.reduceMul, Nat.reduceSub, Nat.reduceLeDiff, Nat.reduceLT, Nat.reduceBEq, Nat.reduceBNe, reduceCtorEq, Int.reduceBEq, Int.reduceBNe, Int.reduceLT, Int.reduceLE, Int.reduceEq, Int.reduceToNat, Int.reduceAdd, Int.reduceSub, Int.reduceNeg, A7], by simp +contextual only [vq, vc, ve, vv, vn, vl, ↓reduceIte, Nat.reduceEqDiff, Nat.reduceAdd, Nat.reduceMul, Nat.reduceSub, Nat.reduceLeDiff, Nat.reduceLT, Nat.reduceBEq, Nat.reduceBNe, reduceCtorEq, Int.reduceBEq, Int.reduceBNe, Int.reduceLT, Int.reduceLE, Int.reduceEq, Int.reduceToNat, Int.reduceAdd, Int.reduceSub, Int.reduceNeg], R1, tk_lt hnd, hpb⟩
  · have he : i = s.length := by omega
    subst he
    rw [List.drop_eq_nil_of_le (Nat.le_refl _)] at hpb
    have RN' := RN
    simp only [stE] at RN'
    simp +contextual only [vq, vc, ve, vv, vn, vl, ↓reduceIte, Nat.reduceEqDiff, Nat.reduceAdd, Nat.reduceMul, Nat.reduceSub, Nat.reduceLeDiff, Nat.reduceLT, Nat.reduceBEq, Nat.reduceBNe, reduceCtorEq, Int.reduceBEq, Int.reduceBNe, Int.reduceLT, Int.reduceLE, Int.reduceEq, Int.reduceToNat, Int.reduceAdd, Int.reduceSub, Int.reduceNeg, A0, A3, RN'.get (G := G)]
    by_cases hz : nd = 0
    · subst hz
      simp only [pb, Nat.lt_irrefl, if_false] at hpb
      simp +contextual only [vq, vc, ve, vv, vn, vl, ↓reduceIte, Nat.reduceEqDiff, Nat.reduceAdd, Nat.reduceMul, Nat.reduceSub, Nat.reduceLeDiff, Nat.reduceLT, Nat.reduceBEq, Nat.reduceBNe, reduceCtorEq, Int.reduceBEq, Int.reduceBNe, Int.reduceLT, Int.reduceLE, Int.reduceEq, Int.reduceToNat, Int.reduceAdd, Int.reduceSub, Int.reduceNeg, A0, hpb.symm, lN]
    · have k0 : (0 < nd) = True := eq_true (by omega)
      have hbg : bg = good s.length s := by
        rw [← hpb]
        simp only [pb, k0, if_true]
      subst hbg
      simp +contextual only [vq, vc, ve, vv, vn, vl, ↓reduceIte, Nat.reduceEqDiff, Nat.reduceAdd, Nat.reduceMul, Nat.reduceSub, Nat.reduceLeDiff, Nat.reduceLT, Nat.reduceBEq, Nat.reduceBNe, reduceCtorEq, Int.reduceBEq, Int.reduceBNe, Int.reduceLT, Int.reduceLE, Int.reduceEq, Int.reduceToNat, Int.reduceAdd, Int.reduceSub, Int.reduceNeg, A4, k0, lN]
end Go.Proofs.YtmjoaiccbghijaaGreatDoor.paramAgain

namespace Go.Proofs.YtmjoaiccbghijaaGreatDoor.paramAgain
open Go.Ev hiding Comes
variable [GG]

theorem c_r05_lead (m : Mem) (n : Nat) (hn : n < 5) : Go.Ev.Comes T G f_r05_lead [.int .i64 n] m none ⟨.val (.int .i64 (leadZ n)), m, none⟩ := by
  refine comes2 T_r05_lead rfl fun M hg hlen hlow => ?_
  simp only [F_r05_lead]
  simp +contextual only [vq, vc, ve, vv, vn, vl, ↓reduceIte, Nat.reduceEqDiff, Nat.reduceAdd, Nat.reduceMul, Nat.reduceSub, Nat.reduceLeDiff, Nat.reduceLT, Nat.reduceBEq, Nat.reduceBNe, reduceCtorEq, Int.reduceBEq, Int.reduceBNe, Int.reduceLT, Int.reduceLE, Int.reduceEq, Int.reduceToNat, Int.reduceAdd, Int.reduceSub, Int.reduceNeg]
  refine new_mk fun M1 e1 => ?_
  have R1 : RowIs M1 M.bl.length [.int .i64 0, .int .i64 0, .int .i64 192, .int .i64 224, .int .i64 240] := by rw [e1]; exact row_push _ _
  have hl : m.bl.length ≤ M1.low := by rw [e1]; show _ ≤ M.low; omega
  have i5 : ((n : Int) < 5) = True := eq_true (by omega)
  have i5' : ((n : Int) < ((5 : Nat) : Int)) = True := eq_true (by omega)
  have hv : ([.int .i64 0, .int .i64 0, .int .i64 192, .int .i64 224, .int .i64 240] : List EV)[n]? = some (.int .i64 (leadZ n)) := by
    have : n = 0 ∨ n = 1 ∨ n = 2 ∨ n = 3 ∨ n = 4 := by omega
    rcases this with rfl | rfl | rfl | rfl | rfl <;> rfl
  simp +contextual only [vq, vc, ve, vv, vn, vl, ↓reduceIte, Nat.reduceEqDiff, Nat.reduceAdd, Nat.reduceMul, Nat.reduceSub, Nat.reduceLeDiff, Nat.reduceLT, Nat.reduceBEq, Nat.reduceBNe, reduceCtorEq, Int.reduceBEq, Int.reduceBNe, Int.reduceLT, Int.reduceLE, Int.reduceEq, Int.reduceToNat, Int.reduceAdd, Int.reduceSub, Int.reduceNeg, i5, i5', R1.get (G := G), hv, hl]
theorem c_r05_Is (m : Mem) (r : Int) : Go.Ev.Comes T G f_r05_Is [.int .i64 r] m none ⟨.val (.bool (isR r)), m, none⟩ := by
  refine comes2 T_r05_Is rfl fun M hg hlen hlow => ?_
  have hl : m.bl.length ≤ M.low := by omega
  simp only [F_r05_Is]
  simp +contextual only [vq, vc, ve, vv, vn, vl, ↓reduceIte, Nat.reduceEqDiff, Nat.reduceAdd, Nat.reduceMul, Nat.reduceSub, Nat.reduceLeDiff, Nat.reduceLT, Nat.reduceBEq, Nat.reduceBNe, reduceCtorEq, Int.reduceBEq, Int.reduceBNe, Int.reduceLT, Int.reduceLE, Int.reduceEq, Int.reduceToNat, Int.reduceAdd, Int.reduceSub, Int.reduceNeg, hl]
  rfl

theorem wz {z : Int} (h0 : 0 ≤ z) (h1 : z ≤ 400000000) : IntKind.i64.wrap z = z := wrap64 (by omega) (by omega)
theorem uz {z : Int} (h0 : 0 ≤ z) (h1 : z < 256) : IntKind.u8.wrap z = ((bt z).toNat : Int) := by
  rw [wrap8 h0 h1]
  simp [bt, UInt8.toNat_ofNat']
  omega
/-- The bytes of a rune, written. -/
theorem c_r05_Write (m : Mem) (x : Int) (h0 : 0 ≤ x) (h1 : x ≤ 1114111) :
    ∃ M, Go.Ev.Comes T G f_r05_Write [.int .i32 x] m none ⟨.val (.slice (some ⟨.mem m.bl.length 0, 0⟩) (wr x).length (wr x).length 1), M, none⟩ ∧ Grown m M ∧ min m.low m.bl.length ≤ M.low ∧ RowIs M m.bl.length (bytesE (wr x)) := by
  suffices H : ∃ r, Go.Ev.Comes T G f_r05_Write [.int .i32 x] m none r ∧ ∃ M, r = ⟨.val (.slice (some ⟨.mem m.bl.length 0, 0⟩) (wr x).length (wr x).length 1), M, none⟩ ∧ Grown m M ∧ min m.low m.bl.length ≤ M.low ∧ RowIs M m.bl.length (bytesE (wr x)) by
    obtain ⟨_, hc, M, rfl, h⟩ := H
    exact ⟨M, hc, h⟩
  refine comes2P T_r05_Write rfl fun M hg hlen hlow => ?_
  have wx : IntKind.i64.wrap x = x := wz h0 (by omega)
  have fin : ∀ {A : Fr} {l : List UInt8} {M2 : Mem}, wr x = l → M2 = M.push (.cells (bytesE l) 0 true) → A 2 = .slice (some ⟨.mem M.bl.length 0, 0⟩) l.length l.length 1 → postX G [.tmp 2] m (fun r => ∃ M, r = ⟨.val (.slice (some ⟨.mem m.bl.length 0, 0⟩) (wr x).length (wr x).length 1), M, none⟩ ∧ Grown m M ∧ min m.low m.bl.length ≤ M.low ∧ RowIs M m.bl.length (bytesE (wr x))) .ret ⟨A, M2, [], none⟩ := by
    intro A l M2 e e2 hA
    subst e
    rw [hlen] at hA
    refine postX_new (v := .slice (some ⟨.mem m.bl.length 0, 0⟩) (wr x).length (wr x).length 1) (by simp +contextual only [vq, vc, ve, vv, vn, vl, ↓reduceIte, Nat.reduceEqDiff, Nat.reduceAdd, Nat.reduceMul, Nat.reduceSub, Nat.reduceLeDiff, Nat.reduceLT, Nat.reduceBEq, Nat.reduceBNe, reduceCtorEq, Int.reduceBEq, Int.reduceBNe, Int.reduceLT, Int.reduceLE, Int.reduceEq, Int.reduceToNat, Int.reduceAdd, Int.reduceSub, Int.reduceNeg, hA]) (by simp +contextual only [vq, vc, ve, vv, vn, vl, ↓reduceIte, Nat.reduceEqDiff, Nat.reduceAdd, Nat.reduceMul, Nat.reduceSub, Nat.reduceLeDiff, Nat.reduceLT, Nat.reduceBEq, Nat.reduceBNe, reduceCtorEq, Int.reduceBEq, Int.reduceBNe, Int.reduceLT, Int.reduceLE, Int.reduceEq, Int.reduceToNat, Int.reduceAdd, Int.reduceSub, Int.reduceNeg]) ⟨⟨M2.bl, min m.low M2.low⟩, rfl, ?_, ?_, ?_⟩
    · obtain ⟨l, hl⟩ := (hg.push : Grown m (M.push (.cells (bytesE (wr x)) 0 true)))
      exact ⟨l, by rw [e2]; exact hl⟩
    · rw [e2]; show _ ≤ min m.low M.low; omega
    · have := row_push M (bytesE (wr x))
      rw [hlen, ← e2] at this
      exact this
  simp only [F_r05_Write]
  have d1 : x.tdiv 64 = x / 64 := Int.tdiv_eq_ediv_of_nonneg h0
  have d2 : x.tdiv 4096 = x / 4096 := Int.tdiv_eq_ediv_of_nonneg h0
  have d3 : x.tdiv 262144 = x / 262144 := Int.tdiv_eq_ediv_of_nonneg h0
  have r1 : x.tmod 64 = x % 64 := Int.tmod_eq_emod_of_nonneg h0
  have r2 : (x / 64).tmod 64 = x / 64 % 64 := Int.tmod_eq_emod_of_nonneg (by omega)
  have r3 : (x / 4096).tmod 64 = x / 4096 % 64 := Int.tmod_eq_emod_of_nonneg (by omega)
  have q1 : IntKind.i64.wrap (x / 64) = x / 64 := wz (by omega) (by omega)
  have q2 : IntKind.i64.wrap (x / 4096) = x / 4096 := wz (by omega) (by omega)
  have q3 : IntKind.i64.wrap (x / 262144) = x / 262144 := wz (by omega) (by omega)
  have w (a z : Int) (ha : 0 ≤ a ∧ a ≤ 1000) (hz : 0 ≤ z ∧ z ≤ 1114111) : IntKind.i64.wrap (a + z) = a + z := wz (by omega) (by omega)
  by_cases c1 : x < 128
  · have ew : wr x = [bt x] := by unfold wr; rw [if_pos c1]
    simp +contextual only [vq, vc, ve, vv, vn, vl, ↓reduceIte, Nat.reduceEqDiff, Nat.reduceAdd, Nat.reduceMul, Nat.reduceSub, Nat.reduceLeDiff, Nat.reduceLT, Nat.reduceBEq, Nat.reduceBNe, reduceCtorEq, Int.reduceBEq, Int.reduceBNe, Int.reduceLT, Int.reduceLE, Int.reduceEq, Int.reduceToNat, Int.reduceAdd, Int.reduceSub, Int.reduceNeg, wx, c1, uz h0 (show x < 256 by omega)]
    refine new_mk fun M2 e2 => ?_
    simp +contextual only [vq, vc, ve, vv, vn, vl, ↓reduceIte, Nat.reduceEqDiff, Nat.reduceAdd, Nat.reduceMul, Nat.reduceSub, Nat.reduceLeDiff, Nat.reduceLT, Nat.reduceBEq, Nat.reduceBNe, reduceCtorEq, Int.reduceBEq, Int.reduceBNe, Int.reduceLT, Int.reduceLE, Int.reduceEq, Int.reduceToNat, Int.reduceAdd, Int.reduceSub, Int.reduceNeg]
    exact fin ew e2 (by simp +contextual only [vq, vc, ve, vv, vn, vl, ↓reduceIte, Nat.reduceEqDiff, Nat.reduceAdd, Nat.reduceMul, Nat.reduceSub, Nat.reduceLeDiff, Nat.reduceLT, Nat.reduceBEq, Nat.reduceBNe, reduceCtorEq, Int.reduceBEq, Int.reduceBNe, Int.reduceLT, Int.reduceLE, Int.reduceEq, Int.reduceToNat, Int.reduceAdd, Int.reduceSub, Int.reduceNeg])
  by_cases c2 : x < 2048
  · have ew : wr x = [bt (192 + x / 64), bt (128 + x % 64)] := by unfold wr; rw [if_neg c1, if_pos c2]
    simp +contextual only [vq, vc, ve, vv, vn, vl, ↓reduceIte, Nat.reduceEqDiff, Nat.reduceAdd, Nat.reduceMul, Nat.reduceSub, Nat.reduceLeDiff, Nat.reduceLT, Nat.reduceBEq, Nat.reduceBNe, reduceCtorEq, Int.reduceBEq, Int.reduceBNe, Int.reduceLT, Int.reduceLE, Int.reduceEq, Int.reduceToNat, Int.reduceAdd, Int.reduceSub, Int.reduceNeg, wx, c1, c2, d1, q1, r1, w 192 (x / 64) (by omega) (by omega), w 128 (x % 64) (by omega) (by omega), uz (show 0 ≤ 192 + x / 64 by omega) (by omega), uz (show 0 ≤ 128 + x % 64 by omega) (by omega)]
    refine new_mk fun M2 e2 => ?_
    simp +contextual only [vq, vc, ve, vv, vn, vl, ↓reduceIte, Nat.reduceEqDiff, Nat.reduceAdd, Nat.reduceMul, Nat.reduceSub, Nat.reduceLeDiff, Nat.reduceLT, Nat.reduceBEq, Nat.reduceBNe, reduceCtorEq, Int.reduceBEq, Int.reduceBNe, Int.reduceLT, Int.reduceLE, Int.reduceEq, Int.reduceToNat, Int.reduceAdd, Int.reduceSub, Int.reduceNeg]
    exact fin ew e2 (by simp +contextual only [vq, vc, ve, vv, vn, vl, ↓reduceIte, Nat.reduceEqDiff, Nat.reduceAdd, Nat.reduceMul, Nat.reduceSub, Nat.reduceLeDiff, Nat.reduceLT, Nat.reduceBEq, Nat.reduceBNe, reduceCtorEq, Int.reduceBEq, Int.reduceBNe, Int.reduceLT, Int.reduceLE, Int.reduceEq, Int.reduceToNat, Int.reduceAdd, Int.reduceSub, Int.reduceNeg])
  by_cases c3 : x < 65536
  · have ew : wr x = [bt (224 + x / 4096), bt (128 + x / 64 % 64), bt (128 + x % 64)] := by unfold wr; rw [if_neg c1, if_neg c2, if_pos c3]
    simp +contextual only [vq, vc, ve, vv, vn, vl, ↓reduceIte, Nat.reduceEqDiff, Nat.reduceAdd, Nat.reduceMul, Nat.reduceSub, Nat.reduceLeDiff, Nat.reduceLT, Nat.reduceBEq, Nat.reduceBNe, reduceCtorEq, Int.reduceBEq, Int.reduceBNe, Int.reduceLT, Int.reduceLE, Int.reduceEq, Int.reduceToNat, Int.reduceAdd, Int.reduceSub, Int.reduceNeg, wx, c1, c2, c3, d1, d2, q1, q2, r1, r2, w 224 (x / 4096) (by omega) (by omega), w 128 (x / 64 % 64) (by omega) (by omega), w 128 (x % 64) (by omega) (by omega), uz (show 0 ≤ 224 + x / 4096 by omega) (by omega), uz (show 0 ≤ 128 + x / 64 % 64 by omega) (by omega), uz (show 0 ≤ 128 + x % 64 by omega) (by omega)]
    refine new_mk fun M2 e2 => ?_
    simp +contextual only [vq, vc, ve, vv, vn, vl, ↓reduceIte, Nat.reduceEqDiff, Nat.reduceAdd, Nat.reduceMul, Nat.reduceSub, Nat.reduceLeDiff, Nat.reduceLT, Nat.reduceBEq, Nat.reduceBNe, reduceCtorEq, Int.reduceBEq, Int.reduceBNe, Int.reduceLT, Int.reduceLE, Int.reduceEq, Int.reduceToNat, Int.reduceAdd, Int.reduceSub, Int.reduceNeg]
    exact fin ew e2 (by simp +contextual only [vq, vc, ve, vv, vn, vl, ↓reduceIte, Nat.reduceEqDiff, Nat.reduceAdd, Nat.reduceMul, Nat.reduceSub, Nat.reduceLeDiff, Nat.reduceLT, Nat.reduceBEq, Nat.reduceBNe, reduceCtorEq, Int.reduceBEq, Int.reduceBNe, Int.reduceLT, Int.reduceLE, Int.reduceEq, Int.reduceToNat, Int.reduceAdd, Int.reduceSub, Int.reduceNeg])
  · have ew : wr x = [bt (240 + x / 262144), bt (128 + x / 4096 % 64), bt (128 + x / 64 % 64), bt (128 + x % 64)] := by unfold wr; rw [if_neg c1, if_neg c2, if_neg c3]
    simp +contextual only [vq, vc, ve, vv, vn, vl, ↓reduceIte, Nat.reduceEqDiff, Nat.reduceAdd, Nat.reduceMul, Nat.reduceSub, Nat.reduceLeDiff, Nat.reduceLT, Nat.reduceBEq, Nat.reduceBNe, reduceCtorEq, Int.reduceBEq, Int.reduceBNe, Int.reduceLT, Int.reduceLE, Int.reduceEq, Int.reduceToNat, Int.reduceAdd, Int.reduceSub, Int.reduceNeg, wx, c1, c2, c3, d1, d2, d3, q1, q2, q3, r1, r2, r3, w 240 (x / 262144) (by omega) (by omega), w 128 (x / 4096 % 64) (by omega) (by omega), w 128 (x / 64 % 64) (by omega) (by omega), w 128 (x % 64) (by omega) (by omega), uz (show 0 ≤ 240 + x / 262144 by omega) (by omega), uz (show 0 ≤ 128 + x / 4096 % 64 by omega) (by omega), uz (show 0 ≤ 128 + x / 64 % 64 by omega) (by omega), uz (show 0 ≤ 128 + x % 64 by omega) (by omega)]
    refine new_mk fun M2 e2 => ?_
    simp +contextual only [vq, vc, ve, vv, vn, vl, ↓reduceIte, Nat.reduceEqDiff, Nat.reduceAdd, Nat.reduceMul, Nat.reduceSub, Nat.reduceLeDiff, Nat.reduceLT, Nat.reduceBEq, Nat.reduceBNe, reduceCtorEq, Int.reduceBEq, Int.reduceBNe, Int.reduceLT, Int.reduceLE, Int.reduceEq, Int.reduceToNat, Int.reduceAdd, Int.reduceSub, Int.reduceNeg]
    exact fin ew e2 (by simp +contextual only [vq, vc, ve, vv, vn, vl, ↓reduceIte, Nat.reduceEqDiff, Nat.reduceAdd, Nat.reduceMul, Nat.reduceSub, Nat.reduceLeDiff, Nat.reduceLT, Nat.reduceBEq, Nat.reduceBNe, reduceCtorEq, Int.reduceBEq, Int.reduceBNe, Int.reduceLT, Int.reduceLE, Int.reduceEq, Int.reduceToNat, Int.reduceAdd, Int.reduceSub, Int.reduceNeg])
end Go.Proofs.YtmjoaiccbghijaaGreatDoor.paramAgain
